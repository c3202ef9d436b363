/- Whatever the arguments: TreeList returns true, and what it was handed reads as before. No condition. -/
import Derived.LaidMore
import Derived.Test.YtcjldfgkonfocaaDoorRows
import Derived.Test.YtcjldfgkonfocaaDoorCards
import Derived.Test.YtcjldfgkonfocaaDoorTie
import Derived.SevenTiedAt
import Derived.Lib.LaidTab
import Derived.Stop.Joined
import Derived.Test.YtcjldfgkonfocaaDoorPF
namespace Go.Proofs.YtcjldfgkonfocaaDoor
open Go.ChangeShapes Go.WideShapes Go.ChangeAt Go.RowKit Go.Sx Ts
namespace treeList
theorem aty : Tryd.prog.globalNamed "math/bits.deBruijn64tab" = some 1 := by kernel_rfl
theorem akD : (Tryd.prog.globals[1]?).map (·.type) = some 137 := by kernel_rfl
theorem auV {W : World} (h : laidMetH Tryd.prog [("math/bits.deBruijn64tab", Rows.laid_math_bits_deBruijn64tab)] W) : Bx.cn.ok W := by
  have ht : Lib.TabIs Tryd.prog W "math/bits.deBruijn64tab" .u8 (Lib.deBruijn64tab.map Int.ofNat) := Lib.tabIs_of_head (rest := []) aty akD Tryd.underlying137 Tryd.underlying5 (by kernel_rfl) (by kernel_rfl) h
  intro j hj
  have h1 := ht.cell aty j (by simpa using hj)
  rw [h1]
  simp [List.getD, hj]
set_option maxRecDepth 100000 in
theorem akE (H : Type) (enc : TypeId × Value → H) (W : World) (base : Nat) (args : Array Value) (ds gs : List (DataW H)) (before : List MemPlace)
    (kc : ∀ (j : Nat) t v, Tryd.f3.params[j]? = some t → args[j]? = some v → Value.okWide Tryd.prog W .any base t v)
    (hW : DataW.Whole enc Tryd.prog Tryd.f3.params.toList Rows.treeListSpec.vars false W args.toList ds gs before) (hL : laidMetH Tryd.prog Rows.treeListRow.laid W) :
    Calls Tryd.prog 3 args W fun e W' => ∃ v, e = .returned v ∧ Rows.treeListSpec.post enc Tryd.prog Tryd.f3 false true false false W args v W' := by
  have hW' := hW
  obtain ⟨p, q, hA0, hV, rfl, hfz, iv⟩ := hW
  have hA : DataW.TrodAll enc Tryd.prog W 0 (fun _ => true) true Tryd.f3.params.toList args.toList ds p := hA0
  rw [Tryd.params3] at hA kc
  obtain ⟨v0, vs0, d0, ds0, p0, q0, fA, rfl, rfl, h0, r0⟩ := trodAll_cons hA
  obtain ⟨rfl, rfl, rfl⟩ := trodAll_nil r0
  obtain rfl : args = #[v0] := by cases args; simp_all
  obtain ⟨rfl, rfl⟩ := trodVars_none hV
  clear hA0
  obtain ⟨x0, w0, e0⟩ : ∃ x : Ty.V (.b (.row (.ad [.int .u8, .str, .str]) 32)), Ty.wf (.b (.row (.ad [.int .u8, .str, .str]) 32)) x ∧ ab (fun _ => undef) (fun _ => none) (fun _ => False) W (Ty.av (.b (.row (.ad [.int .u8, .str, .str]) 32)) x) v0 := apl (by kernel_rfl) (kc 0 22 v0 rfl rfl) h0
  refine (uI (f := 3) (ts := [.b (.row (.ad [.int .u8, .str, .str]) 32)]) acg (auV hL) (x := (x0, ())) (vs := [v0]) (trivial) (aw.2 ⟨v0, [], rfl, e0, aU.2 rfl⟩)).mono ?_
  rintro e W' ⟨rfl, aeB⟩
  exact ⟨_, rfl, agu Hd.laidOut (by kernel_rfl) (show Tryd.f3.resultTypes = #[4] from by kernel_rfl) Tryd.underlying4 rfl rfl hW' aeB⟩
theorem akF (os : Os) (args : Array Value) : laidMetH Tryd.prog Rows.treeListRow.laid ((World.doorLaid Tryd.prog 400 os).forCall (fun _ _ => 0) ⟨#[], args, []⟩).memory :=
  laidMet_of_run' 8 (by kernel_rfl) (by kernel_rfl)
set_option maxRecDepth 100000 in
theorem lifted (os : Os) (started : os.Started) (H : Type) (enc : TypeId × Value → H) :
    ReturnsInHanded {} Tryd.checked os 3 .any (fun w args => (Rows.treeListSpec.pre enc Tryd.prog Tryd.f3 [] false w args ∧ laidMetH Tryd.prog Rows.treeListRow.laid w) ∧ sizedMet enc Tryd.prog Tryd.f3 (OpenSpec.ofChange Rows.treeListSpec) false w args)
      (Rows.treeListSpec.post enc Tryd.prog Tryd.f3 false true false false) := by
  refine returnsInHanded_of_change_and (C := Tryd.checked) (X := fun w _ => laidMetH Tryd.prog Rows.treeListRow.laid w) (fun _ _ _ hh h => h.of_heap hh) Hd.own started (by kernel_rfl) Tryd.func3
    (ChangeSpec.witness_shaped (enc := enc) (C := Tryd.checked) (os := os) (X := fun w _ => laidMetH Tryd.prog Rows.treeListRow.laid w) false (World.doorLaid Tryd.prog 400 os) #[.slice none 0 0] 8 rfl (World.shaped_of_RefB (by kernel_rfl) (by kernel_rfl)) (by kernel_rfl) (by kernel_rfl) (by kernel_rfl) (akF os _)) ?_
  intro W base args ds gs before kc hW _ _ hL _
  exact akE H enc W base args ds gs before kc hW hL
theorem said : Rows.TreeListSaid :=
  OpenClaim.holds_of_wide 3 Tryd.f3 rfl rfl rfl rfl rfl rfl rfl ⟨rfl, rfl, rfl, rfl, rfl⟩ rfl rfl rfl rfl rfl (by kernel_rfl) Tryd.func3 (adf Hd.aeD Hd.hb Hd.a3 Hd.a1 Hd.a2 Hd.a5 (by kernel_rfl))
    (of_decide_eq_true (by kernel_rfl)) (by unfold Func.isWrapper; first | (rw [if_pos (by decide +kernel)]; kernel_rfl) | (rw [if_neg (by decide +kernel)]; exact ⟨rfl, rfl⟩))
    (fun os started H enc _ => lifted os started H enc)
theorem plain (f : FuncId) (fn : Func) (hf : Tryd.pinned.checked.prog.funcNamed "callboard/callboardlaw07.TreeList" = some f) (hfn : Tryd.pinned.checked.prog.funcs[f]? = some fn) :
    false = Tryd.pinned.checked.prog.looks [] ∧ ∀ (j : Nat) t, fn.params[j]? = some t → Tryd.pinned.checked.prog.wantsStandIn t = false := by
  obtain rfl : f = 3 := Option.some.inj ((show Tryd.prog.funcNamed "callboard/callboardlaw07.TreeList" = some 3 by kernel_rfl).symm.trans hf) |>.symm
  obtain rfl : fn = Tryd.f3 := (Option.some.inj (Tryd.func3.symm.trans hfn)).symm
  refine ⟨by kernel_rfl, fun j t ht => ?_⟩
  have yH : (Tryd.f3.params.toList.all fun u => !Tryd.prog.wantsStandIn u) = true := by kernel_rfl
  have hm := List.all_eq_true.1 yH t (Array.mem_toList_iff.2 (Array.mem_of_getElem? ht))
  exact (show Tryd.prog.wantsStandIn t = false by simpa using hm)
theorem card : Rows.TreeListCardSaid :=
  Claim7.holds_tied_plain_at .later [] _ _ _ _ said (fun _ h => by cases h) (by kernel_rfl) (fun _ h => by cases h) treeList_row_tie rfl ⟨rfl, rfl⟩ (by kernel_rfl) rfl plain (by kernel_rfl)
#print axioms card
end treeList
end Go.Proofs.YtcjldfgkonfocaaDoor
