/- Whatever the arguments: TreeEmpty returns true, and what it was handed reads as before. No condition. -/
import Derived.LaidMore
import Derived.Test.YtcjldfgkonfocaaDoorRows
import Derived.Test.YtcjldfgkonfocaaDoorCards
import Derived.Test.YtcjldfgkonfocaaDoorTie
import Derived.SevenTiedAt
import Derived.Lib.LaidTab
import Derived.Stop.Joined
import Derived.Test.YtcjldfgkonfocaaDoorPF
namespace Go.Proofs.YtcjldfgkonfocaaDoor
open Go.ChangeShapes Go.WideShapes Go.ChangeAt Go.RowKit Go.Sx Ts
namespace treeEmpty
theorem at6 : Tryd.prog.globalNamed "math/bits.deBruijn64tab" = some 1 := by kernel_rfl
theorem akZ : (Tryd.prog.globals[1]?).map (·.type) = some 137 := by kernel_rfl
theorem avs {W : World} (h : laidMetH Tryd.prog [("math/bits.deBruijn64tab", Rows.laid_math_bits_deBruijn64tab)] W) : Bx.bV.ok W := by
  have ht : Lib.TabIs Tryd.prog W "math/bits.deBruijn64tab" .u8 (Lib.deBruijn64tab.map Int.ofNat) := Lib.tabIs_of_head (rest := []) at6 akZ Tryd.underlying137 Tryd.underlying5 (by kernel_rfl) (by kernel_rfl) h
  intro j hj
  have h1 := ht.cell at6 j (by simpa using hj)
  rw [h1]
  simp [List.getD, hj]
set_option maxRecDepth 100000 in
theorem ak0 (H : Type) (enc : TypeId × Value → H) (W : World) (base : Nat) (args : Array Value) (ds gs : List (DataW H)) (before : List MemPlace)
    (kj : ∀ (j : Nat) t v, Tryd.f6.params[j]? = some t → args[j]? = some v → Value.okWide Tryd.prog W .any base t v)
    (hW : DataW.Whole enc Tryd.prog Tryd.f6.params.toList Rows.treeEmptySpec.vars false W args.toList ds gs before) (hL : laidMetH Tryd.prog Rows.treeEmptyRow.laid W) :
    Calls Tryd.prog 6 args W fun e W' => ∃ v, e = .returned v ∧ Rows.treeEmptySpec.post enc Tryd.prog Tryd.f6 false true false false W args v W' := by
  have hW' := hW
  obtain ⟨p, q, hA0, hV, rfl, hfz, iF⟩ := hW
  have hA : DataW.TrodAll enc Tryd.prog W 0 (fun _ => true) true Tryd.f6.params.toList args.toList ds p := hA0
  rw [Tryd.params6] at hA kj
  obtain ⟨v0, vs0, d0, ds0, p0, q0, fI, rfl, rfl, h0, r0⟩ := trodAll_cons hA
  obtain ⟨rfl, rfl, rfl⟩ := trodAll_nil r0
  obtain rfl : args = #[v0] := by cases args; simp_all
  obtain ⟨rfl, rfl⟩ := trodVars_none hV
  clear hA0
  obtain ⟨x0, w0, e0⟩ : ∃ x : Ty.V (.b (.row (.ae [.int .u8, .str, .str]) 32)), Ty.wf (.b (.row (.ae [.int .u8, .str, .str]) 32)) x ∧ ab (fun _ => undef) (fun _ => none) (fun _ => False) W (Ty.av (.b (.row (.ae [.int .u8, .str, .str]) 32)) x) v0 := apO (by kernel_rfl) (kj 0 22 v0 rfl rfl) h0
  refine (uW (f := 6) (ts := [.b (.row (.ae [.int .u8, .str, .str]) 32)]) aam (avs hL) (x := (x0, ())) (vs := [v0]) (trivial) (aw.2 ⟨v0, [], rfl, e0, aV.2 rfl⟩)).mono ?_
  rintro e W' ⟨rfl, aeT⟩
  exact ⟨_, rfl, agR Hd.laidOut (by kernel_rfl) (show Tryd.f6.resultTypes = #[4] from by kernel_rfl) Tryd.underlying4 rfl rfl hW' aeT⟩
theorem ak1 (os : Os) (args : Array Value) : laidMetH Tryd.prog Rows.treeEmptyRow.laid ((World.doorLaid Tryd.prog 400 os).forCall (fun _ _ => 0) ⟨#[], args, []⟩).memory :=
  laidMet_of_run' 8 (by kernel_rfl) (by kernel_rfl)
set_option maxRecDepth 100000 in
theorem lifted (os : Os) (started : os.Started) (H : Type) (enc : TypeId × Value → H) :
    ReturnsInHanded {} Tryd.checked os 6 .any (fun w args => (Rows.treeEmptySpec.pre enc Tryd.prog Tryd.f6 [] false w args ∧ laidMetH Tryd.prog Rows.treeEmptyRow.laid w) ∧ sizedMet enc Tryd.prog Tryd.f6 (OpenSpec.ofChange Rows.treeEmptySpec) false w args)
      (Rows.treeEmptySpec.post enc Tryd.prog Tryd.f6 false true false false) := by
  refine returnsInHanded_of_change_and (C := Tryd.checked) (X := fun w _ => laidMetH Tryd.prog Rows.treeEmptyRow.laid w) (fun _ _ _ hh h => h.of_heap hh) Hd.own started (by kernel_rfl) Tryd.func6
    (ChangeSpec.witness_shaped (enc := enc) (C := Tryd.checked) (os := os) (X := fun w _ => laidMetH Tryd.prog Rows.treeEmptyRow.laid w) false (World.doorLaid Tryd.prog 400 os) #[.slice none 0 0] 8 rfl (World.shaped_of_RefB (by kernel_rfl) (by kernel_rfl)) (by kernel_rfl) (by kernel_rfl) (by kernel_rfl) (ak1 os _)) ?_
  intro W base args ds gs before kj hW _ _ hL _
  exact ak0 H enc W base args ds gs before kj hW hL
theorem said : Rows.TreeEmptySaid :=
  OpenClaim.holds_of_wide 6 Tryd.f6 rfl rfl rfl rfl rfl rfl rfl ⟨rfl, rfl, rfl, rfl, rfl⟩ rfl rfl rfl rfl rfl (by kernel_rfl) Tryd.func6 (adu Hd.aeV Hd.hb Hd.a3 Hd.a1 Hd.a2 Hd.a5 (by kernel_rfl))
    (of_decide_eq_true (by kernel_rfl)) (by unfold Func.isWrapper; first | (rw [if_pos (by decide +kernel)]; kernel_rfl) | (rw [if_neg (by decide +kernel)]; exact ⟨rfl, rfl⟩))
    (fun os started H enc _ => lifted os started H enc)
theorem plain (f : FuncId) (fn : Func) (hf : Tryd.pinned.checked.prog.funcNamed "callboard/callboardlaw07.TreeEmpty" = some f) (hfn : Tryd.pinned.checked.prog.funcs[f]? = some fn) :
    false = Tryd.pinned.checked.prog.looks [] ∧ ∀ (j : Nat) t, fn.params[j]? = some t → Tryd.pinned.checked.prog.wantsStandIn t = false := by
  obtain rfl : f = 6 := Option.some.inj ((show Tryd.prog.funcNamed "callboard/callboardlaw07.TreeEmpty" = some 6 by kernel_rfl).symm.trans hf) |>.symm
  obtain rfl : fn = Tryd.f6 := (Option.some.inj (Tryd.func6.symm.trans hfn)).symm
  refine ⟨by kernel_rfl, fun j t ht => ?_⟩
  have yT : (Tryd.f6.params.toList.all fun u => !Tryd.prog.wantsStandIn u) = true := by kernel_rfl
  have hm := List.all_eq_true.1 yT t (Array.mem_toList_iff.2 (Array.mem_of_getElem? ht))
  exact (show Tryd.prog.wantsStandIn t = false by simpa using hm)
theorem card : Rows.TreeEmptyCardSaid :=
  Claim7.holds_tied_plain_at .later [] _ _ _ _ said (fun _ h => by cases h) (by kernel_rfl) (fun _ h => by cases h) treeEmpty_row_tie rfl ⟨rfl, rfl⟩ (by kernel_rfl) rfl plain (by kernel_rfl)
#print axioms card
end treeEmpty
end Go.Proofs.YtcjldfgkonfocaaDoor
