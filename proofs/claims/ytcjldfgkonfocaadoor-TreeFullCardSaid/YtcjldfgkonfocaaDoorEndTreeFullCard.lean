/- Whatever the arguments: TreeFull returns true, and what it was handed reads as before. No condition. -/
import Derived.LaidMore
import Derived.Test.YtcjldfgkonfocaaDoorRows
import Derived.Test.YtcjldfgkonfocaaDoorCards
import Derived.Test.YtcjldfgkonfocaaDoorTie
import Derived.SevenTiedAt
import Derived.Lib.LaidTab
import Derived.Stop.Joined
import Derived.Test.YtcjldfgkonfocaaDoorPF
namespace Go.Proofs.YtcjldfgkonfocaaDoor
open Go.ChangeShapes Go.WideShapes Go.ChangeAt Go.RowKit Go.Sx Ts
namespace treeFull
theorem atz : Tryd.prog.globalNamed "math/bits.deBruijn64tab" = some 1 := by kernel_rfl
theorem akw : (Tryd.prog.globals[1]?).map (·.type) = some 137 := by kernel_rfl
theorem auZ {W : World} (h : laidMetH Tryd.prog [("math/bits.deBruijn64tab", Rows.laid_math_bits_deBruijn64tab)] W) : Bx.ct.ok W := by
  have ht : Lib.TabIs Tryd.prog W "math/bits.deBruijn64tab" .u8 (Lib.deBruijn64tab.map Int.ofNat) := Lib.tabIs_of_head (rest := []) atz akw Tryd.underlying137 Tryd.underlying5 (by kernel_rfl) (by kernel_rfl) h
  intro j hj
  have h1 := ht.cell atz j (by simpa using hj)
  rw [h1]
  simp [List.getD, hj]
set_option maxRecDepth 100000 in
theorem akx (H : Type) (enc : TypeId × Value → H) (W : World) (base : Nat) (args : Array Value) (ds gs : List (DataW H)) (before : List MemPlace)
    (iX : ∀ (j : Nat) t v, Tryd.f7.params[j]? = some t → args[j]? = some v → Value.okWide Tryd.prog W .any base t v)
    (hW : DataW.Whole enc Tryd.prog Tryd.f7.params.toList Rows.treeFullSpec.vars false W args.toList ds gs before) (hL : laidMetH Tryd.prog Rows.treeFullRow.laid W) :
    Calls Tryd.prog 7 args W fun e W' => ∃ v, e = .returned v ∧ Rows.treeFullSpec.post enc Tryd.prog Tryd.f7 false true false false W args v W' := by
  have hW' := hW
  obtain ⟨p, q, hA0, hV, rfl, hfz, iy⟩ := hW
  have hA : DataW.TrodAll enc Tryd.prog W 0 (fun _ => true) true Tryd.f7.params.toList args.toList ds p := hA0
  rw [Tryd.params7] at hA iX
  obtain ⟨v0, vs0, d0, ds0, p0, q0, fG, rfl, rfl, h0, r0⟩ := trodAll_cons hA
  obtain ⟨v1, vs1, d1, ds1, p1, q1, rfl, rfl, rfl, h1, r1⟩ := trodAll_cons r0
  obtain ⟨v2, vs2, d2, ds2, p2, q2, rfl, rfl, rfl, h2, r2⟩ := trodAll_cons r1
  obtain ⟨v3, vs3, d3, ds3, p3, q3, rfl, rfl, rfl, h3, r3⟩ := trodAll_cons r2
  obtain ⟨rfl, rfl, rfl⟩ := trodAll_nil r3
  obtain rfl : args = #[v0, v1, v2, v3] := by cases args; simp_all
  obtain ⟨rfl, rfl⟩ := trodVars_none hV
  clear hA0
  obtain ⟨x0, w0, e0⟩ : ∃ x : Ty.V (.b (.int .i64)), Ty.wf (.b (.int .i64)) x ∧ ab (fun _ => undef) (fun _ => none) (fun _ => False) W (Ty.av (.b (.int .i64)) x) v0 := y8 (by kernel_rfl) (iX 0 3 v0 rfl rfl) h0
  obtain ⟨x1, w1, e1⟩ : ∃ x : Ty.V (.b (.row (.ints .i64) 3)), Ty.wf (.b (.row (.ints .i64) 3)) x ∧ ab (fun _ => undef) (fun _ => none) (fun _ => False) W (Ty.av (.b (.row (.ints .i64) 3)) x) v1 := y8 (by kernel_rfl) (iX 1 61 v1 rfl rfl) h1
  obtain ⟨x2, w2, e2⟩ : ∃ x : Ty.V (.b (.row (.ad [.int .u8, .str, .str]) 32)), Ty.wf (.b (.row (.ad [.int .u8, .str, .str]) 32)) x ∧ ab (fun _ => undef) (fun _ => none) (fun _ => False) W (Ty.av (.b (.row (.ad [.int .u8, .str, .str]) 32)) x) v2 := y8 (by kernel_rfl) (iX 2 22 v2 rfl rfl) h2
  obtain ⟨x3, w3, e3⟩ : ∃ x : Ty.V (.b (.int .i64)), Ty.wf (.b (.int .i64)) x ∧ ab (fun _ => undef) (fun _ => none) (fun _ => False) W (Ty.av (.b (.int .i64)) x) v3 := y8 (by kernel_rfl) (iX 3 3 v3 rfl rfl) h3
  refine (uK (f := 7) (ts := [.b (.int .i64), .b (.row (.ints .i64) 3), .b (.row (.ad [.int .u8, .str, .str]) 32), .b (.int .i64)]) acb (auZ hL) (x := (x0, x1, x2, x3, ())) (vs := [v0, v1, v2, v3]) (trivial) (aw.2 ⟨v0, [v1, v2, v3], rfl, e0, aw.2 ⟨v1, [v2, v3], rfl, e1, aw.2 ⟨v2, [v3], rfl, e2, aw.2 ⟨v3, [], rfl, e3, aU.2 rfl⟩⟩⟩⟩)).mono ?_
  rintro e W' ⟨rfl, aez⟩
  exact ⟨_, rfl, agq Hd.laidOut (by kernel_rfl) (show Tryd.f7.resultTypes = #[4] from by kernel_rfl) Tryd.underlying4 rfl rfl hW' aez⟩
theorem aky (os : Os) (args : Array Value) : laidMetH Tryd.prog Rows.treeFullRow.laid ((World.doorLaid Tryd.prog 400 os).forCall (fun _ _ => 0) ⟨#[], args, []⟩).memory :=
  laidMet_of_run' 8 (by kernel_rfl) (by kernel_rfl)
set_option maxRecDepth 100000 in
theorem lifted (os : Os) (started : os.Started) (H : Type) (enc : TypeId × Value → H) :
    ReturnsInHanded {} Tryd.checked os 7 .any (fun w args => (Rows.treeFullSpec.pre enc Tryd.prog Tryd.f7 [] false w args ∧ laidMetH Tryd.prog Rows.treeFullRow.laid w) ∧ sizedMet enc Tryd.prog Tryd.f7 (OpenSpec.ofChange Rows.treeFullSpec) false w args)
      (Rows.treeFullSpec.post enc Tryd.prog Tryd.f7 false true false false) := by
  refine returnsInHanded_of_change_and (C := Tryd.checked) (X := fun w _ => laidMetH Tryd.prog Rows.treeFullRow.laid w) (fun _ _ _ hh h => h.of_heap hh) Hd.own started (by kernel_rfl) Tryd.func7
    (ChangeSpec.witness_shaped (enc := enc) (C := Tryd.checked) (os := os) (X := fun w _ => laidMetH Tryd.prog Rows.treeFullRow.laid w) false (World.doorLaid Tryd.prog 400 os) #[.int .i64 0, .slice none 0 0, .slice none 0 0, .int .i64 0] 8 rfl (World.shaped_of_RefB (by kernel_rfl) (by kernel_rfl)) (by kernel_rfl) (by kernel_rfl) (by kernel_rfl) (aky os _)) ?_
  intro W base args ds gs before iX hW _ _ hL _
  exact akx H enc W base args ds gs before iX hW hL
theorem said : Rows.TreeFullSaid :=
  OpenClaim.holds_of_wide 7 Tryd.f7 rfl rfl rfl rfl rfl rfl rfl ⟨rfl, rfl, rfl, rfl, rfl⟩ rfl rfl rfl rfl rfl (by kernel_rfl) Tryd.func7 (ac8 Hd.aeB Hd.hb Hd.a3 Hd.a1 Hd.a2 Hd.a5 (by kernel_rfl))
    (of_decide_eq_true (by kernel_rfl)) (by unfold Func.isWrapper; first | (rw [if_pos (by decide +kernel)]; kernel_rfl) | (rw [if_neg (by decide +kernel)]; exact ⟨rfl, rfl⟩))
    (fun os started H enc _ => lifted os started H enc)
theorem plain (f : FuncId) (fn : Func) (hf : Tryd.pinned.checked.prog.funcNamed "callboard/callboardlaw07.TreeFull" = some f) (hfn : Tryd.pinned.checked.prog.funcs[f]? = some fn) :
    false = Tryd.pinned.checked.prog.looks [] ∧ ∀ (j : Nat) t, fn.params[j]? = some t → Tryd.pinned.checked.prog.wantsStandIn t = false := by
  obtain rfl : f = 7 := Option.some.inj ((show Tryd.prog.funcNamed "callboard/callboardlaw07.TreeFull" = some 7 by kernel_rfl).symm.trans hf) |>.symm
  obtain rfl : fn = Tryd.f7 := (Option.some.inj (Tryd.func7.symm.trans hfn)).symm
  refine ⟨by kernel_rfl, fun j t ht => ?_⟩
  have yA : (Tryd.f7.params.toList.all fun u => !Tryd.prog.wantsStandIn u) = true := by kernel_rfl
  have hm := List.all_eq_true.1 yA t (Array.mem_toList_iff.2 (Array.mem_of_getElem? ht))
  exact (show Tryd.prog.wantsStandIn t = false by simpa using hm)
theorem card : Rows.TreeFullCardSaid :=
  Claim7.holds_tied_plain_at .later [] _ _ _ _ said (fun _ h => by cases h) (by kernel_rfl) (fun _ h => by cases h) treeFull_row_tie rfl ⟨rfl, rfl⟩ (by kernel_rfl) rfl plain (by kernel_rfl)
#print axioms card
end treeFull
end Go.Proofs.YtcjldfgkonfocaaDoor
