/- Whatever the arguments: TreeNames returns true, and what it was handed reads as before. No condition. -/
import Derived.LaidMore
import Derived.Test.YtcjldfgkonfocaaDoorRows
import Derived.Test.YtcjldfgkonfocaaDoorCards
import Derived.Test.YtcjldfgkonfocaaDoorTie
import Derived.SevenTiedAt
import Derived.Lib.LaidTab
import Derived.Stop.Joined
import Derived.Test.YtcjldfgkonfocaaDoorPF
namespace Go.Proofs.YtcjldfgkonfocaaDoor
open Go.ChangeShapes Go.WideShapes Go.ChangeAt Go.RowKit Go.Sx Ts
namespace treeNames
theorem auI : Tryd.prog.globalNamed "math/bits.deBruijn64tab" = some 1 := by kernel_rfl
theorem akY : (Tryd.prog.globals[1]?).map (·.type) = some 137 := by kernel_rfl
theorem awe {W : World} (h : laidMetH Tryd.prog [("math/bits.deBruijn64tab", Rows.laid_math_bits_deBruijn64tab)] W) : Bx.bV.ok W := by
  have ht : Lib.TabIs Tryd.prog W "math/bits.deBruijn64tab" .u8 (Lib.deBruijn64tab.map Int.ofNat) := Lib.tabIs_of_head (rest := []) auI akY Tryd.underlying137 Tryd.underlying5 (by kernel_rfl) (by kernel_rfl) h;intro j hj;have h1 := ht.cell auI j (by simpa using hj);rw [h1];simp [List.getD, hj]
set_option maxRecDepth 100000 in
theorem akZ (H : Type) (enc : TypeId × Value → H) (W : World) (base : Nat) (args : Array Value) (ds gs : List (DataW H)) (before : List MemPlace)
    (tj : ∀ (j : Nat) t v, Tryd.f5.params[j]? = some t → args[j]? = some v → Value.okWide Tryd.prog W .any base t v)
    (hW : DataW.Whole enc Tryd.prog Tryd.f5.params.toList Rows.treeNamesSpec.vars false W args.toList ds gs before) (hL : laidMetH Tryd.prog Rows.treeNamesRow.laid W) :
    Calls Tryd.prog 5 args W fun e W' => ∃ v, e = .returned v ∧ Rows.treeNamesSpec.post enc Tryd.prog Tryd.f5 false true false false W args v W' := by
  have hW' := hW;obtain ⟨p, q, hA0, hV, rfl, hfz, iL⟩ := hW;have hA : DataW.TrodAll enc Tryd.prog W 0 (fun _ => true) true Tryd.f5.params.toList args.toList ds p := hA0;rw [Tryd.params5] at hA tj;obtain ⟨fN, rfl, rfl⟩ := trodAll_nil hA;obtain rfl : args = #[] := by cases args; simp_all
  obtain ⟨rfl, rfl⟩ := trodVars_none hV;clear hA0;refine (vj (f := 5) (ts := []) aau (awe hL) (x := (())) (vs := []) (trivial) (aU.2 rfl)).mono ?_;rintro e W' ⟨rfl, aeS⟩;exact ⟨_, rfl, agS Hd.laidOut (by kernel_rfl) (show Tryd.f5.resultTypes = #[4] from by kernel_rfl) Tryd.underlying4 rfl rfl hW' aeS⟩
theorem ak0 (os : Os) (args : Array Value) : laidMetH Tryd.prog Rows.treeNamesRow.laid ((World.doorLaid Tryd.prog 400 os).forCall (fun _ _ => 0) ⟨#[], args, []⟩).memory :=
  laidMet_of_run' 8 (by kernel_rfl) (by kernel_rfl)
set_option maxRecDepth 100000 in
theorem lifted (os : Os) (started : os.Started) (H : Type) (enc : TypeId × Value → H) :
    ReturnsInHanded {} Tryd.checked os 5 .any (fun w args => (Rows.treeNamesSpec.pre enc Tryd.prog Tryd.f5 [] false w args ∧ laidMetH Tryd.prog Rows.treeNamesRow.laid w) ∧ sizedMet enc Tryd.prog Tryd.f5 (OpenSpec.ofChange Rows.treeNamesSpec) false w args)
      (Rows.treeNamesSpec.post enc Tryd.prog Tryd.f5 false true false false) := by
  refine returnsInHanded_of_change_and (C := Tryd.checked) (X := fun w _ => laidMetH Tryd.prog Rows.treeNamesRow.laid w) (fun _ _ _ hh h => h.of_heap hh) Hd.own started (by kernel_rfl) Tryd.func5
    (ChangeSpec.witness_shaped (enc := enc) (C := Tryd.checked) (os := os) (X := fun w _ => laidMetH Tryd.prog Rows.treeNamesRow.laid w) false (World.doorLaid Tryd.prog 400 os) #[] 8 rfl (World.shaped_of_RefB (by kernel_rfl) (by kernel_rfl)) (by kernel_rfl) (by kernel_rfl) (by kernel_rfl) (ak0 os _)) ?_
  intro W base args ds gs before tj hW _ _ hL _;exact akZ H enc W base args ds gs before tj hW hL
theorem said : Rows.TreeNamesSaid :=
  OpenClaim.holds_of_wide 5 Tryd.f5 rfl rfl rfl rfl rfl rfl rfl ⟨rfl, rfl, rfl, rfl, rfl⟩ rfl rfl rfl rfl rfl (by kernel_rfl) Tryd.func5 (adw Hd.aeT Hd.hb Hd.a3 Hd.a1 Hd.a2 Hd.a5 (by kernel_rfl))
    (of_decide_eq_true (by kernel_rfl)) (by unfold Func.isWrapper; first | (rw [if_pos (by decide +kernel)]; kernel_rfl) | (rw [if_neg (by decide +kernel)]; exact ⟨rfl, rfl⟩))
    (fun os started H enc _ => lifted os started H enc)
theorem plain (f : FuncId) (fn : Func) (hf : Tryd.pinned.checked.prog.funcNamed "callboard/callboardlaw07.TreeNames" = some f) (hfn : Tryd.pinned.checked.prog.funcs[f]? = some fn) :
    false = Tryd.pinned.checked.prog.looks [] ∧ ∀ (j : Nat) t, fn.params[j]? = some t → Tryd.pinned.checked.prog.wantsStandIn t = false := by
  obtain rfl : f = 5 := Option.some.inj ((show Tryd.prog.funcNamed "callboard/callboardlaw07.TreeNames" = some 5 by kernel_rfl).symm.trans hf) |>.symm;obtain rfl : fn = Tryd.f5 := (Option.some.inj (Tryd.func5.symm.trans hfn)).symm;refine ⟨by kernel_rfl, fun j t ht => ?_⟩;have y9 : (Tryd.f5.params.toList.all fun u => !Tryd.prog.wantsStandIn u) = true := by kernel_rfl
  have hm := List.all_eq_true.1 y9 t (Array.mem_toList_iff.2 (Array.mem_of_getElem? ht));exact (show Tryd.prog.wantsStandIn t = false by simpa using hm)
theorem card : Rows.TreeNamesCardSaid :=
  Claim7.holds_tied_plain_at .later [] _ _ _ _ said (fun _ h => by cases h) (by kernel_rfl) (fun _ h => by cases h) treeNames_row_tie rfl ⟨rfl, rfl⟩ (by kernel_rfl) rfl plain (by kernel_rfl)
#print axioms card
end treeNames
end Go.Proofs.YtcjldfgkonfocaaDoor
