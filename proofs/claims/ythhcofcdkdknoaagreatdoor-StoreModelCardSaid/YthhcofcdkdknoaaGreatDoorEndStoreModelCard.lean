/- Whatever the arguments: StoreModel returns true, and what it was handed reads as before. No condition. -/
import Derived.LaidMore
import Derived.Test.YthhcofcdkdknoaaGreatDoorRows
import Derived.Test.YthhcofcdkdknoaaGreatDoorCards
import Derived.Test.YthhcofcdkdknoaaGreatDoorTie
import Derived.SevenTiedAt
import Derived.Lib.LaidTab
import Derived.Stop.Joined
import Derived.Test.YthhcofcdkdknoaaGreatDoorPF
namespace Go.Proofs.YthhcofcdkdknoaaGreatDoor
open Go.ChangeShapes Go.WideShapes Go.ChangeAt Go.RowKit Go.Sx Ts
namespace storeModel
theorem azl : Tryz.prog.globalNamed "math/bits.deBruijn64tab" = some 0 := by kernel_rfl
theorem apq : (Tryz.prog.globals[0]?).map (·.type) = some 164 := by kernel_rfl
theorem aBo {W : World} (h : laidMetH Tryz.prog [("math/bits.deBruijn64tab", Rows.laid_math_bits_deBruijn64tab)] W) : Bx.bQ.ok W := by
  have ht : Lib.TabIs Tryz.prog W "math/bits.deBruijn64tab" .u8 (Lib.deBruijn64tab.map Int.ofNat) := Lib.tabIs_of_head (rest := []) azl apq Tryz.underlying164 Tryz.underlying5 (by kernel_rfl) (by kernel_rfl) h;intro j hj;have h1 := ht.cell azl j (by simpa using hj);rw [h1];simp [List.getD, hj]
set_option maxRecDepth 100000 in
theorem apr (H : Type) (enc : TypeId × Value → H) (W : World) (base : Nat) (args : Array Value) (ds gs : List (DataW H)) (before : List MemPlace)
    (kZ : ∀ (j : Nat) t v, Tryz.f5.params[j]? = some t → args[j]? = some v → Value.okWide Tryz.prog W .any base t v)
    (hW : DataW.Whole enc Tryz.prog Tryz.f5.params.toList Rows.storeModelSpec.vars false W args.toList ds gs before) (hL : laidMetH Tryz.prog Rows.storeModelRow.laid W) :
    Calls Tryz.prog 5 args W fun e W' => ∃ v, e = .returned v ∧ Rows.storeModelSpec.post enc Tryz.prog Tryz.f5 false true false false W args v W' := by
  have hW' := hW;obtain ⟨p, q, hA0, hV, rfl, hfz, ix⟩ := hW;have hA : DataW.TrodAll enc Tryz.prog W 0 (fun _ => true) true Tryz.f5.params.toList args.toList ds p := hA0;rw [Tryz.params5] at hA kZ;obtain ⟨v0, vs0, d0, ds0, p0, q0, gw, rfl, rfl, h0, r0⟩ := trodAll_cons hA;obtain ⟨v1, vs1, d1, ds1, p1, q1, rfl, rfl, rfl, h1, r1⟩ := trodAll_cons r0;obtain ⟨rfl, rfl, rfl⟩ := trodAll_nil r1;obtain rfl : args = #[v0, v1] := by cases args; simp_all
  obtain ⟨rfl, rfl⟩ := trodVars_none hV;clear hA0;obtain ⟨x0, w0, e0⟩ : ∃ x : Ty.V (.b (.int .u8)), Ty.wf (.b (.int .u8)) x ∧ af (fun _ => undef) (fun _ => none) (fun _ => False) W (Ty.av (.b (.int .u8)) x) v0 := amj (by kernel_rfl) (kZ 0 5 v0 rfl rfl) h0;obtain ⟨x1, w1, e1⟩ : ∃ x : Ty.V (.b (.row (.au [.int .u8, .str, .str, .int .i64, .bG, .int .i64, .int .i64]) 85)), Ty.wf (.b (.row (.au [.int .u8, .str, .str, .int .i64, .bG, .int .i64, .int .i64]) 85)) x ∧ af (fun _ => undef) (fun _ => none) (fun _ => False) W (Ty.av (.b (.row (.au [.int .u8, .str, .str, .int .i64, .bG, .int .i64, .int .i64]) 85)) x) v1 := amj (by kernel_rfl) (kZ 1 75 v1 rfl rfl) h1;refine (x7 (f := 5) (ts := [.b (.int .u8), .b (.row (.au [.int .u8, .str, .str, .int .i64, .bG, .int .i64, .int .i64]) 85)]) aBJ (aBo hL) (x := (x0, x1, ())) (vs := [v0, v1]) (⟨⟨w0, w1, trivial⟩, trivial⟩) (aE.2 ⟨v0, [v1], rfl, e0, aE.2 ⟨v1, [], rfl, e1, ba.2 rfl⟩⟩)).mono ?_;rintro e W' ⟨rfl, ah1⟩;exact ⟨_, rfl, akf Hd.laidOut (by kernel_rfl) (show Tryz.f5.resultTypes = #[4] from by kernel_rfl) Tryz.underlying4 rfl rfl hW' ah1⟩
theorem aps (os : Os) (args : Array Value) : laidMetH Tryz.prog Rows.storeModelRow.laid ((World.doorLaid Tryz.prog 400 os).forCall (fun _ _ => 0) ⟨#[], args, []⟩).memory :=
  laidMet_of_run' 8 (by kernel_rfl) (by kernel_rfl)
set_option maxRecDepth 100000 in
theorem lifted (os : Os) (started : os.Started) (H : Type) (enc : TypeId × Value → H) :
    ReturnsInHanded {} Tryz.checked os 5 .any (fun w args => (Rows.storeModelSpec.pre enc Tryz.prog Tryz.f5 [] false w args ∧ laidMetH Tryz.prog Rows.storeModelRow.laid w) ∧ sizedMet enc Tryz.prog Tryz.f5 (OpenSpec.ofChange Rows.storeModelSpec) false w args)
      (Rows.storeModelSpec.post enc Tryz.prog Tryz.f5 false true false false) := by
  refine returnsInHanded_of_change_and (C := Tryz.checked) (X := fun w _ => laidMetH Tryz.prog Rows.storeModelRow.laid w) (fun _ _ _ hh h => h.of_heap hh) Hd.aq started (by kernel_rfl) Tryz.func5
    (ChangeSpec.witness_shaped (enc := enc) (C := Tryz.checked) (os := os) (X := fun w _ => laidMetH Tryz.prog Rows.storeModelRow.laid w) false (World.doorLaid Tryz.prog 400 os) #[.int .u8 0, .slice none 0 0] 8 rfl (World.shaped_of_RefB (by kernel_rfl) (by kernel_rfl)) (by kernel_rfl) (by kernel_rfl) (by kernel_rfl) (aps os _)) ?_
  intro W base args ds gs before kZ hW _ _ hL _;exact apr H enc W base args ds gs before kZ hW hL
theorem said : Rows.StoreModelSaid :=
  OpenClaim.holds_of_wide 5 Tryz.f5 rfl rfl rfl rfl rfl rfl rfl ⟨rfl, rfl, rfl, rfl, rfl⟩ rfl rfl rfl rfl rfl (by kernel_rfl) Tryz.func5 (agt Hd.ah3 Hd.hb Hd.a3 Hd.a1 Hd.a2 Hd.a5 (by kernel_rfl))
    (of_decide_eq_true (by kernel_rfl)) (by unfold Func.isWrapper; first | (rw [if_pos (by decide +kernel)]; kernel_rfl) | (rw [if_neg (by decide +kernel)]; exact ⟨rfl, rfl⟩))
    (fun os started H enc _ => lifted os started H enc)
theorem plain (f : FuncId) (fn : Func) (hf : Tryz.pinned.checked.prog.funcNamed "callboard/callboardlaw08.StoreModel" = some f) (hfn : Tryz.pinned.checked.prog.funcs[f]? = some fn) :
    false = Tryz.pinned.checked.prog.looks [] ∧ ∀ (j : Nat) t, fn.params[j]? = some t → Tryz.pinned.checked.prog.wantsStandIn t = false := by
  obtain rfl : f = 5 := Option.some.inj ((show Tryz.prog.funcNamed "callboard/callboardlaw08.StoreModel" = some 5 by kernel_rfl).symm.trans hf) |>.symm;obtain rfl : fn = Tryz.f5 := (Option.some.inj (Tryz.func5.symm.trans hfn)).symm;refine ⟨by kernel_rfl, fun j t ht => ?_⟩;have abA : (Tryz.f5.params.toList.all fun u => !Tryz.prog.wantsStandIn u) = true := by kernel_rfl
  have hm := List.all_eq_true.1 abA t (Array.mem_toList_iff.2 (Array.mem_of_getElem? ht));exact (show Tryz.prog.wantsStandIn t = false by simpa using hm)
theorem card : Rows.StoreModelCardSaid :=
  Claim7.holds_tied_plain_at .later [] _ _ _ _ said (fun _ h => by cases h) (by kernel_rfl) (fun _ h => by cases h) storeModel_row_tie rfl ⟨rfl, rfl⟩ (by kernel_rfl) rfl plain (by kernel_rfl)
#print axioms card
end storeModel
end Go.Proofs.YthhcofcdkdknoaaGreatDoor
