/- Whatever the two lists and the number: BitsCounted returns true, and what it was handed reads as before. Condition: the table of the library's TrailingZeros64 starts as the program's text lays it (the card ties it). -/
import Derived.Test.YtjofgphbmdbkmaaDoorSxWrap
import Derived.Test.YtjofgphbmdbkmaaDoorBx15
import Derived.Test.YtjofgphbmdbkmaaDoorCards
import Derived.Test.YtjofgphbmdbkmaaDoorTie
import Derived.LaidMore
import Derived.Stop.Joined
import Derived.Lib.LaidTab
import Derived.SevenTiedAt
/-! The rows and the cards. -/
namespace Go.Proofs.YtjofgphbmdbkmaaDoor
open Go.ChangeShapes Go.WideShapes Go.ChangeAt Go.RowKit Go.Sx Bx
theorem own : ownKnob Tryd.prog.godebug = none := by kernel_rfl
theorem laidOut : laidOutB Tryd.prog = true := by kernel_rfl
theorem cells3 : Tryd.prog.cellsOf 3 = 1 := by kernel_rfl
theorem gTab : Tryd.prog.globalNamed "math/bits.deBruijn64tab" = some 0 := by kernel_rfl
theorem gTabType : (Tryd.prog.globals[0]?).map (·.type) = some 53 := by kernel_rfl
theorem ztab {W : World} (h : laidMetH Tryd.prog [("math/bits.deBruijn64tab", Rows.laid_math_bits_deBruijn64tab)] W) : zTab.ok W := by
  have ht : Lib.TabIs Tryd.prog W "math/bits.deBruijn64tab" .u8 (Lib.deBruijn64tab.map Int.ofNat) := Lib.tabIs_of_head (rest := []) gTab gTabType Tryd.underlying53 Tryd.underlying5 (by kernel_rfl) (by kernel_rfl) h
  intro j hj
  have h1 := ht.cell gTab j (by simpa using hj)
  rw [h1]
  simp [List.getD, hj]
namespace bitsCounted
theorem contract (H : Type) (enc : TypeId × Value → H) (W : World) (base : Nat) (args : Array Value) (ds gs : List (DataW H)) (before : List MemPlace)
    (hval : ∀ (j : Nat) t v, Tryd.f9.params[j]? = some t → args[j]? = some v → Value.okWide Tryd.prog W .any base t v)
    (hW : DataW.Whole enc Tryd.prog Tryd.f9.params.toList Rows.bitsCountedSpec.vars false W args.toList ds gs before) (hL : laidMetH Tryd.prog Rows.bitsCountedRow.laid W) :
    Calls Tryd.prog 9 args W fun e W' => ∃ v, e = .returned v ∧ Rows.bitsCountedSpec.post enc Tryd.prog Tryd.f9 false true false false W args v W' := by
  have hW' := hW
  obtain ⟨p, q, hA0, hV, rfl, hfz, hnd⟩ := hW
  have hA : DataW.TrodAll enc Tryd.prog W 0 (fun _ => true) true Tryd.f9.params.toList args.toList ds p := hA0
  rw [Tryd.params9] at hA hval
  obtain ⟨v0, vs0, d0, ds0, p0, q0, hargs, rfl, rfl, h0, r0⟩ := trodAll_cons hA
  obtain ⟨v1, vs1, d1, ds1, p1, q1, rfl, rfl, rfl, h1, r1⟩ := trodAll_cons r0
  obtain ⟨v2, vs2, d2, ds2, p2, q2, rfl, rfl, rfl, h2, r2⟩ := trodAll_cons r1
  obtain ⟨rfl, rfl, rfl⟩ := trodAll_nil r2
  obtain rfl : args = #[v0, v1, v2] := by cases args; simp_all
  obtain ⟨rfl, rfl⟩ := trodVars_none hV
  clear hA0
  obtain ⟨x0, e0⟩ : ∃ zs : List Int, DenV (fun _ => undef) (fun _ => none) (fun _ => False) W (.s (.ro (.ints .i64 zs))) v0 := den_ints Tryd.underlying27 Tryd.underlying3 cells3 (hval 0 27 v0 rfl rfl) h0
  obtain ⟨x1, e1⟩ : ∃ zs : List Int, DenV (fun _ => undef) (fun _ => none) (fun _ => False) W (.s (.ro (.ints .i64 zs))) v1 := den_ints Tryd.underlying27 Tryd.underlying3 cells3 (hval 1 27 v1 rfl rfl) h1
  obtain ⟨x2, e2⟩ : ∃ n : Int, DenV (fun _ => undef) (fun _ => none) (fun _ => False) W (.s (.int .i64 n)) v2 := den_int Tryd.underlying3 (hval 2 3 v2 rfl rfl) h2
  refine (calls_true (f := 9) (ts := [tInts, tInts, tInt]) counted_ok (ztab hL) (x := (x0, x1, x2, ())) (vs := [v0, v1, v2]) (DenL_cons.2 ⟨v0, [v1, v2], rfl, e0, DenL_cons.2 ⟨v1, [v2], rfl, e1, DenL_cons.2 ⟨v2, [], rfl, e2, DenL_nil.2 rfl⟩⟩⟩)).mono ?_
  rintro e W' ⟨rfl, hsame⟩
  exact ⟨_, rfl, post_true laidOut (by kernel_rfl) (show Tryd.f9.resultTypes = #[4] from by kernel_rfl) Tryd.underlying4 rfl rfl hW' hsame⟩

theorem door_met (os : Os) (args : Array Value) : laidMetH Tryd.prog Rows.bitsCountedRow.laid ((World.doorLaid Tryd.prog 400 os).forCall (fun _ _ => 0) ⟨#[], args, []⟩).memory :=
  laidMet_of_run' 8 (by kernel_rfl) (by kernel_rfl)

set_option maxRecDepth 100000 in
theorem lifted (os : Os) (started : os.Started) (H : Type) (enc : TypeId × Value → H) :
    ReturnsInHanded {} Tryd.checked os 9 .any (fun w args => (Rows.bitsCountedSpec.pre enc Tryd.prog Tryd.f9 [] false w args ∧ laidMetH Tryd.prog Rows.bitsCountedRow.laid w) ∧ sizedMet enc Tryd.prog Tryd.f9 (OpenSpec.ofChange Rows.bitsCountedSpec) false w args)
      (Rows.bitsCountedSpec.post enc Tryd.prog Tryd.f9 false true false false) := by
  refine returnsInHanded_of_change_and (C := Tryd.checked) (X := fun w _ => laidMetH Tryd.prog Rows.bitsCountedRow.laid w) (fun _ _ _ hh h => h.of_heap hh) own started (by kernel_rfl) Tryd.func9
    (ChangeSpec.witness_shaped (enc := enc) (C := Tryd.checked) (os := os) (X := fun w _ => laidMetH Tryd.prog Rows.bitsCountedRow.laid w) false (World.doorLaid Tryd.prog 400 os) #[.slice none 0 0, .slice none 0 0, .int .i64 0] 8 rfl (World.shaped_of_RefB (by kernel_rfl) (by kernel_rfl)) (by kernel_rfl) (by kernel_rfl) (by kernel_rfl) (door_met os _)) ?_
  intro W base args ds gs before hval hW _ _ hL _
  exact contract H enc W base args ds gs before hval hW hL

theorem said : Rows.BitsCountedSaid :=
  OpenClaim.holds_of_wide 9 Tryd.f9 rfl rfl rfl rfl rfl rfl rfl ⟨rfl, rfl, rfl, rfl, rfl⟩ rfl rfl rfl rfl rfl (by kernel_rfl) Tryd.func9 (by kernel_rfl)
    (of_decide_eq_true (by kernel_rfl)) (by unfold Func.isWrapper; first | (rw [if_pos (by decide +kernel)]; kernel_rfl) | (rw [if_neg (by decide +kernel)]; exact ⟨rfl, rfl⟩))
    (fun os started H enc _ => lifted os started H enc)

theorem plain (f : FuncId) (fn : Func) (hf : Tryd.pinned.checked.prog.funcNamed "callboard/callboardlaw05.BitsCounted" = some f) (hfn : Tryd.pinned.checked.prog.funcs[f]? = some fn) :
    false = Tryd.pinned.checked.prog.looks [] ∧ ∀ (j : Nat) t, fn.params[j]? = some t → Tryd.pinned.checked.prog.wantsStandIn t = false := by
  obtain rfl : f = 9 := Option.some.inj ((show Tryd.prog.funcNamed "callboard/callboardlaw05.BitsCounted" = some 9 by kernel_rfl).symm.trans hf) |>.symm
  obtain rfl : fn = Tryd.f9 := (Option.some.inj (Tryd.func9.symm.trans hfn)).symm
  refine ⟨by kernel_rfl, fun j t ht => ?_⟩
  have hall : (Tryd.f9.params.toList.all fun u => !Tryd.prog.wantsStandIn u) = true := by kernel_rfl
  have hm := List.all_eq_true.1 hall t (Array.mem_toList_iff.2 (Array.mem_of_getElem? ht))
  exact (show Tryd.prog.wantsStandIn t = false by simpa using hm)

/-- The card. -/
theorem card : Rows.BitsCountedCardSaid :=
  Claim7.holds_tied_plain_at .later [] _ _ _ _ said (fun _ h => by cases h) (by kernel_rfl) (fun _ h => by cases h) bitsCounted_row_tie rfl ⟨rfl, rfl⟩ (by kernel_rfl) rfl plain (by kernel_rfl)
end bitsCounted

end Go.Proofs.YtjofgphbmdbkmaaDoor
