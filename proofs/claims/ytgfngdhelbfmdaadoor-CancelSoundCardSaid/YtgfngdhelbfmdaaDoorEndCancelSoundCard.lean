/- Whatever the arguments: CancelSound returns true, and what it was handed reads as before. No condition. -/
import Derived.LaidMore
import Derived.Test.YtgfngdhelbfmdaaDoorRows
import Derived.Test.YtgfngdhelbfmdaaDoorCards
import Derived.Test.YtgfngdhelbfmdaaDoorTie
import Derived.SevenTiedAt
import Derived.Stop.Joined
import Derived.Test.YtgfngdhelbfmdaaDoorPF

/-! The row. -/
namespace Go.Proofs.YtgfngdhelbfmdaaDoor
open Go.ChangeShapes Go.WideShapes Go.ChangeAt Go.RowKit Go.Sx Ds
namespace cancelSound
set_option maxRecDepth 100000 in
theorem contract (H : Type) (enc : TypeId × Value → H) (W : World) (base : Nat) (args : Array Value) (ds gs : List (DataW H)) (before : List MemPlace)
    (hval : ∀ (j : Nat) t v, Tryd.f7.params[j]? = some t → args[j]? = some v → Value.okWide Tryd.prog W .any base t v)
    (hW : DataW.Whole enc Tryd.prog Tryd.f7.params.toList Rows.cancelSoundSpec.vars false W args.toList ds gs before) (hL : laidMetH Tryd.prog Rows.cancelSoundRow.laid W) :
    Calls Tryd.prog 7 args W fun e W' => ∃ v, e = .returned v ∧ Rows.cancelSoundSpec.post enc Tryd.prog Tryd.f7 false true false false W args v W' := by
  have hW' := hW
  obtain ⟨p, q, hA0, hV, rfl, hfz, hnd⟩ := hW
  have hA : DataW.TrodAll enc Tryd.prog W 0 (fun _ => true) true Tryd.f7.params.toList args.toList ds p := hA0
  rw [Tryd.params7] at hA hval
  obtain ⟨v0, vs0, d0, ds0, p0, q0, hargs, rfl, rfl, h0, r0⟩ := trodAll_cons hA
  obtain ⟨v1, vs1, d1, ds1, p1, q1, rfl, rfl, rfl, h1, r1⟩ := trodAll_cons r0
  obtain ⟨rfl, rfl, rfl⟩ := trodAll_nil r1
  obtain rfl : args = #[v0, v1] := by cases args; simp_all
  obtain ⟨rfl, rfl⟩ := trodVars_none hV
  clear hA0
  obtain ⟨x0, w0, e0⟩ : ∃ x : Ty.V (.st [.int .i64, .int .i64, .row (.typ [.str, .rows [.str, .int .u8, .int .i64, .str], .rows [.str, .int .u8, .int .i64, .int .i64, .int .u8, .str, .str, .str, .bool, .rows [.str, .int .u8, .int .i64, .str], .strs], .rows [.int .i64, .int .i64, .str, .bool]]) 40, .row (.typ [.int .i64, .int .i64, .int .u8, .str, .int .i64, .int .i64, .int .u8, .str]) 31, .row (.typ [.int .i64, .str, .int .u8, .int .i64, .str]) 82, .row (.typ [.int .i64, .int .i64, .int .i64, .int .u8, .str, .int .i64, .bool]) 85]), Ty.wf (.st [.int .i64, .int .i64, .row (.typ [.str, .rows [.str, .int .u8, .int .i64, .str], .rows [.str, .int .u8, .int .i64, .int .i64, .int .u8, .str, .str, .str, .bool, .rows [.str, .int .u8, .int .i64, .str], .strs], .rows [.int .i64, .int .i64, .str, .bool]]) 40, .row (.typ [.int .i64, .int .i64, .int .u8, .str, .int .i64, .int .i64, .int .u8, .str]) 31, .row (.typ [.int .i64, .str, .int .u8, .int .i64, .str]) 82, .row (.typ [.int .i64, .int .i64, .int .i64, .int .u8, .str, .int .i64, .bool]) 85]) x ∧ DenV (fun _ => undef) (fun _ => none) (fun _ => False) W (Ty.av (.st [.int .i64, .int .i64, .row (.typ [.str, .rows [.str, .int .u8, .int .i64, .str], .rows [.str, .int .u8, .int .i64, .int .i64, .int .u8, .str, .str, .str, .bool, .rows [.str, .int .u8, .int .i64, .str], .strs], .rows [.int .i64, .int .i64, .str, .bool]]) 40, .row (.typ [.int .i64, .int .i64, .int .u8, .str, .int .i64, .int .i64, .int .u8, .str]) 31, .row (.typ [.int .i64, .str, .int .u8, .int .i64, .str]) 82, .row (.typ [.int .i64, .int .i64, .int .i64, .int .u8, .str, .int .i64, .bool]) 85]) x) v0 := den_ty (by kernel_rfl) (hval 0 27 v0 rfl rfl) h0
  obtain ⟨x1, w1, e1⟩ : ∃ x : Ty.V (.b (.int .i64)), Ty.wf (.b (.int .i64)) x ∧ DenV (fun _ => undef) (fun _ => none) (fun _ => False) W (Ty.av (.b (.int .i64)) x) v1 := den_ty (by kernel_rfl) (hval 1 3 v1 rfl rfl) h1
  obtain ⟨KV⟩ : Nonempty (MapVar Tryd.prog (Glob.all W) Ds.gKi Ds.tKi Ds.kindsF) := mapVar_of (rows := [(2, [3]), (3, [11, 12, 14]), (4, [6, 10]), (5, [8, 9]), (6, [7, 9, 2])]) (name := "callboard/arena.kinds") (rest := []) (by kernel_rfl) (by kernel_rfl) (kt := 5) (et := 102) (e1 := 5) (by kernel_rfl) (by kernel_rfl) (by kernel_rfl) (by kernel_rfl) (by kernel_rfl) (by kernel_rfl) Ds.kinds_rows Ds.kinds_no hL
  refine (calls_true_pre (f := 7) (ts := [.st [.int .i64, .int .i64, .row (.typ [.str, .rows [.str, .int .u8, .int .i64, .str], .rows [.str, .int .u8, .int .i64, .int .i64, .int .u8, .str, .str, .str, .bool, .rows [.str, .int .u8, .int .i64, .str], .strs], .rows [.int .i64, .int .i64, .str, .bool]]) 40, .row (.typ [.int .i64, .int .i64, .int .u8, .str, .int .i64, .int .i64, .int .u8, .str]) 31, .row (.typ [.int .i64, .str, .int .u8, .int .i64, .str]) 82, .row (.typ [.int .i64, .int .i64, .int .i64, .int .u8, .str, .int .i64, .bool]) 85], .b (.int .i64)]) (cancelSound_ok KV) (Glob.all_self W) (x := (x0, x1, ())) (vs := [v0, v1]) (trivial) (DenL_cons.2 ⟨v0, [v1], rfl, e0, DenL_cons.2 ⟨v1, [], rfl, e1, DenL_nil.2 rfl⟩⟩)).mono ?_
  rintro e W' ⟨rfl, hsame⟩
  exact ⟨_, rfl, post_true Hd.laidOut (by kernel_rfl) (show Tryd.f7.resultTypes = #[4] from by kernel_rfl) Tryd.underlying4 rfl rfl hW' hsame⟩

theorem door_met (os : Os) (args : Array Value) : laidMetH Tryd.prog Rows.cancelSoundRow.laid ((World.doorLaid Tryd.prog 400 os).forCall (fun _ _ => 0) ⟨#[], args, []⟩).memory :=
  laidMet_of_run' 8 (by kernel_rfl) (by kernel_rfl)

set_option maxRecDepth 100000 in
theorem lifted (os : Os) (started : os.Started) (H : Type) (enc : TypeId × Value → H) :
    ReturnsInHanded {} Tryd.checked os 7 .any (fun w args => (Rows.cancelSoundSpec.pre enc Tryd.prog Tryd.f7 [] false w args ∧ laidMetH Tryd.prog Rows.cancelSoundRow.laid w) ∧ sizedMet enc Tryd.prog Tryd.f7 (OpenSpec.ofChange Rows.cancelSoundSpec) false w args)
      (Rows.cancelSoundSpec.post enc Tryd.prog Tryd.f7 false true false false) := by
  refine returnsInHanded_of_change_and (C := Tryd.checked) (X := fun w _ => laidMetH Tryd.prog Rows.cancelSoundRow.laid w) (fun _ _ _ hh h => h.of_heap hh) Hd.own started (by kernel_rfl) Tryd.func7
    (ChangeSpec.witness_shaped (enc := enc) (C := Tryd.checked) (os := os) (X := fun w _ => laidMetH Tryd.prog Rows.cancelSoundRow.laid w) false (World.doorLaid Tryd.prog 400 os) #[.agg #[.int .i64 0, .int .i64 0, .slice none 0 0, .slice none 0 0, .slice none 0 0, .slice none 0 0], .int .i64 0] 8 rfl (World.shaped_of_RefB (by kernel_rfl) (by kernel_rfl)) (by kernel_rfl) (by kernel_rfl) (by kernel_rfl) (door_met os _)) ?_
  intro W base args ds gs before hval hW _ _ hL _
  exact contract H enc W base args ds gs before hval hW hL

theorem said : Rows.CancelSoundSaid :=
  OpenClaim.holds_of_wide 7 Tryd.f7 rfl rfl rfl rfl rfl rfl rfl ⟨rfl, rfl, rfl, rfl, rfl⟩ rfl rfl rfl rfl rfl (by kernel_rfl) Tryd.func7 (joined_cut Hd.restL Hd.hb Hd.a3 Hd.a1 Hd.a2 Hd.a5 (by kernel_rfl))
    (of_decide_eq_true (by kernel_rfl)) (by unfold Func.isWrapper; first | (rw [if_pos (by decide +kernel)]; kernel_rfl) | (rw [if_neg (by decide +kernel)]; exact ⟨rfl, rfl⟩))
    (fun os started H enc _ => lifted os started H enc)

theorem plain (f : FuncId) (fn : Func) (hf : Tryd.pinned.checked.prog.funcNamed "callboard/callboardlaw21.CancelSound" = some f) (hfn : Tryd.pinned.checked.prog.funcs[f]? = some fn) :
    true = Tryd.pinned.checked.prog.looks [] ∧ ∀ (j : Nat) t, fn.params[j]? = some t → Tryd.pinned.checked.prog.wantsStandIn t = false := by
  obtain rfl : f = 7 := Option.some.inj ((show Tryd.prog.funcNamed "callboard/callboardlaw21.CancelSound" = some 7 by kernel_rfl).symm.trans hf) |>.symm
  obtain rfl : fn = Tryd.f7 := (Option.some.inj (Tryd.func7.symm.trans hfn)).symm
  refine ⟨by kernel_rfl, fun j t ht => ?_⟩
  have hall : (Tryd.f7.params.toList.all fun u => !Tryd.prog.wantsStandIn u) = true := by kernel_rfl
  have hm := List.all_eq_true.1 hall t (Array.mem_toList_iff.2 (Array.mem_of_getElem? ht))
  exact (show Tryd.prog.wantsStandIn t = false by simpa using hm)

/-- The card. -/
theorem card : Rows.CancelSoundCardSaid :=
  Claim7.holds_tied_plain_at .later [] _ _ _ _ said (fun _ h => by cases h) (by kernel_rfl) (fun _ h => by cases h) cancelSound_row_tie rfl ⟨rfl, rfl⟩ (by kernel_rfl) rfl plain (by kernel_rfl)
#print axioms card
end cancelSound
end Go.Proofs.YtgfngdhelbfmdaaDoor
