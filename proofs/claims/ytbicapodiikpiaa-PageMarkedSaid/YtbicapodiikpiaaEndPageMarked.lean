/- Whatever the arguments: PageMarked returns true, and what it was handed reads as before. No condition. -/
import Derived.Test.YtbicapodiikpiaaRows
import Derived.LaidMore
import Derived.Stop.Joined
import Derived.Test.YtbicapodiikpiaaPE

/-! The row. -/
namespace Go.Proofs.Ytbicapodiikpiaa
open Go.ChangeShapes Go.WideShapes Go.ChangeAt Go.RowKit Go.Sx Ds
namespace pageMarked
set_option maxRecDepth 100000 in
theorem contract (H : Type) (enc : TypeId × Value → H) (W : World) (base : Nat) (args : Array Value) (ds gs : List (DataW H)) (before : List MemPlace)
    (hval : ∀ (j : Nat) t v, Try.f8.params[j]? = some t → args[j]? = some v → Value.okWide Try.prog W .any base t v)
    (hW : DataW.Whole enc Try.prog Try.f8.params.toList Rows.pageMarkedSpec.vars false W args.toList ds gs before) :
    Calls Try.prog 8 args W fun e W' => ∃ v, e = .returned v ∧ Rows.pageMarkedSpec.post enc Try.prog Try.f8 false true false false W args v W' := by
  have hW' := hW
  obtain ⟨p, q, hA0, hV, rfl, hfz, hnd⟩ := hW
  have hA : DataW.TrodAll enc Try.prog W 0 (fun _ => true) true Try.f8.params.toList args.toList ds p := hA0
  rw [Try.params8] at hA hval
  obtain ⟨v0, vs0, d0, ds0, p0, q0, hargs, rfl, rfl, h0, r0⟩ := trodAll_cons hA
  obtain ⟨v1, vs1, d1, ds1, p1, q1, rfl, rfl, rfl, h1, r1⟩ := trodAll_cons r0
  obtain ⟨v2, vs2, d2, ds2, p2, q2, rfl, rfl, rfl, h2, r2⟩ := trodAll_cons r1
  obtain ⟨v3, vs3, d3, ds3, p3, q3, rfl, rfl, rfl, h3, r3⟩ := trodAll_cons r2
  obtain ⟨v4, vs4, d4, ds4, p4, q4, rfl, rfl, rfl, h4, r4⟩ := trodAll_cons r3
  obtain ⟨rfl, rfl, rfl⟩ := trodAll_nil r4
  obtain rfl : args = #[v0, v1, v2, v3, v4] := by cases args; simp_all
  obtain ⟨rfl, rfl⟩ := trodVars_none hV
  clear hA0
  obtain ⟨x0, w0, e0⟩ : ∃ x : Ty.V (.st [.bool, .int .i64, .int .i64]), Ty.wf (.st [.bool, .int .i64, .int .i64]) x ∧ DenV (fun _ => undef) (fun _ => none) (fun _ => False) W (Ty.av (.st [.bool, .int .i64, .int .i64]) x) v0 := den_ty (by kernel_rfl) (hval 0 23 v0 rfl rfl) h0
  obtain ⟨x1, w1, e1⟩ : ∃ x : Ty.V (.b (.int .u8)), Ty.wf (.b (.int .u8)) x ∧ DenV (fun _ => undef) (fun _ => none) (fun _ => False) W (Ty.av (.b (.int .u8)) x) v1 := den_ty (by kernel_rfl) (hval 1 5 v1 rfl rfl) h1
  obtain ⟨x2, w2, e2⟩ : ∃ x : Ty.V (.b (.row .bools 4)), Ty.wf (.b (.row .bools 4)) x ∧ DenV (fun _ => undef) (fun _ => none) (fun _ => False) W (Ty.av (.b (.row .bools 4)) x) v2 := den_ty (by kernel_rfl) (hval 2 57 v2 rfl rfl) h2
  obtain ⟨x3, w3, e3⟩ : ∃ x : Ty.V (.b (.int .i64)), Ty.wf (.b (.int .i64)) x ∧ DenV (fun _ => undef) (fun _ => none) (fun _ => False) W (Ty.av (.b (.int .i64)) x) v3 := den_ty (by kernel_rfl) (hval 3 3 v3 rfl rfl) h3
  obtain ⟨x4, w4, e4⟩ : ∃ x : Ty.V (.b (.int .i64)), Ty.wf (.b (.int .i64)) x ∧ DenV (fun _ => undef) (fun _ => none) (fun _ => False) W (Ty.av (.b (.int .i64)) x) v4 := den_ty (by kernel_rfl) (hval 4 3 v4 rfl rfl) h4
  refine (calls_true_pre (f := 8) (ts := [.st [.bool, .int .i64, .int .i64], .b (.int .u8), .b (.row .bools 4), .b (.int .i64), .b (.int .i64)]) (pageMarked_ok (Z := Glob.any)) trivial (x := (x0, x1, x2, x3, x4, ())) (vs := [v0, v1, v2, v3, v4]) (⟨⟨w0, w1, w2, w3, w4, trivial⟩, trivial⟩) (DenL_cons.2 ⟨v0, [v1, v2, v3, v4], rfl, e0, DenL_cons.2 ⟨v1, [v2, v3, v4], rfl, e1, DenL_cons.2 ⟨v2, [v3, v4], rfl, e2, DenL_cons.2 ⟨v3, [v4], rfl, e3, DenL_cons.2 ⟨v4, [], rfl, e4, DenL_nil.2 rfl⟩⟩⟩⟩⟩)).mono ?_
  rintro e W' ⟨rfl, hsame⟩
  exact ⟨_, rfl, post_true Hd.laidOut (by kernel_rfl) (show Try.f8.resultTypes = #[4] from by kernel_rfl) Try.underlying4 rfl rfl hW' hsame⟩

set_option maxRecDepth 100000 in
theorem lifted (os : Os) (started : os.Started) (H : Type) (enc : TypeId × Value → H) :
    ReturnsInHanded {} Try.checked os 8 .any (Rows.pageMarkedSpec.pre6 enc Try.prog Try.f8 [] false) (Rows.pageMarkedSpec.post enc Try.prog Try.f8 false true false false) := by
  refine returnsInHanded_of_change (C := Try.checked) Hd.own started (by kernel_rfl) Try.func8
    (ChangeSpec.witness6 (enc := enc) (C := Try.checked) (os := os) false ⟨#[], #[.agg #[.bool false, .int .i64 0, .int .i64 0], .int .u8 0, .slice none 0 0, .int .i64 0, .int .i64 0], []⟩ 8 (by kernel_rfl) (by kernel_rfl) (by kernel_rfl) (by kernel_rfl)) ?_
  intro W base args ds gs before hval hW _ _
  exact contract H enc W base args ds gs before hval hW

theorem holds : Rows.PageMarkedSaid :=
  OpenClaim.holds_of_wide 8 Try.f8 rfl rfl rfl rfl rfl rfl rfl ⟨rfl, rfl, rfl, rfl, rfl⟩ rfl rfl rfl rfl rfl (by kernel_rfl) Try.func8 (joined_cut Hd.restL Hd.hb Hd.a3 Hd.a1 Hd.a2 Hd.a5 (by kernel_rfl))
    (of_decide_eq_true (by kernel_rfl)) (by unfold Func.isWrapper; first | (rw [if_pos (by decide +kernel)]; kernel_rfl) | (rw [if_neg (by decide +kernel)]; exact ⟨rfl, rfl⟩))
    (fun os started H enc _ => lifted os started H enc)
#print axioms holds
end pageMarked
end Go.Proofs.Ytbicapodiikpiaa
