/- Whatever the arguments: ArenaTurned returns true, and what it was handed reads as before. No condition. -/
import Derived.LaidMore
import Derived.Test.YtcbllmnbcboelaaRows
import Derived.Stop.Joined
import Derived.Test.YtcbllmnbcboelaaPE

/-! The row. -/
namespace Go.Proofs.Ytcbllmnbcboelaa
open Go.ChangeShapes Go.WideShapes Go.ChangeAt Go.RowKit Go.Sx Ds
namespace arenaTurned
set_option maxRecDepth 100000 in
theorem contract (H : Type) (enc : TypeId × Value → H) (W : World) (base : Nat) (args : Array Value) (ds gs : List (DataW H)) (before : List MemPlace)
    (hval : ∀ (j : Nat) t v, Try.f5.params[j]? = some t → args[j]? = some v → Value.okWide Try.prog W .any base t v)
    (hW : DataW.Whole enc Try.prog Try.f5.params.toList Rows.arenaTurnedSpec.vars false W args.toList ds gs before) :
    Calls Try.prog 5 args W fun e W' => ∃ v, e = .returned v ∧ Rows.arenaTurnedSpec.post enc Try.prog Try.f5 false true false false W args v W' := by
  have hW' := hW
  obtain ⟨p, q, hA0, hV, rfl, hfz, hnd⟩ := hW
  have hA : DataW.TrodAll enc Try.prog W 0 (fun _ => true) true Try.f5.params.toList args.toList ds p := hA0
  rw [Try.params5] at hA hval
  obtain ⟨v0, vs0, d0, ds0, p0, q0, hargs, rfl, rfl, h0, r0⟩ := trodAll_cons hA
  obtain ⟨v1, vs1, d1, ds1, p1, q1, rfl, rfl, rfl, h1, r1⟩ := trodAll_cons r0
  obtain ⟨v2, vs2, d2, ds2, p2, q2, rfl, rfl, rfl, h2, r2⟩ := trodAll_cons r1
  obtain ⟨rfl, rfl, rfl⟩ := trodAll_nil r2
  obtain rfl : args = #[v0, v1, v2] := by cases args; simp_all
  obtain ⟨rfl, rfl⟩ := trodVars_none hV
  clear hA0
  obtain ⟨x0, w0, e0⟩ : ∃ x : Ty.V (.st [.int .i64, .int .i64, .row (.typ [.str, .rows [.str, .int .u8, .int .i64, .str], .rows [.str, .int .u8, .int .i64, .int .i64, .int .u8, .str, .str, .str, .bool, .rows [.str, .int .u8, .int .i64, .str], .strs], .rows [.int .i64, .int .i64, .str, .bool]]) 34, .row (.typ [.int .i64, .int .i64, .int .u8, .str, .int .i64, .int .i64, .int .u8, .str]) 43, .row (.typ [.int .i64, .str, .int .u8, .int .i64, .str]) 90, .row (.typ [.int .i64, .int .i64, .int .i64, .int .u8, .str, .int .i64, .bool]) 93]), Ty.wf (.st [.int .i64, .int .i64, .row (.typ [.str, .rows [.str, .int .u8, .int .i64, .str], .rows [.str, .int .u8, .int .i64, .int .i64, .int .u8, .str, .str, .str, .bool, .rows [.str, .int .u8, .int .i64, .str], .strs], .rows [.int .i64, .int .i64, .str, .bool]]) 34, .row (.typ [.int .i64, .int .i64, .int .u8, .str, .int .i64, .int .i64, .int .u8, .str]) 43, .row (.typ [.int .i64, .str, .int .u8, .int .i64, .str]) 90, .row (.typ [.int .i64, .int .i64, .int .i64, .int .u8, .str, .int .i64, .bool]) 93]) x ∧ DenV (fun _ => undef) (fun _ => none) (fun _ => False) W (Ty.av (.st [.int .i64, .int .i64, .row (.typ [.str, .rows [.str, .int .u8, .int .i64, .str], .rows [.str, .int .u8, .int .i64, .int .i64, .int .u8, .str, .str, .str, .bool, .rows [.str, .int .u8, .int .i64, .str], .strs], .rows [.int .i64, .int .i64, .str, .bool]]) 34, .row (.typ [.int .i64, .int .i64, .int .u8, .str, .int .i64, .int .i64, .int .u8, .str]) 43, .row (.typ [.int .i64, .str, .int .u8, .int .i64, .str]) 90, .row (.typ [.int .i64, .int .i64, .int .i64, .int .u8, .str, .int .i64, .bool]) 93]) x) v0 := den_ty (by kernel_rfl) (hval 0 27 v0 rfl rfl) h0
  obtain ⟨x1, w1, e1⟩ : ∃ x : Ty.V (.st [.int .i64, .int .i64, .int .u8, .str, .int .i64, .int .i64, .int .u8, .str]), Ty.wf (.st [.int .i64, .int .i64, .int .u8, .str, .int .i64, .int .i64, .int .u8, .str]) x ∧ DenV (fun _ => undef) (fun _ => none) (fun _ => False) W (Ty.av (.st [.int .i64, .int .i64, .int .u8, .str, .int .i64, .int .i64, .int .u8, .str]) x) v1 := den_ty (by kernel_rfl) (hval 1 43 v1 rfl rfl) h1
  obtain ⟨x2, w2, e2⟩ : ∃ x : Ty.V (.b (.int .i64)), Ty.wf (.b (.int .i64)) x ∧ DenV (fun _ => undef) (fun _ => none) (fun _ => False) W (Ty.av (.b (.int .i64)) x) v2 := den_ty (by kernel_rfl) (hval 2 3 v2 rfl rfl) h2
  refine (calls_true_pre (f := 5) (ts := [.st [.int .i64, .int .i64, .row (.typ [.str, .rows [.str, .int .u8, .int .i64, .str], .rows [.str, .int .u8, .int .i64, .int .i64, .int .u8, .str, .str, .str, .bool, .rows [.str, .int .u8, .int .i64, .str], .strs], .rows [.int .i64, .int .i64, .str, .bool]]) 34, .row (.typ [.int .i64, .int .i64, .int .u8, .str, .int .i64, .int .i64, .int .u8, .str]) 43, .row (.typ [.int .i64, .str, .int .u8, .int .i64, .str]) 90, .row (.typ [.int .i64, .int .i64, .int .i64, .int .u8, .str, .int .i64, .bool]) 93], .st [.int .i64, .int .i64, .int .u8, .str, .int .i64, .int .i64, .int .u8, .str], .b (.int .i64)]) (arenaTurned_ok (Z := Glob.any)) trivial (x := (x0, x1, x2, ())) (vs := [v0, v1, v2]) (trivial) (DenL_cons.2 ⟨v0, [v1, v2], rfl, e0, DenL_cons.2 ⟨v1, [v2], rfl, e1, DenL_cons.2 ⟨v2, [], rfl, e2, DenL_nil.2 rfl⟩⟩⟩)).mono ?_
  rintro e W' ⟨rfl, hsame⟩
  exact ⟨_, rfl, post_true Hd.laidOut (by kernel_rfl) (show Try.f5.resultTypes = #[4] from by kernel_rfl) Try.underlying4 rfl rfl hW' hsame⟩

set_option maxRecDepth 100000 in
theorem lifted (os : Os) (started : os.Started) (H : Type) (enc : TypeId × Value → H) :
    ReturnsInHanded {} Try.checked os 5 .any (Rows.arenaTurnedSpec.pre6 enc Try.prog Try.f5 [] false) (Rows.arenaTurnedSpec.post enc Try.prog Try.f5 false true false false) := by
  refine returnsInHanded_of_change (C := Try.checked) Hd.own started (by kernel_rfl) Try.func5
    (ChangeSpec.witness6 (enc := enc) (C := Try.checked) (os := os) false ⟨#[], #[.agg #[.int .i64 0, .int .i64 0, .slice none 0 0, .slice none 0 0, .slice none 0 0, .slice none 0 0], .agg #[.int .i64 0, .int .i64 0, .int .u8 0, .string ByteArray.empty, .int .i64 0, .int .i64 0, .int .u8 0, .string ByteArray.empty], .int .i64 0], []⟩ 8 (by kernel_rfl) (by kernel_rfl) (by kernel_rfl) (by kernel_rfl)) ?_
  intro W base args ds gs before hval hW _ _
  exact contract H enc W base args ds gs before hval hW

theorem holds : Rows.ArenaTurnedSaid :=
  OpenClaim.holds_of_wide 5 Try.f5 rfl rfl rfl rfl rfl rfl rfl ⟨rfl, rfl, rfl, rfl, rfl⟩ rfl rfl rfl rfl rfl (by kernel_rfl) Try.func5 (joined_cut Hd.restL Hd.hb Hd.a3 Hd.a1 Hd.a2 Hd.a5 (by kernel_rfl))
    (of_decide_eq_true (by kernel_rfl)) (by unfold Func.isWrapper; first | (rw [if_pos (by decide +kernel)]; kernel_rfl) | (rw [if_neg (by decide +kernel)]; exact ⟨rfl, rfl⟩))
    (fun os started H enc _ => lifted os started H enc)
#print axioms holds
end arenaTurned
end Go.Proofs.Ytcbllmnbcboelaa
