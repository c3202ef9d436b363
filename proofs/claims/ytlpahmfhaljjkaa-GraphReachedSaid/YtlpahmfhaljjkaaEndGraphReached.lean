/- Whatever the arguments: GraphReached returns true, and what it was handed reads as before. No condition. -/
import Derived.Test.YtlpahmfhaljjkaaRows
import Derived.LaidMore
import Derived.Stop.Joined
import Derived.Test.YtlpahmfhaljjkaaPE

/-! The row. -/
namespace Go.Proofs.Ytlpahmfhaljjkaa
open Go.ChangeShapes Go.WideShapes Go.ChangeAt Go.RowKit Go.Sx Ds
namespace graphReached
set_option maxRecDepth 100000 in
theorem contract (H : Type) (enc : TypeId × Value → H) (W : World) (base : Nat) (args : Array Value) (ds gs : List (DataW H)) (before : List MemPlace)
    (hval : ∀ (j : Nat) t v, Try.f3.params[j]? = some t → args[j]? = some v → Value.okWide Try.prog W .any base t v)
    (hW : DataW.Whole enc Try.prog Try.f3.params.toList Rows.graphReachedSpec.vars false W args.toList ds gs before) (hk : (DataW.weightsEach Try.prog (Try.f3.params.toList ++ Rows.graphReachedSpec.plain.varTypes Try.prog) (ds ++ gs)).all (· ≤ reachBytes) = true) :
    Calls Try.prog 3 args W fun e W' => ∃ v, e = .returned v ∧ Rows.graphReachedSpec.post enc Try.prog Try.f3 false true false false W args v W' := by
  have hW' := hW
  obtain ⟨p, q, hA0, hV, rfl, hfz, hnd⟩ := hW
  have hA : DataW.TrodAll enc Try.prog W 0 (fun _ => true) true Try.f3.params.toList args.toList ds p := hA0
  rw [Try.params3] at hA hval hk
  obtain ⟨v0, vs0, d0, ds0, p0, q0, hargs, rfl, rfl, h0, r0⟩ := trodAll_cons hA
  obtain ⟨v1, vs1, d1, ds1, p1, q1, rfl, rfl, rfl, h1, r1⟩ := trodAll_cons r0
  obtain ⟨v2, vs2, d2, ds2, p2, q2, rfl, rfl, rfl, h2, r2⟩ := trodAll_cons r1
  obtain ⟨v3, vs3, d3, ds3, p3, q3, rfl, rfl, rfl, h3, r3⟩ := trodAll_cons r2
  obtain ⟨rfl, rfl, rfl⟩ := trodAll_nil r3
  obtain rfl : args = #[v0, v1, v2, v3] := by cases args; simp_all
  obtain ⟨rfl, rfl⟩ := trodVars_none hV
  clear hA0
  obtain ⟨x0, w0, s0, e0⟩ : ∃ x : Ty.V (.st [.str, .row (.typ [.str, .int .u8, .int .i64, .str]) 132, .row (.typ [.str, .int .u8, .int .i64, .int .i64, .int .u8, .str, .str, .str, .bool, .rows [.str, .int .u8, .int .i64, .str], .strs]) 34, .row (.typ [.int .i64, .int .i64, .str, .bool]) 46]), Ty.wf (.st [.str, .row (.typ [.str, .int .u8, .int .i64, .str]) 132, .row (.typ [.str, .int .u8, .int .i64, .int .i64, .int .u8, .str, .str, .str, .bool, .rows [.str, .int .u8, .int .i64, .str], .strs]) 34, .row (.typ [.int .i64, .int .i64, .str, .bool]) 46]) x ∧ Ty.heavy reachBytes (.st [.str, .row (.typ [.str, .int .u8, .int .i64, .str]) 132, .row (.typ [.str, .int .u8, .int .i64, .int .i64, .int .u8, .str, .str, .str, .bool, .rows [.str, .int .u8, .int .i64, .str], .strs]) 34, .row (.typ [.int .i64, .int .i64, .str, .bool]) 46]) x ∧ DenV (fun _ => undef) (fun _ => none) (fun _ => False) W (Ty.av (.st [.str, .row (.typ [.str, .int .u8, .int .i64, .str]) 132, .row (.typ [.str, .int .u8, .int .i64, .int .i64, .int .u8, .str, .str, .str, .bool, .rows [.str, .int .u8, .int .i64, .str], .strs]) 34, .row (.typ [.int .i64, .int .i64, .str, .bool]) 46]) x) v0 := den_tyW (by kernel_rfl) (hval 0 26 v0 rfl rfl) h0 (by kernel_rfl) (wok_of hk (j := 0) rfl rfl)
  obtain ⟨x1, w1, s1, e1⟩ : ∃ x : Ty.V (.b (.int .i64)), Ty.wf (.b (.int .i64)) x ∧ Ty.heavy reachBytes (.b (.int .i64)) x ∧ DenV (fun _ => undef) (fun _ => none) (fun _ => False) W (Ty.av (.b (.int .i64)) x) v1 := den_tyW (by kernel_rfl) (hval 1 3 v1 rfl rfl) h1 (by kernel_rfl) (wok_of hk (j := 1) rfl rfl)
  obtain ⟨x2, w2, s2, e2⟩ : ∃ x : Ty.V (.b (.int .i64)), Ty.wf (.b (.int .i64)) x ∧ Ty.heavy reachBytes (.b (.int .i64)) x ∧ DenV (fun _ => undef) (fun _ => none) (fun _ => False) W (Ty.av (.b (.int .i64)) x) v2 := den_tyW (by kernel_rfl) (hval 2 3 v2 rfl rfl) h2 (by kernel_rfl) (wok_of hk (j := 2) rfl rfl)
  obtain ⟨x3, w3, s3, e3⟩ : ∃ x : Ty.V (.b (.int .i64)), Ty.wf (.b (.int .i64)) x ∧ Ty.heavy reachBytes (.b (.int .i64)) x ∧ DenV (fun _ => undef) (fun _ => none) (fun _ => False) W (Ty.av (.b (.int .i64)) x) v3 := den_tyW (by kernel_rfl) (hval 3 3 v3 rfl rfl) h3 (by kernel_rfl) (wok_of hk (j := 3) rfl rfl)
  refine (calls_true_pre (f := 3) (ts := [.st [.str, .row (.typ [.str, .int .u8, .int .i64, .str]) 132, .row (.typ [.str, .int .u8, .int .i64, .int .i64, .int .u8, .str, .str, .str, .bool, .rows [.str, .int .u8, .int .i64, .str], .strs]) 34, .row (.typ [.int .i64, .int .i64, .str, .bool]) 46], .b (.int .i64), .b (.int .i64), .b (.int .i64)]) (graphReached_ok (Z := Glob.any)) trivial (x := (x0, x1, x2, x3, ())) (vs := [v0, v1, v2, v3]) (⟨okP_heavy s0, trivial⟩) (DenL_cons.2 ⟨v0, [v1, v2, v3], rfl, e0, DenL_cons.2 ⟨v1, [v2, v3], rfl, e1, DenL_cons.2 ⟨v2, [v3], rfl, e2, DenL_cons.2 ⟨v3, [], rfl, e3, DenL_nil.2 rfl⟩⟩⟩⟩)).mono ?_
  rintro e W' ⟨rfl, hsame⟩
  exact ⟨_, rfl, post_true Hd.laidOut (by kernel_rfl) (show Try.f3.resultTypes = #[4] from by kernel_rfl) Try.underlying4 rfl rfl hW' hsame⟩

set_option maxRecDepth 100000 in
theorem lifted (os : Os) (started : os.Started) (H : Type) (enc : TypeId × Value → H) :
    ReturnsInHanded {} Try.checked os 3 .any (Rows.graphReachedSpec.pre6 enc Try.prog Try.f3 [] false) (Rows.graphReachedSpec.post enc Try.prog Try.f3 false true false false) := by
  refine returnsInHanded_of_change_sized (C := Try.checked) Hd.own started (by kernel_rfl) Try.func3
    (ChangeSpec.witness6 (enc := enc) (C := Try.checked) (os := os) false ⟨#[], #[.agg #[.string ByteArray.empty, .slice none 0 0, .slice none 0 0, .slice none 0 0], .int .i64 0, .int .i64 0, .int .i64 0], []⟩ 8 (by kernel_rfl) (by kernel_rfl) (by kernel_rfl) (by kernel_rfl)) ?_
  intro W base args ds gs before hval hW _ hk _
  exact contract H enc W base args ds gs before hval hW hk

theorem holds : Rows.GraphReachedSaid :=
  OpenClaim.holds_of_wide 3 Try.f3 rfl rfl rfl rfl rfl rfl rfl ⟨rfl, rfl, rfl, rfl, rfl⟩ rfl rfl rfl rfl rfl (by kernel_rfl) Try.func3 (joined_cut Hd.restL Hd.hb Hd.a3 Hd.a1 Hd.a2 Hd.a5 (by kernel_rfl))
    (of_decide_eq_true (by kernel_rfl)) (by unfold Func.isWrapper; first | (rw [if_pos (by decide +kernel)]; kernel_rfl) | (rw [if_neg (by decide +kernel)]; exact ⟨rfl, rfl⟩))
    (fun os started H enc _ => lifted os started H enc)
#print axioms holds
end graphReached
end Go.Proofs.Ytlpahmfhaljjkaa
