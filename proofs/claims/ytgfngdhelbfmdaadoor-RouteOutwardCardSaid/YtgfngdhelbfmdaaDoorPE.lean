/- Lemmas: Q5, Q6, Q7, Q8, Q9, Q10, U1, U2, U3, V1, V2, V3, W1, W2, W3, SxGlob, S1, S2, S3, S4, S5, S6, S7, T1, T2, T4, T5, T6, T7, T8, X1, X2, X3. -/
import Derived.Test.YtgfngdhelbfmdaaDoorPD

namespace Ds
open Go Go.Sx Go.Proofs Lf
def ndF (ps : Ps) (name : ByteArray) (n : Int) : CL cN := nodeAt (pO (getP ps name)) n
def hasN (ps : Ps) (name : ByteArray) (n : Int) : Bool := decide (0 ≤ n ∧ n < ((pO (getP ps name)).length : Int))
abbrev noT (x : CL cN) : Ty.V tNoR := (nN x, nK x, nI x, nO x, nE x, nY x, nT x, nS x, nB x, nV x, nZ x, ())
abbrev sumNo := sumR [tSt, tIt] [tNoR, tBool] (fun _ => []) (fun ((_, _, ps, _, _, _, ()), x, ()) => (noT (ndF ps (iP x) (iN x)), hasN ps (iP x) (iN x), ()))
abbrev sumAc := sumOf [tU8] [tBool] (fun _ => []) (fun (k, ()) => (actF k, ()))
abbrev sumBo := sumR [tPr, tInt] [tNs] (fun ((_, _, ns, _, ()), _, ()) => [(ns : List (CL cN)).length ≤ 1000000]) (fun ((_, _, ns, _, ()), n, ()) => (boundsF ns n, ()))
abbrev sumAs := sumOf [tPr, tInt] [tNs] (fun ((_, _, ns, _, ()), _, ()) => [(ns : List (CL cN)).length ≤ 1000000]) (fun ((_, _, ns, _, ()), n, ()) => (asidesF ns n, ()))
abbrev sumSo := sumOf [tPr, tInt] [tInt, tBool] (fun ((_, _, ns, _, ()), _, ()) => [(ns : List (CL cN)).length ≤ 1000000]) (fun ((_, _, ns, _, ()), n, ()) => (startF ns n, hasSt ns n, ()))
abbrev tPlc : Ty := .st [.int .i64, .int .i64, .int .u8, .str, .int .i64, .int .i64, .int .u8, .str, .str, .rrow (.typ cV) eV, .rrow (.typ cN) eN, .rrow (.typ cF) eF, .rrow (.ints .i64) 3]
def tabBd : Tab := [(14, sumDf), (61, sumNo), (28, sumAc), (102, sumBo)]
theorem trBd (ck nx : Int) (ps : Ps) (is : Is) (cs : Cs) (ws : Ws) (x : CL cI) : run P tabBd.sum Tryd.f79 [] (start Tryd.f79 [avSt ck nx ps is cs ws, avIt x] []) =
  Tree.ite (!hasN ps (iP x) (iN x)) (Tree.ret [AObj.own [AV.s (SV.int IntKind.i64 ck), AV.s (SV.int IntKind.i64 nx), AV.s (SV.ro (Con.typ cP ps)), AV.s (SV.ro (Con.typ cI is)), AV.s (SV.ro (Con.typ cC cs)), AV.s (SV.ro (Con.typ cW ws))] (27 : Nat), AObj.own [AV.s (SV.int IntKind.i64 (iI x)), AV.s (SV.int IntKind.i64 (iU x)), AV.s (SV.int IntKind.u8 (iS x)), AV.s (SV.str (iP x)), AV.s (SV.int IntKind.i64 (iN x)), AV.s (SV.int IntKind.i64 (iF x)), AV.s (SV.int IntKind.u8 (iW x)), AV.s (SV.str (iC x))] (31 : Nat), AObj.own [AV.s (SV.int IntKind.i64 (iI x)), AV.s (SV.int IntKind.i64 (iU x)), AV.s (SV.int IntKind.u8 (iS x)), AV.s (SV.str (iP x)), AV.s (SV.int IntKind.i64 (iN x)), AV.s (SV.int IntKind.i64 (iF x)), AV.s (SV.int IntKind.u8 (iW x)), AV.s (SV.str (iC x)), AV.s (SV.str (pN (getP ps (iP x)))), AV.s (SV.ro (Con.typ cV (pV (getP ps (iP x))))), AV.s (SV.ro (Con.typ cN (pO (getP ps (iP x))))), AV.s (SV.ro (Con.typ cF (pF (getP ps (iP x))))), AV.emp] (98 : Nat), AObj.own [AV.s (SV.str (pN (getP ps (iP x)))), AV.s (SV.ro (Con.typ cV (pV (getP ps (iP x))))), AV.s (SV.ro (Con.typ cN (pO (getP ps (iP x))))), AV.s (SV.ro (Con.typ cF (pF (getP ps (iP x)))))] (40 : Nat), AObj.own [AV.s (SV.str (nN (ndF ps (iP x) (iN x)))), AV.s (SV.int IntKind.u8 (nK (ndF ps (iP x) (iN x)))), AV.s (SV.int IntKind.i64 (nI (ndF ps (iP x) (iN x)))), AV.s (SV.int IntKind.i64 (nO (ndF ps (iP x) (iN x)))), AV.s (SV.int IntKind.u8 (nE (ndF ps (iP x) (iN x)))), AV.s (SV.str (nY (ndF ps (iP x) (iN x)))), AV.s (SV.str (nT (ndF ps (iP x) (iN x)))), AV.s (SV.str (nS (ndF ps (iP x) (iN x)))), AV.s (SV.bool (nB (ndF ps (iP x) (iN x)))), AV.s (SV.ro (Con.typ cV (nV (ndF ps (iP x) (iN x))))), AV.s (SV.ro (Con.strs (nZ (ndF ps (iP x) (iN x)))))] (45 : Nat)] (AV.agg [AV.s (SV.int IntKind.i64 (iI x)), AV.s (SV.int IntKind.i64 (iU x)), AV.s (SV.int IntKind.u8 (iS x)), AV.s (SV.str (iP x)), AV.s (SV.int IntKind.i64 (iN x)), AV.s (SV.int IntKind.i64 (iF x)), AV.s (SV.int IntKind.u8 (iW x)), AV.s (SV.str (iC x)), AV.s (SV.str (pN (getP ps (iP x)))), AV.s (SV.ro (Con.typ cV (pV (getP ps (iP x))))), AV.s (SV.ro (Con.typ cN (pO (getP ps (iP x))))), AV.s (SV.ro (Con.typ cF (pF (getP ps (iP x))))), AV.emp]))
  (Tree.ite (!actF (nK (ndF ps (iP x) (iN x)))) (Tree.ret [AObj.own [AV.s (SV.int IntKind.i64 ck), AV.s (SV.int IntKind.i64 nx), AV.s (SV.ro (Con.typ cP ps)), AV.s (SV.ro (Con.typ cI is)), AV.s (SV.ro (Con.typ cC cs)), AV.s (SV.ro (Con.typ cW ws))] (27 : Nat), AObj.own [AV.s (SV.int IntKind.i64 (iI x)), AV.s (SV.int IntKind.i64 (iU x)), AV.s (SV.int IntKind.u8 (iS x)), AV.s (SV.str (iP x)), AV.s (SV.int IntKind.i64 (iN x)), AV.s (SV.int IntKind.i64 (iF x)), AV.s (SV.int IntKind.u8 (iW x)), AV.s (SV.str (iC x))] (31 : Nat), AObj.own [AV.s (SV.int IntKind.i64 (iI x)), AV.s (SV.int IntKind.i64 (iU x)), AV.s (SV.int IntKind.u8 (iS x)), AV.s (SV.str (iP x)), AV.s (SV.int IntKind.i64 (iN x)), AV.s (SV.int IntKind.i64 (iF x)), AV.s (SV.int IntKind.u8 (iW x)), AV.s (SV.str (iC x)), AV.s (SV.str (pN (getP ps (iP x)))), AV.s (SV.ro (Con.typ cV (pV (getP ps (iP x))))), AV.s (SV.ro (Con.typ cN (pO (getP ps (iP x))))), AV.s (SV.ro (Con.typ cF (pF (getP ps (iP x))))), AV.emp] (98 : Nat), AObj.own [AV.s (SV.str (pN (getP ps (iP x)))), AV.s (SV.ro (Con.typ cV (pV (getP ps (iP x))))), AV.s (SV.ro (Con.typ cN (pO (getP ps (iP x))))), AV.s (SV.ro (Con.typ cF (pF (getP ps (iP x)))))] (40 : Nat), AObj.own [AV.s (SV.str (nN (ndF ps (iP x) (iN x)))), AV.s (SV.int IntKind.u8 (nK (ndF ps (iP x) (iN x)))), AV.s (SV.int IntKind.i64 (nI (ndF ps (iP x) (iN x)))), AV.s (SV.int IntKind.i64 (nO (ndF ps (iP x) (iN x)))), AV.s (SV.int IntKind.u8 (nE (ndF ps (iP x) (iN x)))), AV.s (SV.str (nY (ndF ps (iP x) (iN x)))), AV.s (SV.str (nT (ndF ps (iP x) (iN x)))), AV.s (SV.str (nS (ndF ps (iP x) (iN x)))), AV.s (SV.bool (nB (ndF ps (iP x) (iN x)))), AV.s (SV.ro (Con.typ cV (nV (ndF ps (iP x) (iN x))))), AV.s (SV.ro (Con.strs (nZ (ndF ps (iP x) (iN x)))))] (45 : Nat)] (AV.agg [AV.s (SV.int IntKind.i64 (iI x)), AV.s (SV.int IntKind.i64 (iU x)), AV.s (SV.int IntKind.u8 (iS x)), AV.s (SV.str (iP x)), AV.s (SV.int IntKind.i64 (iN x)), AV.s (SV.int IntKind.i64 (iF x)), AV.s (SV.int IntKind.u8 (iW x)), AV.s (SV.str (iC x)), AV.s (SV.str (pN (getP ps (iP x)))), AV.s (SV.ro (Con.typ cV (pV (getP ps (iP x))))), AV.s (SV.ro (Con.typ cN (pO (getP ps (iP x))))), AV.s (SV.ro (Con.typ cF (pF (getP ps (iP x))))), AV.emp]))
    (Tree.need ((pO (getP ps (iP x))).length ≤ (1000000 : Nat)) (Tree.ret [AObj.own [AV.s (SV.int IntKind.i64 ck), AV.s (SV.int IntKind.i64 nx), AV.s (SV.ro (Con.typ cP ps)), AV.s (SV.ro (Con.typ cI is)), AV.s (SV.ro (Con.typ cC cs)), AV.s (SV.ro (Con.typ cW ws))] (27 : Nat), AObj.own [AV.s (SV.int IntKind.i64 (iI x)), AV.s (SV.int IntKind.i64 (iU x)), AV.s (SV.int IntKind.u8 (iS x)), AV.s (SV.str (iP x)), AV.s (SV.int IntKind.i64 (iN x)), AV.s (SV.int IntKind.i64 (iF x)), AV.s (SV.int IntKind.u8 (iW x)), AV.s (SV.str (iC x))] (31 : Nat), AObj.own [AV.s (SV.int IntKind.i64 (iI x)), AV.s (SV.int IntKind.i64 (iU x)), AV.s (SV.int IntKind.u8 (iS x)), AV.s (SV.str (iP x)), AV.s (SV.int IntKind.i64 (iN x)), AV.s (SV.int IntKind.i64 (iF x)), AV.s (SV.int IntKind.u8 (iW x)), AV.s (SV.str (iC x)), AV.s (SV.str (pN (getP ps (iP x)))), AV.s (SV.ro (Con.typ cV (pV (getP ps (iP x))))), AV.s (SV.ro (Con.typ cN (pO (getP ps (iP x))))), AV.s (SV.ro (Con.typ cF (pF (getP ps (iP x))))), AV.vec (5 : Nat)] (98 : Nat), AObj.own [AV.s (SV.str (pN (getP ps (iP x)))), AV.s (SV.ro (Con.typ cV (pV (getP ps (iP x))))), AV.s (SV.ro (Con.typ cN (pO (getP ps (iP x))))), AV.s (SV.ro (Con.typ cF (pF (getP ps (iP x)))))] (40 : Nat), AObj.own [AV.s (SV.str (nN (ndF ps (iP x) (iN x)))), AV.s (SV.int IntKind.u8 (nK (ndF ps (iP x) (iN x)))), AV.s (SV.int IntKind.i64 (nI (ndF ps (iP x) (iN x)))), AV.s (SV.int IntKind.i64 (nO (ndF ps (iP x) (iN x)))), AV.s (SV.int IntKind.u8 (nE (ndF ps (iP x) (iN x)))), AV.s (SV.str (nY (ndF ps (iP x) (iN x)))), AV.s (SV.str (nT (ndF ps (iP x) (iN x)))), AV.s (SV.str (nS (ndF ps (iP x) (iN x)))), AV.s (SV.bool (nB (ndF ps (iP x) (iN x)))), AV.s (SV.ro (Con.typ cV (nV (ndF ps (iP x) (iN x))))), AV.s (SV.ro (Con.strs (nZ (ndF ps (iP x) (iN x)))))] (45 : Nat), AObj.vec (Con.ints IntKind.i64 (boundsF (pO (getP ps (iP x))) (iN x))) (3 : Nat)] (AV.agg [AV.s (SV.int IntKind.i64 (iI x)), AV.s (SV.int IntKind.i64 (iU x)), AV.s (SV.int IntKind.u8 (iS x)), AV.s (SV.str (iP x)), AV.s (SV.int IntKind.i64 (iN x)), AV.s (SV.int IntKind.i64 (iF x)), AV.s (SV.int IntKind.u8 (iW x)), AV.s (SV.str (iC x)), AV.s (SV.str (pN (getP ps (iP x)))), AV.s (SV.ro (Con.typ cV (pV (getP ps (iP x))))), AV.s (SV.ro (Con.typ cN (pO (getP ps (iP x))))), AV.s (SV.ro (Con.typ cF (pF (getP ps (iP x))))), AV.vec (5 : Nat)])))) := by kernel_rfl
abbrev ePl : TypeId := 98
def tabAd : Tab := [(14, sumDf), (103, sumAs), (104, sumSo)]
def nsAd : List (Nat × Norm) := [(7, ⟨[], [4, 5, 28, 29, 30], 0, [(1, 12, false, .ints .i64 [], 3)]⟩)]
theorem trAd (ck nx : Int) (ps : Ps) (is : Is) (cs : Cs) (ws : Ws) (x : CL cI) : run P tabAd.sum Tryd.f80 nsAd (start Tryd.f80 [avSt ck nx ps is cs ws, avIt x] []) =
  Tree.ite (!hasP ps (iP x)) (Tree.ret [AObj.own [AV.s (SV.int IntKind.i64 ck), AV.s (SV.int IntKind.i64 nx), AV.s (SV.ro (Con.typ cP ps)), AV.s (SV.ro (Con.typ cI is)), AV.s (SV.ro (Con.typ cC cs)), AV.s (SV.ro (Con.typ cW ws))] (27 : Nat), AObj.own [AV.s (SV.int IntKind.i64 (iI x)), AV.s (SV.int IntKind.i64 (iU x)), AV.s (SV.int IntKind.u8 (iS x)), AV.s (SV.str (iP x)), AV.s (SV.int IntKind.i64 (iN x)), AV.s (SV.int IntKind.i64 (iF x)), AV.s (SV.int IntKind.u8 (iW x)), AV.s (SV.str (iC x))] (31 : Nat), AObj.own [AV.s (SV.int IntKind.i64 (iI x)), AV.s (SV.int IntKind.i64 (iU x)), AV.s (SV.int IntKind.u8 (iS x)), AV.s (SV.str (iP x)), AV.s (SV.int IntKind.i64 (iN x)), AV.s (SV.int IntKind.i64 (iF x)), AV.s (SV.int IntKind.u8 (iW x)), AV.s (SV.str (iC x)), AV.s (SV.str (pN (getP ps (iP x)))), AV.s (SV.ro (Con.typ cV (pV (getP ps (iP x))))), AV.s (SV.ro (Con.typ cN (pO (getP ps (iP x))))), AV.s (SV.ro (Con.typ cF (pF (getP ps (iP x))))), AV.emp] (98 : Nat), AObj.own [AV.s (SV.int IntKind.i64 (iI x)), AV.s (SV.int IntKind.i64 (iU x)), AV.s (SV.int IntKind.u8 (iS x)), AV.s (SV.str (iP x)), AV.s (SV.int IntKind.i64 (iN x)), AV.s (SV.int IntKind.i64 (iF x)), AV.s (SV.int IntKind.u8 (iW x)), AV.s (SV.str (iC x)), AV.s (SV.str (pN (getP ps (iP x)))), AV.s (SV.ro (Con.typ cV (pV (getP ps (iP x))))), AV.s (SV.ro (Con.typ cN (pO (getP ps (iP x))))), AV.s (SV.ro (Con.typ cF (pF (getP ps (iP x))))), AV.emp] (98 : Nat)] (AV.agg [AV.s (SV.int IntKind.i64 (iI x)), AV.s (SV.int IntKind.i64 (iU x)), AV.s (SV.int IntKind.u8 (iS x)), AV.s (SV.str (iP x)), AV.s (SV.int IntKind.i64 (iN x)), AV.s (SV.int IntKind.i64 (iF x)), AV.s (SV.int IntKind.u8 (iW x)), AV.s (SV.str (iC x)), AV.s (SV.str (pN (getP ps (iP x)))), AV.s (SV.ro (Con.typ cV (pV (getP ps (iP x))))), AV.s (SV.ro (Con.typ cN (pO (getP ps (iP x))))), AV.s (SV.ro (Con.typ cF (pF (getP ps (iP x))))), AV.emp])) (Tree.need ((pO (getP ps (iP x))).length ≤ (1000000 : Nat)) (Tree.at (Cfg.mk (sl (50 : Nat) [((4 : Nat), AV.ptr (0 : Nat) (0 : Nat)), ((5 : Nat), AV.ptr (1 : Nat) (0 : Nat)), ((28 : Nat), AV.vec (2 : Nat)), ((29 : Nat), AV.s (SV.int IntKind.i64 (↑(asidesF (pO (getP ps (iP x))) (iN x)).length : Int))), ((30 : Nat), AV.s (SV.int IntKind.i64 (0 : Int)))]) [AObj.own [AV.s (SV.int IntKind.i64 (0 : Int)), AV.s (SV.int IntKind.i64 (0 : Int)), AV.s (SV.int IntKind.u8 (0 : Int)), AV.s (SV.str ByteArray.empty), AV.s (SV.int IntKind.i64 (0 : Int)), AV.s (SV.int IntKind.i64 (0 : Int)), AV.s (SV.int IntKind.u8 (0 : Int)), AV.s (SV.str ByteArray.empty), AV.s (SV.str ByteArray.empty), AV.emp, AV.emp, AV.emp, AV.emp] (98 : Nat), AObj.own [AV.s (SV.int IntKind.i64 (iI x)), AV.s (SV.int IntKind.i64 (iU x)), AV.s (SV.int IntKind.u8 (iS x)), AV.s (SV.str (iP x)), AV.s (SV.int IntKind.i64 (iN x)), AV.s (SV.int IntKind.i64 (iF x)), AV.s (SV.int IntKind.u8 (iW x)), AV.s (SV.str (iC x)), AV.s (SV.str (pN (getP ps (iP x)))), AV.s (SV.ro (Con.typ cV (pV (getP ps (iP x))))), AV.s (SV.ro (Con.typ cN (pO (getP ps (iP x))))), AV.s (SV.ro (Con.typ cF (pF (getP ps (iP x))))), AV.vec (3 : Nat)] (98 : Nat), AObj.vec (Con.ints IntKind.i64 (asidesF (pO (getP ps (iP x))) (iN x))) (3 : Nat), AObj.vec (Con.ints IntKind.i64 []) (3 : Nat)] (hd Tryd.f80 (7 : Nat)) (Stk.mk none false (0 : Nat) [] (0 : Nat))))) := by kernel_rfl
theorem tabNo_ok {Z : Glob} : tabNo.Ok P Z := Tab.Ok.cons def_ok.sumR Tab.Ok.nil
theorem no_proc {ps : Ps} {name : ByteArray} (h : hasP ps name = false) : getP ps name = CL.d cP := by
  refine (df_end ?_).1
  have h1 : ¬ 0 ≤ defP ps name := of_decide_eq_false h
  rcases idxF_spec (p := pDf name) (l := ps) with ⟨h2, _⟩ | ⟨i, h2, _⟩
  · exact h2
  · exact absurd (show 0 ≤ defP ps name by unfold defP; omega) h1
theorem node_ok {Z : Glob} : FnOk P Z 61 [tSt, tIt] [tNoR, tBool] (fun _ => []) (fun ((_, _, ps, _, _, _, ()), x, ()) => (noT (ndF ps (iP x) (iN x)), hasN ps (iP x) (iN x), ())) := by
  refine fnOk_of_safe Tryd.func61 (by kernel_rfl) (by kernel_rfl) ?_
  rintro ⟨⟨(ck : Int), (nx : Int), (ps : Ps), (is : Is), (cs : Cs), (ws : Ws), ⟨⟩⟩, (x : CL cI), ⟨⟩⟩ _ _ X hX hz
  show Safe P 61 X (Ends [tNoR, tBool] (noT (ndF ps (iP x) (iN x)), hasN ps (iP x) (iN x), ())) _
  have nil : ∀ (h : ¬ (0 ≤ iN x ∧ iN x < ((pO (getP ps (iP x))).length : Int))), ndF ps (iP x) (iN x) = CL.d cN ∧ hasN ps (iP x) (iN x) = false := fun h => ⟨by unfold ndF nodeAt; rw [if_neg h], decide_eq_false h⟩
  refine go hz hX tabNo_ok Tryd.func61 (trNo ck nx ps is cs ws x) ⟨fun h => ?_, fun h => ⟨fun h2 => ?_, fun h2 => ⟨fun h3 => ?_, fun h3 => ⟨by have := of_decide_eq_false h2; omega, by have := of_decide_eq_false h3; omega, ?_⟩⟩⟩⟩
  · obtain ⟨e1, e2⟩ := nil (by rw [no_proc (by simpa using h)]; rintro ⟨_, h5⟩; have h6 : ((pO (CL.d cP)).length : Int) = 0 := rfl; omega)
    rw [e1, e2]; exact ends_eq _ rfl (by kernel_rfl)
  · obtain ⟨e1, e2⟩ := nil (by have := of_decide_eq_true h2; omega)
    rw [e1, e2]; exact ends_eq _ rfl (by kernel_rfl)
  · obtain ⟨e1, e2⟩ := nil (by have := of_decide_eq_true h3; omega)
    rw [e1, e2]; exact ends_eq _ rfl (by kernel_rfl)
  · have h4 : 0 ≤ iN x ∧ iN x < ((pO (getP ps (iP x))).length : Int) := ⟨by have := of_decide_eq_false h2; omega, by have := of_decide_eq_false h3; omega⟩
    have e1 : ndF ps (iP x) (iN x) = el (pO (getP ps (iP x))) (iN x) := by unfold ndF nodeAt; rw [if_pos h4]
    have e2 : hasN ps (iP x) (iN x) = true := decide_eq_true h4
    rw [e1, e2]
    exact ends_eq _ rfl (by kernel_rfl)
end Ds

namespace Ds
open Go Go.Sx Go.Proofs Lf
noncomputable def cAd (x : CL cI) (p : CL cP) (l acc : List Int) (i : Int) : Cfg := ⟨sl 50 [(4, .ptr 0 0), (5, .ptr 1 0), (28, .vec 2), (29, avI (l.length : Int)), (30, avI i)], [.own [avI 0, avI 0, avU 0, .s (.str ByteArray.empty), avI 0, avI 0, avU 0, .s (.str ByteArray.empty), .s (.str ByteArray.empty), .emp, .emp, .emp, .emp] ePl, .own [avI (iI x), avI (iU x), avU (iS x), .s (.str (iP x)), avI (iN x), avI (iF x), avU (iW x), .s (.str (iC x)), .s (.str (pN p)), .s (.ro (.typ cV (pV p))), .s (.ro (.typ cN (pO p))), .s (.ro (.typ cF (pF p))), .vec 3] ePl, .vec (.ints .i64 l) 3, .vec (.ints .i64 acc) 3], hd Tryd.f80 7, {}⟩
theorem loopAd (x : CL cI) (p : CL cP) (l acc : List Int) (i : Int) : run P tabAd.sum Tryd.f80 nsAd (cAd x p l acc i) =
  Tree.ite (decide (i < (↑l.length : Int))) (Tree.need ((0 : Int) ≤ i) (Tree.need (i < (↑l.length : Int)) (Tree.need ((pO p).length ≤ (1000000 : Nat)) (Tree.ite (hasSt (pO p) (l.getD i.toNat (0 : Int))) (Tree.need ((acc.length + (1 : Nat)) * (8 : Nat) ≤ (140737488355328 : Nat)) (Tree.need (inI64 (i + (1 : Int))) (Tree.at (Cfg.mk (sl (50 : Nat) [((4 : Nat), AV.ptr (0 : Nat) (0 : Nat)), ((5 : Nat), AV.ptr (1 : Nat) (0 : Nat)), ((28 : Nat), AV.vec (2 : Nat)), ((29 : Nat), AV.s (SV.int IntKind.i64 (↑l.length : Int))), ((30 : Nat), AV.s (SV.int IntKind.i64 (i + (1 : Int))))]) [AObj.own [AV.s (SV.int IntKind.i64 (0 : Int)), AV.s (SV.int IntKind.i64 (0 : Int)), AV.s (SV.int IntKind.u8 (0 : Int)), AV.s (SV.str ByteArray.empty), AV.s (SV.int IntKind.i64 (0 : Int)), AV.s (SV.int IntKind.i64 (0 : Int)), AV.s (SV.int IntKind.u8 (0 : Int)), AV.s (SV.str ByteArray.empty), AV.s (SV.str ByteArray.empty), AV.emp, AV.emp, AV.emp, AV.emp] (98 : Nat), AObj.own [AV.s (SV.int IntKind.i64 (iI x)), AV.s (SV.int IntKind.i64 (iU x)), AV.s (SV.int IntKind.u8 (iS x)), AV.s (SV.str (iP x)), AV.s (SV.int IntKind.i64 (iN x)), AV.s (SV.int IntKind.i64 (iF x)), AV.s (SV.int IntKind.u8 (iW x)), AV.s (SV.str (iC x)), AV.s (SV.str (pN p)), AV.s (SV.ro (Con.typ cV (pV p))), AV.s (SV.ro (Con.typ cN (pO p))), AV.s (SV.ro (Con.typ cF (pF p))), AV.vec (3 : Nat)] (98 : Nat), AObj.vec (Con.ints IntKind.i64 l) (3 : Nat), AObj.vec (Con.ints IntKind.i64 (acc ++ [startF (pO p) (l.getD i.toNat (0 : Int))])) (3 : Nat)] (hd Tryd.f80 (7 : Nat)) (Stk.mk none false (0 : Nat) [] (0 : Nat)))))) (Tree.need (inI64 (i + (1 : Int))) (Tree.at (Cfg.mk (sl (50 : Nat) [((4 : Nat), AV.ptr (0 : Nat) (0 : Nat)), ((5 : Nat), AV.ptr (1 : Nat) (0 : Nat)), ((28 : Nat), AV.vec (2 : Nat)), ((29 : Nat), AV.s (SV.int IntKind.i64 (↑l.length : Int))), ((30 : Nat), AV.s (SV.int IntKind.i64 (i + (1 : Int))))]) [AObj.own [AV.s (SV.int IntKind.i64 (0 : Int)), AV.s (SV.int IntKind.i64 (0 : Int)), AV.s (SV.int IntKind.u8 (0 : Int)), AV.s (SV.str ByteArray.empty), AV.s (SV.int IntKind.i64 (0 : Int)), AV.s (SV.int IntKind.i64 (0 : Int)), AV.s (SV.int IntKind.u8 (0 : Int)), AV.s (SV.str ByteArray.empty), AV.s (SV.str ByteArray.empty), AV.emp, AV.emp, AV.emp, AV.emp] (98 : Nat), AObj.own [AV.s (SV.int IntKind.i64 (iI x)), AV.s (SV.int IntKind.i64 (iU x)), AV.s (SV.int IntKind.u8 (iS x)), AV.s (SV.str (iP x)), AV.s (SV.int IntKind.i64 (iN x)), AV.s (SV.int IntKind.i64 (iF x)), AV.s (SV.int IntKind.u8 (iW x)), AV.s (SV.str (iC x)), AV.s (SV.str (pN p)), AV.s (SV.ro (Con.typ cV (pV p))), AV.s (SV.ro (Con.typ cN (pO p))), AV.s (SV.ro (Con.typ cF (pF p))), AV.vec (3 : Nat)] (98 : Nat), AObj.vec (Con.ints IntKind.i64 l) (3 : Nat), AObj.vec (Con.ints IntKind.i64 acc) (3 : Nat)] (hd Tryd.f80 (7 : Nat)) (Stk.mk none false (0 : Nat) [] (0 : Nat)))))))))
  (Tree.ret [AObj.own [AV.s (SV.int IntKind.i64 (iI x)), AV.s (SV.int IntKind.i64 (iU x)), AV.s (SV.int IntKind.u8 (iS x)), AV.s (SV.str (iP x)), AV.s (SV.int IntKind.i64 (iN x)), AV.s (SV.int IntKind.i64 (iF x)), AV.s (SV.int IntKind.u8 (iW x)), AV.s (SV.str (iC x)), AV.s (SV.str (pN p)), AV.s (SV.ro (Con.typ cV (pV p))), AV.s (SV.ro (Con.typ cN (pO p))), AV.s (SV.ro (Con.typ cF (pF p))), AV.vec (3 : Nat)] (98 : Nat), AObj.own [AV.s (SV.int IntKind.i64 (iI x)), AV.s (SV.int IntKind.i64 (iU x)), AV.s (SV.int IntKind.u8 (iS x)), AV.s (SV.str (iP x)), AV.s (SV.int IntKind.i64 (iN x)), AV.s (SV.int IntKind.i64 (iF x)), AV.s (SV.int IntKind.u8 (iW x)), AV.s (SV.str (iC x)), AV.s (SV.str (pN p)), AV.s (SV.ro (Con.typ cV (pV p))), AV.s (SV.ro (Con.typ cN (pO p))), AV.s (SV.ro (Con.typ cF (pF p))), AV.vec (3 : Nat)] (98 : Nat), AObj.vec (Con.ints IntKind.i64 l) (3 : Nat), AObj.vec (Con.ints IntKind.i64 acc) (3 : Nat)] (AV.agg [AV.s (SV.int IntKind.i64 (iI x)), AV.s (SV.int IntKind.i64 (iU x)), AV.s (SV.int IntKind.u8 (iS x)), AV.s (SV.str (iP x)), AV.s (SV.int IntKind.i64 (iN x)), AV.s (SV.int IntKind.i64 (iF x)), AV.s (SV.int IntKind.u8 (iW x)), AV.s (SV.str (iC x)), AV.s (SV.str (pN p)), AV.s (SV.ro (Con.typ cV (pV p))), AV.s (SV.ro (Con.typ cN (pO p))), AV.s (SV.ro (Con.typ cF (pF p))), AV.vec (3 : Nat)])) := by kernel_rfl
def asL (ns : List (CL cN)) (n : Int) : List Int := ((asidesF ns n).filter (hasSt ns)).map (startF ns)
def boL (ps : Ps) (name : ByteArray) (n : Int) : List Int := if hasN ps name n = true ∧ actF (nK (ndF ps name n)) = true then boundsF (pO (getP ps name)) n else []
abbrev plT (x : CL cI) (p : CL cP) (l : List Int) : Ty.V tPlc := (iI x, iU x, iS x, iP x, iN x, iF x, iW x, iC x, pN p, pV p, pO p, pF p, l, ())
abbrev preNs : AL [tSt, tIt] → List Prop := fun ((_, _, ps, _, _, _, ()), x, ()) => [(pO (getP ps (iP x))).length ≤ 1000000]
abbrev sumBd := sumR [tSt, tIt] [tPlc] preNs (fun ((_, _, ps, _, _, _, ()), x, ()) => (plT x (getP ps (iP x)) (boL ps (iP x) (iN x)), ()))
abbrev sumAd := sumR [tSt, tIt] [tPlc] preNs (fun ((_, _, ps, _, _, _, ()), x, ()) => (plT x (getP ps (iP x)) (asL (pO (getP ps (iP x))) (iN x)), ()))
abbrev sumCh := sumOf [tPr, tNs, tU8, tStr] [tInt, tBool] (fun _ => []) (fun ((_, _, ns, _, ()), l, ev, key, ()) => ((chooseF ns l ev key).1, (chooseF ns l ev key).2, ()))
def tabRf : Tab := [(19, sumFi), (79, sumBd), (80, sumAd), (57, sumCh)]
abbrev fS1 : FuncId := 83
abbrev inRf : List FuncId := [56, 78, 59, fS1]
theorem tabBd_ok {Z : Glob} : tabBd.Ok P Z := Tab.Ok.cons def_ok.sumR (Tab.Ok.cons node_ok.sumR (Tab.Ok.cons act_ok.sum (Tab.Ok.cons bo_ok.sumR Tab.Ok.nil)))
theorem tabAd_ok {Z : Glob} : tabAd.Ok P Z := Tab.Ok.cons def_ok.sumR (Tab.Ok.cons as_ok.sum (Tab.Ok.cons so_ok.sum Tab.Ok.nil))
theorem bds_ok {Z : Glob} : FnOk P Z 79 [tSt, tIt] [tPlc] preNs (fun ((_, _, ps, _, _, _, ()), x, ()) => (plT x (getP ps (iP x)) (boL ps (iP x) (iN x)), ())) := by
  refine fnOk_of_safe Tryd.func79 (by kernel_rfl) (by kernel_rfl) ?_
  rintro ⟨⟨(ck : Int), (nx : Int), (ps : Ps), (is : Is), (cs : Cs), (ws : Ws), ⟨⟩⟩, (x : CL cI), ⟨⟩⟩ _ ⟨hl, _⟩ X hX hz
  show Safe P 79 X (Ends [tPlc] (plT x (getP ps (iP x)) (boL ps (iP x) (iN x)), ())) _
  refine go hz hX tabBd_ok Tryd.func79 (trBd ck nx ps is cs ws x) ⟨fun h => ?_, fun h => ⟨fun h2 => ?_, fun h2 => ⟨hl, ?_⟩⟩⟩
  · have e : boL ps (iP x) (iN x) = [] := by unfold boL; rw [if_neg]; intro hh; rw [hh.1] at h; cases h
    rw [e]; exact ends_eq _ rfl (by kernel_rfl)
  · have e : boL ps (iP x) (iN x) = [] := by unfold boL; rw [if_neg]; intro hh; rw [hh.2] at h2; cases h2
    rw [e]; exact ends_eq _ rfl (by kernel_rfl)
  · have e : boL ps (iP x) (iN x) = boundsF (pO (getP ps (iP x))) (iN x) := by unfold boL; rw [if_pos ⟨by simpa using h, by simpa using h2⟩]
    rw [e]; exact ends_eq _ rfl (by kernel_rfl)
theorem asd_ok {Z : Glob} : FnOk P Z 80 [tSt, tIt] [tPlc] preNs (fun ((_, _, ps, _, _, _, ()), x, ()) => (plT x (getP ps (iP x)) (asL (pO (getP ps (iP x))) (iN x)), ())) := by
  refine fnOk_of_safe Tryd.func80 (by kernel_rfl) (by kernel_rfl) ?_
  rintro ⟨⟨(ck : Int), (nx : Int), (ps : Ps), (is : Is), (cs : Cs), (ws : Ws), ⟨⟩⟩, (x : CL cI), ⟨⟩⟩ _ ⟨(hl : (pO (getP ps (iP x))).length ≤ 1000000), _⟩ X hX hz
  show Safe P 80 X (Ends [tPlc] (plT x (getP ps (iP x)) (asL (pO (getP ps (iP x))) (iN x)), ())) _
  refine go hz hX tabAd_ok Tryd.func80 (trAd ck nx ps is cs ws x) ⟨fun h => ?_, fun h => ⟨hl, ?_⟩⟩
  · have e : getP ps (iP x) = CL.d cP := no_proc (by simpa using h)
    rw [e]
    exact ends_eq _ rfl (by kernel_rfl)
  generalize getP ps (iP x) = p at *
  have hal : (asidesF (pO p) (iN x)).length ≤ 1000000 := Nat.le_trans (idxs_len _ _) hl
  have loop : ∀ (j k : Nat), k + j = (asidesF (pO p) (iN x)).length → Safe P 80 X (Ends [tPlc] (plT x p (asL (pO p) (iN x)), ())) (cAd x p (asidesF (pO p) (iN x)) ((((asidesF (pO p) (iN x)).take k).filter (hasSt (pO p))).map (startF (pO p))) (k : Int)) := by
    intro j
    induction j with
    | zero =>
      intro k hk
      rw [List.take_of_length_le (by omega)]
      refine go hz hX tabAd_ok Tryd.func80 (loopAd x p _ _ k) (no_and (decide_eq_false (by omega)) ?_)
      exact ends_eq _ rfl (by kernel_rfl)
    | succ j ih =>
      intro k hk
      have hlt : k < (asidesF (pO p) (iN x)).length := by omega
      have next := ih (k + 1) (by omega)
      rw [List.take_add_one, List.getElem?_eq_getElem hlt, Option.toList_some, List.filter_append, List.map_append] at next
      have hacc : ((((asidesF (pO p) (iN x)).take k).filter (hasSt (pO p))).map (startF (pO p))).length ≤ k := by
        rw [List.length_map]; exact Nat.le_trans (List.length_filter_le _ _) (by rw [List.length_take]; omega)
      refine go hz hX tabAd_ok Tryd.func80 (loopAd x p _ _ k) (yes_and (decide_eq_true (by omega)) ⟨by omega, by omega, hl, ?_⟩)
      rw [Int.toNat_natCast, getD_lt hlt]
      generalize ((((asidesF (pO p) (iN x)).take k).filter (hasSt (pO p))).map (startF (pO p))) = acc at *
      cases hs : hasSt (pO p) (asidesF (pO p) (iN x))[k] with
      | true =>
        rw [List.filter_cons_of_pos hs] at next
        exact yes_and rfl ⟨by omega, ⟨by omega, by omega⟩, next⟩
      | false =>
        rw [List.filter_cons_of_neg (by rw [hs]; simp)] at next
        simp only [List.filter_nil, List.map_nil, List.append_nil] at next
        exact no_and rfl ⟨⟨by omega, by omega⟩, next⟩
  exact loop _ 0 (Nat.zero_add _)
end Ds

namespace Ds
open Go Go.Sx Go.Proofs Lf
def nsRg : List (Nat × Norm) := [((fS1 + 1) * 100000 + 5, ⟨[], [0, 1, 5, 6, 7, 8, 84, 86, 150, 151, 158, 159, 160, 161, 193, 194], 0, []⟩), ((fS1 + 1) * 100000 + 8, ⟨[], [0, 1, 6, 7, 84, 86, 150, 151, 158, 159, 160, 161, 193, 194], 0, []⟩)]
noncomputable abbrev kRf : Stk := ⟨some fS1, false, 0, [inRange Tryd.f78 (some 78) 6 1, inRange Tryd.f27 none 5 1], 0⟩
abbrev obRf (ck nx : Int) (ps : Ps) (is : Is) (cs : Cs) (ws : Ws) (ev : Int) (key : ByteArray) (x : CL cI) (m : Mp) : List AObj := [.dead, obSt ck nx ps is cs ws, .map kM m, obIt x, obSt ck nx ps is cs ws, .own [.tag 12] 125, .dead, .own [avU ev] 5, .own [.s (.str key)] 9, .own [avI 0, avI 0] 57, .own [.s (.bool false)] 4, .dead, .dead]
noncomputable def cRf (ck nx : Int) (ps : Ps) (is : Is) (cs : Cs) (ws : Ws) (ev : Int) (key : ByteArray) (b own : Bool) (x : CL cI) (m : Mp) : Cfg := ⟨sl 195 [(0, .tag 0), (1, .ptr 1 0), (5, .s (.bool b)), (6, .mapv 2), (7, .ptr 3 0), (8, .s (.bool own)), (84, .ptr 4 0), (86, .ptr 5 0), (150, .tag 6), (151, .tag 0), (158, .ptr 7 0), (159, .ptr 8 0), (160, .ptr 9 0), (161, .ptr 10 0), (193, .tag 11), (194, .tag 12)], obRf ck nx ps is cs ws ev key x m, hd Tryd.f83 5, kRf⟩
noncomputable def cRg (ck nx : Int) (ps : Ps) (is : Is) (cs : Cs) (ws : Ws) (ev : Int) (key : ByteArray) (x : CL cI) (m : Mp) : Cfg := ⟨sl 195 [(0, .tag 0), (1, .ptr 1 0), (6, .mapv 2), (7, .ptr 3 0), (84, .ptr 4 0), (86, .ptr 5 0), (150, .tag 6), (151, .tag 0), (158, .ptr 7 0), (159, .ptr 8 0), (160, .ptr 9 0), (161, .ptr 10 0), (193, .tag 11), (194, .tag 12)], obRf ck nx ps is cs ws ev key x m, hr Tryd.f83 8, kRf⟩
theorem trRg (ck nx : Int) (ps : Ps) (is : Is) (cs : Cs) (ws : Ws) (id ev : Int) (key : ByteArray) : run P tabRf.sum Tryd.f27 nsRg (start Tryd.f27 [avSt ck nx ps is cs ws, avI id, avU ev, .s (.str key)] []) inRf =
  Tree.ite (ev != (4 : Int))
  (Tree.ite (ev != (5 : Int)) (Tree.ret [AObj.own [AV.s (SV.int IntKind.i64 ck), AV.s (SV.int IntKind.i64 nx), AV.s (SV.ro (Con.typ cP ps)), AV.s (SV.ro (Con.typ cI is)), AV.s (SV.ro (Con.typ cC cs)), AV.s (SV.ro (Con.typ cW ws))] (27 : Nat), AObj.own [AV.s (SV.int IntKind.u8 ev)] (5 : Nat), AObj.own [AV.s (SV.str key)] (9 : Nat), AObj.own [AV.s (SV.ilit IntKind.i64 (0 : Int)), AV.s (SV.ilit IntKind.i64 (0 : Int))] (57 : Nat), AObj.own [AV.s (SV.blit false)] (4 : Nat)] (AV.tup [AV.agg [AV.s (SV.ilit IntKind.i64 (0 : Int)), AV.s (SV.ilit IntKind.i64 (0 : Int))], AV.s (SV.blit false)]))
    (Tree.ite (!hasI is id) (Tree.ret [AObj.own [AV.s (SV.int IntKind.i64 ck), AV.s (SV.int IntKind.i64 nx), AV.s (SV.ro (Con.typ cP ps)), AV.s (SV.ro (Con.typ cI is)), AV.s (SV.ro (Con.typ cC cs)), AV.s (SV.ro (Con.typ cW ws))] (27 : Nat), AObj.own [AV.s (SV.int IntKind.u8 ev)] (5 : Nat), AObj.own [AV.s (SV.str key)] (9 : Nat), AObj.own [AV.s (SV.ilit IntKind.i64 (0 : Int)), AV.s (SV.ilit IntKind.i64 (0 : Int))] (57 : Nat), AObj.own [AV.s (SV.blit false)] (4 : Nat), AObj.own [AV.s (SV.int IntKind.i64 ck), AV.s (SV.int IntKind.i64 nx), AV.s (SV.ro (Con.typ cP ps)), AV.s (SV.ro (Con.typ cI is)), AV.s (SV.ro (Con.typ cC cs)), AV.s (SV.ro (Con.typ cW ws))] (27 : Nat), AObj.own [AV.s (SV.int IntKind.i64 id)] (3 : Nat), AObj.dead, AObj.dead, AObj.own [AV.tag (8 : Nat)] (125 : Nat), AObj.own [AV.s (SV.int IntKind.i64 (gI is id)), AV.s (SV.int IntKind.i64 (gU is id)), AV.s (SV.int IntKind.u8 (gS is id)), AV.s (SV.str (gP is id)), AV.s (SV.int IntKind.i64 (gN is id)), AV.s (SV.int IntKind.i64 (gF is id)), AV.s (SV.int IntKind.u8 (gW is id)), AV.s (SV.str (gC is id))] (31 : Nat)] (AV.tup [AV.agg [AV.s (SV.ilit IntKind.i64 (0 : Int)), AV.s (SV.ilit IntKind.i64 (0 : Int))], AV.s (SV.blit false)]))
      (Tree.ite (gS is id != (2 : Int)) (Tree.ret [AObj.own [AV.s (SV.int IntKind.i64 ck), AV.s (SV.int IntKind.i64 nx), AV.s (SV.ro (Con.typ cP ps)), AV.s (SV.ro (Con.typ cI is)), AV.s (SV.ro (Con.typ cC cs)), AV.s (SV.ro (Con.typ cW ws))] (27 : Nat), AObj.own [AV.s (SV.int IntKind.u8 ev)] (5 : Nat), AObj.own [AV.s (SV.str key)] (9 : Nat), AObj.own [AV.s (SV.ilit IntKind.i64 (0 : Int)), AV.s (SV.ilit IntKind.i64 (0 : Int))] (57 : Nat), AObj.own [AV.s (SV.blit false)] (4 : Nat), AObj.own [AV.s (SV.int IntKind.i64 ck), AV.s (SV.int IntKind.i64 nx), AV.s (SV.ro (Con.typ cP ps)), AV.s (SV.ro (Con.typ cI is)), AV.s (SV.ro (Con.typ cC cs)), AV.s (SV.ro (Con.typ cW ws))] (27 : Nat), AObj.own [AV.s (SV.int IntKind.i64 id)] (3 : Nat), AObj.dead, AObj.dead, AObj.own [AV.tag (8 : Nat)] (125 : Nat), AObj.own [AV.s (SV.int IntKind.i64 (gI is id)), AV.s (SV.int IntKind.i64 (gU is id)), AV.s (SV.int IntKind.u8 (gS is id)), AV.s (SV.str (gP is id)), AV.s (SV.int IntKind.i64 (gN is id)), AV.s (SV.int IntKind.i64 (gF is id)), AV.s (SV.int IntKind.u8 (gW is id)), AV.s (SV.str (gC is id))] (31 : Nat)] (AV.tup [AV.agg [AV.s (SV.ilit IntKind.i64 (0 : Int)), AV.s (SV.ilit IntKind.i64 (0 : Int))], AV.s (SV.blit false)]))
        (Tree.need ((pO (getP ps (gP is id))).length ≤ (1000000 : Nat))
          (Tree.ite (chooseF (pO (getP ps (gP is id))) (boL ps (gP is id) (gN is id)) ev key).snd (Tree.ret [AObj.own [AV.s (SV.int IntKind.i64 ck), AV.s (SV.int IntKind.i64 nx), AV.s (SV.ro (Con.typ cP ps)), AV.s (SV.ro (Con.typ cI is)), AV.s (SV.ro (Con.typ cC cs)), AV.s (SV.ro (Con.typ cW ws))] (27 : Nat), AObj.own [AV.s (SV.int IntKind.u8 ev)] (5 : Nat), AObj.own [AV.s (SV.str key)] (9 : Nat), AObj.own [AV.s (SV.int IntKind.i64 (gI is id)), AV.s (SV.int IntKind.i64 (chooseF (pO (getP ps (gP is id))) (boL ps (gP is id) (gN is id)) ev key).fst)] (57 : Nat), AObj.own [AV.s (SV.blit true)] (4 : Nat), AObj.own [AV.s (SV.int IntKind.i64 ck), AV.s (SV.int IntKind.i64 nx), AV.s (SV.ro (Con.typ cP ps)), AV.s (SV.ro (Con.typ cI is)), AV.s (SV.ro (Con.typ cC cs)), AV.s (SV.ro (Con.typ cW ws))] (27 : Nat), AObj.own [AV.s (SV.int IntKind.i64 id)] (3 : Nat), AObj.dead, AObj.dead, AObj.own [AV.tag (8 : Nat)] (125 : Nat), AObj.own [AV.s (SV.int IntKind.i64 (gI is id)), AV.s (SV.int IntKind.i64 (gU is id)), AV.s (SV.int IntKind.u8 (gS is id)), AV.s (SV.str (gP is id)), AV.s (SV.int IntKind.i64 (gN is id)), AV.s (SV.int IntKind.i64 (gF is id)), AV.s (SV.int IntKind.u8 (gW is id)), AV.s (SV.str (gC is id))] (31 : Nat), AObj.own [AV.s (SV.int IntKind.i64 (gI is id)), AV.s (SV.int IntKind.i64 (gU is id)), AV.s (SV.int IntKind.u8 (gS is id)), AV.s (SV.str (gP is id)), AV.s (SV.int IntKind.i64 (gN is id)), AV.s (SV.int IntKind.i64 (gF is id)), AV.s (SV.int IntKind.u8 (gW is id)), AV.s (SV.str (gC is id)), AV.s (SV.str (pN (getP ps (gP is id)))), AV.s (SV.ro (Con.typ cV (pV (getP ps (gP is id))))), AV.s (SV.ro (Con.typ cN (pO (getP ps (gP is id))))), AV.s (SV.ro (Con.typ cF (pF (getP ps (gP is id))))), AV.s (SV.ro (Con.ints IntKind.i64 (boL ps (gP is id) (gN is id))))] (98 : Nat)] (AV.tup [AV.agg [AV.s (SV.int IntKind.i64 (gI is id)), AV.s (SV.int IntKind.i64 (chooseF (pO (getP ps (gP is id))) (boL ps (gP is id) (gN is id)) ev key).fst)], AV.s (SV.blit true)]))
            (Tree.ite (!hasI is id) (Tree.ret [AObj.own [AV.s (SV.int IntKind.i64 ck), AV.s (SV.int IntKind.i64 nx), AV.s (SV.ro (Con.typ cP ps)), AV.s (SV.ro (Con.typ cI is)), AV.s (SV.ro (Con.typ cC cs)), AV.s (SV.ro (Con.typ cW ws))] (27 : Nat), AObj.own [AV.s (SV.int IntKind.u8 ev)] (5 : Nat), AObj.own [AV.s (SV.str key)] (9 : Nat), AObj.own [AV.s (SV.ilit IntKind.i64 (0 : Int)), AV.s (SV.ilit IntKind.i64 (0 : Int))] (57 : Nat), AObj.own [AV.s (SV.blit false)] (4 : Nat), AObj.own [AV.s (SV.int IntKind.i64 ck), AV.s (SV.int IntKind.i64 nx), AV.s (SV.ro (Con.typ cP ps)), AV.s (SV.ro (Con.typ cI is)), AV.s (SV.ro (Con.typ cC cs)), AV.s (SV.ro (Con.typ cW ws))] (27 : Nat), AObj.own [AV.s (SV.int IntKind.i64 id)] (3 : Nat), AObj.dead, AObj.dead, AObj.own [AV.tag (8 : Nat)] (125 : Nat), AObj.own [AV.s (SV.int IntKind.i64 (gI is id)), AV.s (SV.int IntKind.i64 (gU is id)), AV.s (SV.int IntKind.u8 (gS is id)), AV.s (SV.str (gP is id)), AV.s (SV.int IntKind.i64 (gN is id)), AV.s (SV.int IntKind.i64 (gF is id)), AV.s (SV.int IntKind.u8 (gW is id)), AV.s (SV.str (gC is id))] (31 : Nat), AObj.own [AV.s (SV.int IntKind.i64 (gI is id)), AV.s (SV.int IntKind.i64 (gU is id)), AV.s (SV.int IntKind.u8 (gS is id)), AV.s (SV.str (gP is id)), AV.s (SV.int IntKind.i64 (gN is id)), AV.s (SV.int IntKind.i64 (gF is id)), AV.s (SV.int IntKind.u8 (gW is id)), AV.s (SV.str (gC is id)), AV.s (SV.str (pN (getP ps (gP is id)))), AV.s (SV.ro (Con.typ cV (pV (getP ps (gP is id))))), AV.s (SV.ro (Con.typ cN (pO (getP ps (gP is id))))), AV.s (SV.ro (Con.typ cF (pF (getP ps (gP is id))))), AV.s (SV.ro (Con.ints IntKind.i64 (boL ps (gP is id) (gN is id))))] (98 : Nat), AObj.own [AV.s (SV.int IntKind.i64 ck), AV.s (SV.int IntKind.i64 nx), AV.s (SV.ro (Con.typ cP ps)), AV.s (SV.ro (Con.typ cI is)), AV.s (SV.ro (Con.typ cC cs)), AV.s (SV.ro (Con.typ cW ws))] (27 : Nat), AObj.own [AV.s (SV.int IntKind.i64 id)] (3 : Nat), AObj.dead, AObj.dead, AObj.own [AV.s (SV.int IntKind.i64 (gI is id)), AV.s (SV.int IntKind.i64 (gU is id)), AV.s (SV.int IntKind.u8 (gS is id)), AV.s (SV.str (gP is id)), AV.s (SV.int IntKind.i64 (gN is id)), AV.s (SV.int IntKind.i64 (gF is id)), AV.s (SV.int IntKind.u8 (gW is id)), AV.s (SV.str (gC is id))] (31 : Nat)] (AV.tup [AV.agg [AV.s (SV.ilit IntKind.i64 (0 : Int)), AV.s (SV.ilit IntKind.i64 (0 : Int))], AV.s (SV.blit false)]))
              (Tree.ite (gS is id != (2 : Int)) (Tree.ret [AObj.own [AV.s (SV.int IntKind.i64 ck), AV.s (SV.int IntKind.i64 nx), AV.s (SV.ro (Con.typ cP ps)), AV.s (SV.ro (Con.typ cI is)), AV.s (SV.ro (Con.typ cC cs)), AV.s (SV.ro (Con.typ cW ws))] (27 : Nat), AObj.own [AV.s (SV.int IntKind.u8 ev)] (5 : Nat), AObj.own [AV.s (SV.str key)] (9 : Nat), AObj.own [AV.s (SV.ilit IntKind.i64 (0 : Int)), AV.s (SV.ilit IntKind.i64 (0 : Int))] (57 : Nat), AObj.own [AV.s (SV.blit false)] (4 : Nat), AObj.own [AV.s (SV.int IntKind.i64 ck), AV.s (SV.int IntKind.i64 nx), AV.s (SV.ro (Con.typ cP ps)), AV.s (SV.ro (Con.typ cI is)), AV.s (SV.ro (Con.typ cC cs)), AV.s (SV.ro (Con.typ cW ws))] (27 : Nat), AObj.own [AV.s (SV.int IntKind.i64 id)] (3 : Nat), AObj.dead, AObj.dead, AObj.own [AV.tag (8 : Nat)] (125 : Nat), AObj.own [AV.s (SV.int IntKind.i64 (gI is id)), AV.s (SV.int IntKind.i64 (gU is id)), AV.s (SV.int IntKind.u8 (gS is id)), AV.s (SV.str (gP is id)), AV.s (SV.int IntKind.i64 (gN is id)), AV.s (SV.int IntKind.i64 (gF is id)), AV.s (SV.int IntKind.u8 (gW is id)), AV.s (SV.str (gC is id))] (31 : Nat), AObj.own [AV.s (SV.int IntKind.i64 (gI is id)), AV.s (SV.int IntKind.i64 (gU is id)), AV.s (SV.int IntKind.u8 (gS is id)), AV.s (SV.str (gP is id)), AV.s (SV.int IntKind.i64 (gN is id)), AV.s (SV.int IntKind.i64 (gF is id)), AV.s (SV.int IntKind.u8 (gW is id)), AV.s (SV.str (gC is id)), AV.s (SV.str (pN (getP ps (gP is id)))), AV.s (SV.ro (Con.typ cV (pV (getP ps (gP is id))))), AV.s (SV.ro (Con.typ cN (pO (getP ps (gP is id))))), AV.s (SV.ro (Con.typ cF (pF (getP ps (gP is id))))), AV.s (SV.ro (Con.ints IntKind.i64 (boL ps (gP is id) (gN is id))))] (98 : Nat), AObj.own [AV.s (SV.int IntKind.i64 ck), AV.s (SV.int IntKind.i64 nx), AV.s (SV.ro (Con.typ cP ps)), AV.s (SV.ro (Con.typ cI is)), AV.s (SV.ro (Con.typ cC cs)), AV.s (SV.ro (Con.typ cW ws))] (27 : Nat), AObj.own [AV.s (SV.int IntKind.i64 id)] (3 : Nat), AObj.dead, AObj.dead, AObj.own [AV.s (SV.int IntKind.i64 (gI is id)), AV.s (SV.int IntKind.i64 (gU is id)), AV.s (SV.int IntKind.u8 (gS is id)), AV.s (SV.str (gP is id)), AV.s (SV.int IntKind.i64 (gN is id)), AV.s (SV.int IntKind.i64 (gF is id)), AV.s (SV.int IntKind.u8 (gW is id)), AV.s (SV.str (gC is id))] (31 : Nat)] (AV.tup [AV.agg [AV.s (SV.ilit IntKind.i64 (0 : Int)), AV.s (SV.ilit IntKind.i64 (0 : Int))], AV.s (SV.blit false)]))
                (Tree.at (Cfg.mk (sl (195 : Nat) [((0 : Nat), AV.tag (0 : Nat)), ((1 : Nat), AV.ptr (1 : Nat) (0 : Nat)), ((5 : Nat), AV.s (SV.bool (hasI is (gU is id)))), ((6 : Nat), AV.mapv (2 : Nat)), ((7 : Nat), AV.ptr (3 : Nat) (0 : Nat)), ((8 : Nat), AV.s (SV.bool false)), ((84 : Nat), AV.ptr (4 : Nat) (0 : Nat)), ((86 : Nat), AV.ptr (5 : Nat) (0 : Nat)), ((150 : Nat), AV.tag (6 : Nat)), ((151 : Nat), AV.tag (0 : Nat)), ((158 : Nat), AV.ptr (7 : Nat) (0 : Nat)), ((159 : Nat), AV.ptr (8 : Nat) (0 : Nat)), ((160 : Nat), AV.ptr (9 : Nat) (0 : Nat)), ((161 : Nat), AV.ptr (10 : Nat) (0 : Nat)), ((193 : Nat), AV.tag (11 : Nat)), ((194 : Nat), AV.tag (12 : Nat))]) [AObj.dead, AObj.own [AV.s (SV.int IntKind.i64 ck), AV.s (SV.int IntKind.i64 nx), AV.s (SV.ro (Con.typ cP ps)), AV.s (SV.ro (Con.typ cI is)), AV.s (SV.ro (Con.typ cC cs)), AV.s (SV.ro (Con.typ cW ws))] (27 : Nat), AObj.map (CK.int IntKind.i64) [], AObj.own [AV.s (SV.int IntKind.i64 (gI is (gU is id))), AV.s (SV.int IntKind.i64 (gU is (gU is id))), AV.s (SV.int IntKind.u8 (gS is (gU is id))), AV.s (SV.str (gP is (gU is id))), AV.s (SV.int IntKind.i64 (gN is (gU is id))), AV.s (SV.int IntKind.i64 (gF is (gU is id))), AV.s (SV.int IntKind.u8 (gW is (gU is id))), AV.s (SV.str (gC is (gU is id)))] (31 : Nat), AObj.own [AV.s (SV.int IntKind.i64 ck), AV.s (SV.int IntKind.i64 nx), AV.s (SV.ro (Con.typ cP ps)), AV.s (SV.ro (Con.typ cI is)), AV.s (SV.ro (Con.typ cC cs)), AV.s (SV.ro (Con.typ cW ws))] (27 : Nat), AObj.own [AV.tag (12 : Nat)] (125 : Nat), AObj.dead, AObj.own [AV.s (SV.int IntKind.u8 ev)] (5 : Nat), AObj.own [AV.s (SV.str key)] (9 : Nat), AObj.own [AV.s (SV.int IntKind.i64 (0 : Int)), AV.s (SV.int IntKind.i64 (0 : Int))] (57 : Nat), AObj.own [AV.s (SV.bool false)] (4 : Nat), AObj.dead, AObj.dead] (hd Tryd.f83 (5 : Nat)) (Stk.mk (some (83 : Nat)) false (0 : Nat) [inRange Tryd.f78 (some (78 : Nat)) (6 : Nat) (1 : Nat), inRange Tryd.f27 none (5 : Nat) (1 : Nat)] (0 : Nat)))))))))))
  (Tree.ite (!hasI is id) (Tree.ret [AObj.own [AV.s (SV.int IntKind.i64 ck), AV.s (SV.int IntKind.i64 nx), AV.s (SV.ro (Con.typ cP ps)), AV.s (SV.ro (Con.typ cI is)), AV.s (SV.ro (Con.typ cC cs)), AV.s (SV.ro (Con.typ cW ws))] (27 : Nat), AObj.own [AV.s (SV.int IntKind.u8 ev)] (5 : Nat), AObj.own [AV.s (SV.str key)] (9 : Nat), AObj.own [AV.s (SV.ilit IntKind.i64 (0 : Int)), AV.s (SV.ilit IntKind.i64 (0 : Int))] (57 : Nat), AObj.own [AV.s (SV.blit false)] (4 : Nat), AObj.own [AV.s (SV.int IntKind.i64 ck), AV.s (SV.int IntKind.i64 nx), AV.s (SV.ro (Con.typ cP ps)), AV.s (SV.ro (Con.typ cI is)), AV.s (SV.ro (Con.typ cC cs)), AV.s (SV.ro (Con.typ cW ws))] (27 : Nat), AObj.own [AV.s (SV.int IntKind.i64 id)] (3 : Nat), AObj.dead, AObj.dead, AObj.own [AV.tag (8 : Nat)] (125 : Nat), AObj.own [AV.s (SV.int IntKind.i64 (gI is id)), AV.s (SV.int IntKind.i64 (gU is id)), AV.s (SV.int IntKind.u8 (gS is id)), AV.s (SV.str (gP is id)), AV.s (SV.int IntKind.i64 (gN is id)), AV.s (SV.int IntKind.i64 (gF is id)), AV.s (SV.int IntKind.u8 (gW is id)), AV.s (SV.str (gC is id))] (31 : Nat)] (AV.tup [AV.agg [AV.s (SV.ilit IntKind.i64 (0 : Int)), AV.s (SV.ilit IntKind.i64 (0 : Int))], AV.s (SV.blit false)]))
    (Tree.ite (gS is id != (2 : Int)) (Tree.ret [AObj.own [AV.s (SV.int IntKind.i64 ck), AV.s (SV.int IntKind.i64 nx), AV.s (SV.ro (Con.typ cP ps)), AV.s (SV.ro (Con.typ cI is)), AV.s (SV.ro (Con.typ cC cs)), AV.s (SV.ro (Con.typ cW ws))] (27 : Nat), AObj.own [AV.s (SV.int IntKind.u8 ev)] (5 : Nat), AObj.own [AV.s (SV.str key)] (9 : Nat), AObj.own [AV.s (SV.ilit IntKind.i64 (0 : Int)), AV.s (SV.ilit IntKind.i64 (0 : Int))] (57 : Nat), AObj.own [AV.s (SV.blit false)] (4 : Nat), AObj.own [AV.s (SV.int IntKind.i64 ck), AV.s (SV.int IntKind.i64 nx), AV.s (SV.ro (Con.typ cP ps)), AV.s (SV.ro (Con.typ cI is)), AV.s (SV.ro (Con.typ cC cs)), AV.s (SV.ro (Con.typ cW ws))] (27 : Nat), AObj.own [AV.s (SV.int IntKind.i64 id)] (3 : Nat), AObj.dead, AObj.dead, AObj.own [AV.tag (8 : Nat)] (125 : Nat), AObj.own [AV.s (SV.int IntKind.i64 (gI is id)), AV.s (SV.int IntKind.i64 (gU is id)), AV.s (SV.int IntKind.u8 (gS is id)), AV.s (SV.str (gP is id)), AV.s (SV.int IntKind.i64 (gN is id)), AV.s (SV.int IntKind.i64 (gF is id)), AV.s (SV.int IntKind.u8 (gW is id)), AV.s (SV.str (gC is id))] (31 : Nat)] (AV.tup [AV.agg [AV.s (SV.ilit IntKind.i64 (0 : Int)), AV.s (SV.ilit IntKind.i64 (0 : Int))], AV.s (SV.blit false)]))
      (Tree.need ((pO (getP ps (gP is id))).length ≤ (1000000 : Nat))
        (Tree.ite (chooseF (pO (getP ps (gP is id))) (boL ps (gP is id) (gN is id)) ev key).snd (Tree.ret [AObj.own [AV.s (SV.int IntKind.i64 ck), AV.s (SV.int IntKind.i64 nx), AV.s (SV.ro (Con.typ cP ps)), AV.s (SV.ro (Con.typ cI is)), AV.s (SV.ro (Con.typ cC cs)), AV.s (SV.ro (Con.typ cW ws))] (27 : Nat), AObj.own [AV.s (SV.int IntKind.u8 ev)] (5 : Nat), AObj.own [AV.s (SV.str key)] (9 : Nat), AObj.own [AV.s (SV.int IntKind.i64 (gI is id)), AV.s (SV.int IntKind.i64 (chooseF (pO (getP ps (gP is id))) (boL ps (gP is id) (gN is id)) ev key).fst)] (57 : Nat), AObj.own [AV.s (SV.blit true)] (4 : Nat), AObj.own [AV.s (SV.int IntKind.i64 ck), AV.s (SV.int IntKind.i64 nx), AV.s (SV.ro (Con.typ cP ps)), AV.s (SV.ro (Con.typ cI is)), AV.s (SV.ro (Con.typ cC cs)), AV.s (SV.ro (Con.typ cW ws))] (27 : Nat), AObj.own [AV.s (SV.int IntKind.i64 id)] (3 : Nat), AObj.dead, AObj.dead, AObj.own [AV.tag (8 : Nat)] (125 : Nat), AObj.own [AV.s (SV.int IntKind.i64 (gI is id)), AV.s (SV.int IntKind.i64 (gU is id)), AV.s (SV.int IntKind.u8 (gS is id)), AV.s (SV.str (gP is id)), AV.s (SV.int IntKind.i64 (gN is id)), AV.s (SV.int IntKind.i64 (gF is id)), AV.s (SV.int IntKind.u8 (gW is id)), AV.s (SV.str (gC is id))] (31 : Nat), AObj.own [AV.s (SV.int IntKind.i64 (gI is id)), AV.s (SV.int IntKind.i64 (gU is id)), AV.s (SV.int IntKind.u8 (gS is id)), AV.s (SV.str (gP is id)), AV.s (SV.int IntKind.i64 (gN is id)), AV.s (SV.int IntKind.i64 (gF is id)), AV.s (SV.int IntKind.u8 (gW is id)), AV.s (SV.str (gC is id)), AV.s (SV.str (pN (getP ps (gP is id)))), AV.s (SV.ro (Con.typ cV (pV (getP ps (gP is id))))), AV.s (SV.ro (Con.typ cN (pO (getP ps (gP is id))))), AV.s (SV.ro (Con.typ cF (pF (getP ps (gP is id))))), AV.s (SV.ro (Con.ints IntKind.i64 (boL ps (gP is id) (gN is id))))] (98 : Nat)] (AV.tup [AV.agg [AV.s (SV.int IntKind.i64 (gI is id)), AV.s (SV.int IntKind.i64 (chooseF (pO (getP ps (gP is id))) (boL ps (gP is id) (gN is id)) ev key).fst)], AV.s (SV.blit true)]))
          (Tree.ite (!hasI is id) (Tree.ret [AObj.own [AV.s (SV.int IntKind.i64 ck), AV.s (SV.int IntKind.i64 nx), AV.s (SV.ro (Con.typ cP ps)), AV.s (SV.ro (Con.typ cI is)), AV.s (SV.ro (Con.typ cC cs)), AV.s (SV.ro (Con.typ cW ws))] (27 : Nat), AObj.own [AV.s (SV.int IntKind.u8 ev)] (5 : Nat), AObj.own [AV.s (SV.str key)] (9 : Nat), AObj.own [AV.s (SV.ilit IntKind.i64 (0 : Int)), AV.s (SV.ilit IntKind.i64 (0 : Int))] (57 : Nat), AObj.own [AV.s (SV.blit false)] (4 : Nat), AObj.own [AV.s (SV.int IntKind.i64 ck), AV.s (SV.int IntKind.i64 nx), AV.s (SV.ro (Con.typ cP ps)), AV.s (SV.ro (Con.typ cI is)), AV.s (SV.ro (Con.typ cC cs)), AV.s (SV.ro (Con.typ cW ws))] (27 : Nat), AObj.own [AV.s (SV.int IntKind.i64 id)] (3 : Nat), AObj.dead, AObj.dead, AObj.own [AV.tag (8 : Nat)] (125 : Nat), AObj.own [AV.s (SV.int IntKind.i64 (gI is id)), AV.s (SV.int IntKind.i64 (gU is id)), AV.s (SV.int IntKind.u8 (gS is id)), AV.s (SV.str (gP is id)), AV.s (SV.int IntKind.i64 (gN is id)), AV.s (SV.int IntKind.i64 (gF is id)), AV.s (SV.int IntKind.u8 (gW is id)), AV.s (SV.str (gC is id))] (31 : Nat), AObj.own [AV.s (SV.int IntKind.i64 (gI is id)), AV.s (SV.int IntKind.i64 (gU is id)), AV.s (SV.int IntKind.u8 (gS is id)), AV.s (SV.str (gP is id)), AV.s (SV.int IntKind.i64 (gN is id)), AV.s (SV.int IntKind.i64 (gF is id)), AV.s (SV.int IntKind.u8 (gW is id)), AV.s (SV.str (gC is id)), AV.s (SV.str (pN (getP ps (gP is id)))), AV.s (SV.ro (Con.typ cV (pV (getP ps (gP is id))))), AV.s (SV.ro (Con.typ cN (pO (getP ps (gP is id))))), AV.s (SV.ro (Con.typ cF (pF (getP ps (gP is id))))), AV.s (SV.ro (Con.ints IntKind.i64 (boL ps (gP is id) (gN is id))))] (98 : Nat), AObj.own [AV.s (SV.int IntKind.i64 ck), AV.s (SV.int IntKind.i64 nx), AV.s (SV.ro (Con.typ cP ps)), AV.s (SV.ro (Con.typ cI is)), AV.s (SV.ro (Con.typ cC cs)), AV.s (SV.ro (Con.typ cW ws))] (27 : Nat), AObj.own [AV.s (SV.int IntKind.i64 id)] (3 : Nat), AObj.dead, AObj.dead, AObj.own [AV.s (SV.int IntKind.i64 (gI is id)), AV.s (SV.int IntKind.i64 (gU is id)), AV.s (SV.int IntKind.u8 (gS is id)), AV.s (SV.str (gP is id)), AV.s (SV.int IntKind.i64 (gN is id)), AV.s (SV.int IntKind.i64 (gF is id)), AV.s (SV.int IntKind.u8 (gW is id)), AV.s (SV.str (gC is id))] (31 : Nat)] (AV.tup [AV.agg [AV.s (SV.ilit IntKind.i64 (0 : Int)), AV.s (SV.ilit IntKind.i64 (0 : Int))], AV.s (SV.blit false)]))
            (Tree.ite (gS is id != (2 : Int)) (Tree.ret [AObj.own [AV.s (SV.int IntKind.i64 ck), AV.s (SV.int IntKind.i64 nx), AV.s (SV.ro (Con.typ cP ps)), AV.s (SV.ro (Con.typ cI is)), AV.s (SV.ro (Con.typ cC cs)), AV.s (SV.ro (Con.typ cW ws))] (27 : Nat), AObj.own [AV.s (SV.int IntKind.u8 ev)] (5 : Nat), AObj.own [AV.s (SV.str key)] (9 : Nat), AObj.own [AV.s (SV.ilit IntKind.i64 (0 : Int)), AV.s (SV.ilit IntKind.i64 (0 : Int))] (57 : Nat), AObj.own [AV.s (SV.blit false)] (4 : Nat), AObj.own [AV.s (SV.int IntKind.i64 ck), AV.s (SV.int IntKind.i64 nx), AV.s (SV.ro (Con.typ cP ps)), AV.s (SV.ro (Con.typ cI is)), AV.s (SV.ro (Con.typ cC cs)), AV.s (SV.ro (Con.typ cW ws))] (27 : Nat), AObj.own [AV.s (SV.int IntKind.i64 id)] (3 : Nat), AObj.dead, AObj.dead, AObj.own [AV.tag (8 : Nat)] (125 : Nat), AObj.own [AV.s (SV.int IntKind.i64 (gI is id)), AV.s (SV.int IntKind.i64 (gU is id)), AV.s (SV.int IntKind.u8 (gS is id)), AV.s (SV.str (gP is id)), AV.s (SV.int IntKind.i64 (gN is id)), AV.s (SV.int IntKind.i64 (gF is id)), AV.s (SV.int IntKind.u8 (gW is id)), AV.s (SV.str (gC is id))] (31 : Nat), AObj.own [AV.s (SV.int IntKind.i64 (gI is id)), AV.s (SV.int IntKind.i64 (gU is id)), AV.s (SV.int IntKind.u8 (gS is id)), AV.s (SV.str (gP is id)), AV.s (SV.int IntKind.i64 (gN is id)), AV.s (SV.int IntKind.i64 (gF is id)), AV.s (SV.int IntKind.u8 (gW is id)), AV.s (SV.str (gC is id)), AV.s (SV.str (pN (getP ps (gP is id)))), AV.s (SV.ro (Con.typ cV (pV (getP ps (gP is id))))), AV.s (SV.ro (Con.typ cN (pO (getP ps (gP is id))))), AV.s (SV.ro (Con.typ cF (pF (getP ps (gP is id))))), AV.s (SV.ro (Con.ints IntKind.i64 (boL ps (gP is id) (gN is id))))] (98 : Nat), AObj.own [AV.s (SV.int IntKind.i64 ck), AV.s (SV.int IntKind.i64 nx), AV.s (SV.ro (Con.typ cP ps)), AV.s (SV.ro (Con.typ cI is)), AV.s (SV.ro (Con.typ cC cs)), AV.s (SV.ro (Con.typ cW ws))] (27 : Nat), AObj.own [AV.s (SV.int IntKind.i64 id)] (3 : Nat), AObj.dead, AObj.dead, AObj.own [AV.s (SV.int IntKind.i64 (gI is id)), AV.s (SV.int IntKind.i64 (gU is id)), AV.s (SV.int IntKind.u8 (gS is id)), AV.s (SV.str (gP is id)), AV.s (SV.int IntKind.i64 (gN is id)), AV.s (SV.int IntKind.i64 (gF is id)), AV.s (SV.int IntKind.u8 (gW is id)), AV.s (SV.str (gC is id))] (31 : Nat)] (AV.tup [AV.agg [AV.s (SV.ilit IntKind.i64 (0 : Int)), AV.s (SV.ilit IntKind.i64 (0 : Int))], AV.s (SV.blit false)]))
              (Tree.at (Cfg.mk (sl (195 : Nat) [((0 : Nat), AV.tag (0 : Nat)), ((1 : Nat), AV.ptr (1 : Nat) (0 : Nat)), ((5 : Nat), AV.s (SV.bool (hasI is (gU is id)))), ((6 : Nat), AV.mapv (2 : Nat)), ((7 : Nat), AV.ptr (3 : Nat) (0 : Nat)), ((8 : Nat), AV.s (SV.bool false)), ((84 : Nat), AV.ptr (4 : Nat) (0 : Nat)), ((86 : Nat), AV.ptr (5 : Nat) (0 : Nat)), ((150 : Nat), AV.tag (6 : Nat)), ((151 : Nat), AV.tag (0 : Nat)), ((158 : Nat), AV.ptr (7 : Nat) (0 : Nat)), ((159 : Nat), AV.ptr (8 : Nat) (0 : Nat)), ((160 : Nat), AV.ptr (9 : Nat) (0 : Nat)), ((161 : Nat), AV.ptr (10 : Nat) (0 : Nat)), ((193 : Nat), AV.tag (11 : Nat)), ((194 : Nat), AV.tag (12 : Nat))]) [AObj.dead, AObj.own [AV.s (SV.int IntKind.i64 ck), AV.s (SV.int IntKind.i64 nx), AV.s (SV.ro (Con.typ cP ps)), AV.s (SV.ro (Con.typ cI is)), AV.s (SV.ro (Con.typ cC cs)), AV.s (SV.ro (Con.typ cW ws))] (27 : Nat), AObj.map (CK.int IntKind.i64) [], AObj.own [AV.s (SV.int IntKind.i64 (gI is (gU is id))), AV.s (SV.int IntKind.i64 (gU is (gU is id))), AV.s (SV.int IntKind.u8 (gS is (gU is id))), AV.s (SV.str (gP is (gU is id))), AV.s (SV.int IntKind.i64 (gN is (gU is id))), AV.s (SV.int IntKind.i64 (gF is (gU is id))), AV.s (SV.int IntKind.u8 (gW is (gU is id))), AV.s (SV.str (gC is (gU is id)))] (31 : Nat), AObj.own [AV.s (SV.int IntKind.i64 ck), AV.s (SV.int IntKind.i64 nx), AV.s (SV.ro (Con.typ cP ps)), AV.s (SV.ro (Con.typ cI is)), AV.s (SV.ro (Con.typ cC cs)), AV.s (SV.ro (Con.typ cW ws))] (27 : Nat), AObj.own [AV.tag (12 : Nat)] (125 : Nat), AObj.dead, AObj.own [AV.s (SV.int IntKind.u8 ev)] (5 : Nat), AObj.own [AV.s (SV.str key)] (9 : Nat), AObj.own [AV.s (SV.int IntKind.i64 (0 : Int)), AV.s (SV.int IntKind.i64 (0 : Int))] (57 : Nat), AObj.own [AV.s (SV.bool false)] (4 : Nat), AObj.dead, AObj.dead] (hd Tryd.f83 (5 : Nat)) (Stk.mk (some (83 : Nat)) false (0 : Nat) [inRange Tryd.f78 (some (78 : Nat)) (6 : Nat) (1 : Nat), inRange Tryd.f27 none (5 : Nat) (1 : Nat)] (0 : Nat)))))))))) := by kernel_rfl
theorem loopRf (ck nx : Int) (ps : Ps) (is : Is) (cs : Cs) (ws : Ws) (ev : Int) (key : ByteArray) (b own : Bool) (x : CL cI) (m : Mp) : run P tabRf.sum Tryd.f27 nsRg (cRf ck nx ps is cs ws ev key b own x m) inRf =
  Tree.ite b
  (Tree.ite (iS x == (1 : Int))
    (Tree.ite ((mget m (iI x)).getD (CK.int IntKind.i64).d == (0 : Int))
      (Tree.need (inI64 ((mget m (iI x)).getD (CK.int IntKind.i64).d + (1 : Int)))
        (Tree.ite (!own)
          (Tree.need ((pO (getP ps (iP x))).length ≤ (1000000 : Nat))
            (Tree.ite (chooseF (pO (getP ps (iP x))) (asL (pO (getP ps (iP x))) (iN x)) ev key).snd (Tree.ret [AObj.dead, AObj.own [AV.s (SV.int IntKind.i64 ck), AV.s (SV.int IntKind.i64 nx), AV.s (SV.ro (Con.typ cP ps)), AV.s (SV.ro (Con.typ cI is)), AV.s (SV.ro (Con.typ cC cs)), AV.s (SV.ro (Con.typ cW ws))] (27 : Nat), AObj.map (CK.int IntKind.i64) (mput m (iI x) ((mget m (iI x)).getD (CK.int IntKind.i64).d + (1 : Int))), AObj.own [AV.s (SV.int IntKind.i64 (iI x)), AV.s (SV.int IntKind.i64 (iU x)), AV.s (SV.int IntKind.u8 (iS x)), AV.s (SV.str (iP x)), AV.s (SV.int IntKind.i64 (iN x)), AV.s (SV.int IntKind.i64 (iF x)), AV.s (SV.int IntKind.u8 (iW x)), AV.s (SV.str (iC x))] (31 : Nat), AObj.own [AV.s (SV.int IntKind.i64 ck), AV.s (SV.int IntKind.i64 nx), AV.s (SV.ro (Con.typ cP ps)), AV.s (SV.ro (Con.typ cI is)), AV.s (SV.ro (Con.typ cC cs)), AV.s (SV.ro (Con.typ cW ws))] (27 : Nat), AObj.own [AV.tag (12 : Nat)] (125 : Nat), AObj.dead, AObj.own [AV.s (SV.int IntKind.u8 ev)] (5 : Nat), AObj.own [AV.s (SV.str key)] (9 : Nat), AObj.own [AV.s (SV.int IntKind.i64 (iI x)), AV.s (SV.int IntKind.i64 (chooseF (pO (getP ps (iP x))) (asL (pO (getP ps (iP x))) (iN x)) ev key).fst)] (57 : Nat), AObj.own [AV.s (SV.blit true)] (4 : Nat), AObj.dead, AObj.dead, AObj.own [AV.s (SV.int IntKind.i64 (iI x)), AV.s (SV.int IntKind.i64 (iU x)), AV.s (SV.int IntKind.u8 (iS x)), AV.s (SV.str (iP x)), AV.s (SV.int IntKind.i64 (iN x)), AV.s (SV.int IntKind.i64 (iF x)), AV.s (SV.int IntKind.u8 (iW x)), AV.s (SV.str (iC x))] (31 : Nat), AObj.own [AV.s (SV.int IntKind.i64 (iI x)), AV.s (SV.int IntKind.i64 (iU x)), AV.s (SV.int IntKind.u8 (iS x)), AV.s (SV.str (iP x)), AV.s (SV.int IntKind.i64 (iN x)), AV.s (SV.int IntKind.i64 (iF x)), AV.s (SV.int IntKind.u8 (iW x)), AV.s (SV.str (iC x)), AV.s (SV.str (pN (getP ps (iP x)))), AV.s (SV.ro (Con.typ cV (pV (getP ps (iP x))))), AV.s (SV.ro (Con.typ cN (pO (getP ps (iP x))))), AV.s (SV.ro (Con.typ cF (pF (getP ps (iP x))))), AV.s (SV.ro (Con.ints IntKind.i64 (asL (pO (getP ps (iP x))) (iN x))))] (98 : Nat)] (AV.tup [AV.agg [AV.s (SV.int IntKind.i64 (iI x)), AV.s (SV.int IntKind.i64 (chooseF (pO (getP ps (iP x))) (asL (pO (getP ps (iP x))) (iN x)) ev key).fst)], AV.s (SV.blit true)]))
              (Tree.ite (hasI is (iU x))
                (Tree.ite (gS is (iU x) == (2 : Int))
                  (Tree.need ((pO (getP ps (gP is (iU x)))).length ≤ (1000000 : Nat))
                    (Tree.ite (chooseF (pO (getP ps (gP is (iU x)))) (boL ps (gP is (iU x)) (gN is (iU x))) ev key).snd (Tree.ret [AObj.dead, AObj.own [AV.s (SV.int IntKind.i64 ck), AV.s (SV.int IntKind.i64 nx), AV.s (SV.ro (Con.typ cP ps)), AV.s (SV.ro (Con.typ cI is)), AV.s (SV.ro (Con.typ cC cs)), AV.s (SV.ro (Con.typ cW ws))] (27 : Nat), AObj.map (CK.int IntKind.i64) (mput m (iI x) ((mget m (iI x)).getD (CK.int IntKind.i64).d + (1 : Int))), AObj.own [AV.s (SV.int IntKind.i64 (iI x)), AV.s (SV.int IntKind.i64 (iU x)), AV.s (SV.int IntKind.u8 (iS x)), AV.s (SV.str (iP x)), AV.s (SV.int IntKind.i64 (iN x)), AV.s (SV.int IntKind.i64 (iF x)), AV.s (SV.int IntKind.u8 (iW x)), AV.s (SV.str (iC x))] (31 : Nat), AObj.own [AV.s (SV.int IntKind.i64 ck), AV.s (SV.int IntKind.i64 nx), AV.s (SV.ro (Con.typ cP ps)), AV.s (SV.ro (Con.typ cI is)), AV.s (SV.ro (Con.typ cC cs)), AV.s (SV.ro (Con.typ cW ws))] (27 : Nat), AObj.own [AV.tag (12 : Nat)] (125 : Nat), AObj.dead, AObj.own [AV.s (SV.int IntKind.u8 ev)] (5 : Nat), AObj.own [AV.s (SV.str key)] (9 : Nat), AObj.own [AV.s (SV.int IntKind.i64 (gI is (iU x))), AV.s (SV.int IntKind.i64 (chooseF (pO (getP ps (gP is (iU x)))) (boL ps (gP is (iU x)) (gN is (iU x))) ev key).fst)] (57 : Nat), AObj.own [AV.s (SV.blit true)] (4 : Nat), AObj.dead, AObj.dead, AObj.own [AV.s (SV.int IntKind.i64 (iI x)), AV.s (SV.int IntKind.i64 (iU x)), AV.s (SV.int IntKind.u8 (iS x)), AV.s (SV.str (iP x)), AV.s (SV.int IntKind.i64 (iN x)), AV.s (SV.int IntKind.i64 (iF x)), AV.s (SV.int IntKind.u8 (iW x)), AV.s (SV.str (iC x))] (31 : Nat), AObj.own [AV.s (SV.int IntKind.i64 (iI x)), AV.s (SV.int IntKind.i64 (iU x)), AV.s (SV.int IntKind.u8 (iS x)), AV.s (SV.str (iP x)), AV.s (SV.int IntKind.i64 (iN x)), AV.s (SV.int IntKind.i64 (iF x)), AV.s (SV.int IntKind.u8 (iW x)), AV.s (SV.str (iC x)), AV.s (SV.str (pN (getP ps (iP x)))), AV.s (SV.ro (Con.typ cV (pV (getP ps (iP x))))), AV.s (SV.ro (Con.typ cN (pO (getP ps (iP x))))), AV.s (SV.ro (Con.typ cF (pF (getP ps (iP x))))), AV.s (SV.ro (Con.ints IntKind.i64 (asL (pO (getP ps (iP x))) (iN x))))] (98 : Nat), AObj.own [AV.s (SV.int IntKind.i64 (gI is (iU x))), AV.s (SV.int IntKind.i64 (gU is (iU x))), AV.s (SV.int IntKind.u8 (gS is (iU x))), AV.s (SV.str (gP is (iU x))), AV.s (SV.int IntKind.i64 (gN is (iU x))), AV.s (SV.int IntKind.i64 (gF is (iU x))), AV.s (SV.int IntKind.u8 (gW is (iU x))), AV.s (SV.str (gC is (iU x)))] (31 : Nat), AObj.own [AV.s (SV.int IntKind.i64 (gI is (iU x))), AV.s (SV.int IntKind.i64 (gU is (iU x))), AV.s (SV.int IntKind.u8 (gS is (iU x))), AV.s (SV.str (gP is (iU x))), AV.s (SV.int IntKind.i64 (gN is (iU x))), AV.s (SV.int IntKind.i64 (gF is (iU x))), AV.s (SV.int IntKind.u8 (gW is (iU x))), AV.s (SV.str (gC is (iU x))), AV.s (SV.str (pN (getP ps (gP is (iU x))))), AV.s (SV.ro (Con.typ cV (pV (getP ps (gP is (iU x)))))), AV.s (SV.ro (Con.typ cN (pO (getP ps (gP is (iU x)))))), AV.s (SV.ro (Con.typ cF (pF (getP ps (gP is (iU x)))))), AV.s (SV.ro (Con.ints IntKind.i64 (boL ps (gP is (iU x)) (gN is (iU x)))))] (98 : Nat)] (AV.tup [AV.agg [AV.s (SV.int IntKind.i64 (gI is (iU x))), AV.s (SV.int IntKind.i64 (chooseF (pO (getP ps (gP is (iU x)))) (boL ps (gP is (iU x)) (gN is (iU x))) ev key).fst)], AV.s (SV.blit true)]))
                      (Tree.at (Cfg.mk (sl (195 : Nat) [((0 : Nat), AV.tag (0 : Nat)), ((1 : Nat), AV.ptr (1 : Nat) (0 : Nat)), ((6 : Nat), AV.mapv (2 : Nat)), ((7 : Nat), AV.ptr (3 : Nat) (0 : Nat)), ((84 : Nat), AV.ptr (4 : Nat) (0 : Nat)), ((86 : Nat), AV.ptr (5 : Nat) (0 : Nat)), ((150 : Nat), AV.tag (6 : Nat)), ((151 : Nat), AV.tag (0 : Nat)), ((158 : Nat), AV.ptr (7 : Nat) (0 : Nat)), ((159 : Nat), AV.ptr (8 : Nat) (0 : Nat)), ((160 : Nat), AV.ptr (9 : Nat) (0 : Nat)), ((161 : Nat), AV.ptr (10 : Nat) (0 : Nat)), ((193 : Nat), AV.tag (11 : Nat)), ((194 : Nat), AV.tag (12 : Nat))]) [AObj.dead, AObj.own [AV.s (SV.int IntKind.i64 ck), AV.s (SV.int IntKind.i64 nx), AV.s (SV.ro (Con.typ cP ps)), AV.s (SV.ro (Con.typ cI is)), AV.s (SV.ro (Con.typ cC cs)), AV.s (SV.ro (Con.typ cW ws))] (27 : Nat), AObj.map (CK.int IntKind.i64) (mput m (iI x) ((mget m (iI x)).getD (CK.int IntKind.i64).d + (1 : Int))), AObj.own [AV.s (SV.int IntKind.i64 (iI x)), AV.s (SV.int IntKind.i64 (iU x)), AV.s (SV.int IntKind.u8 (iS x)), AV.s (SV.str (iP x)), AV.s (SV.int IntKind.i64 (iN x)), AV.s (SV.int IntKind.i64 (iF x)), AV.s (SV.int IntKind.u8 (iW x)), AV.s (SV.str (iC x))] (31 : Nat), AObj.own [AV.s (SV.int IntKind.i64 ck), AV.s (SV.int IntKind.i64 nx), AV.s (SV.ro (Con.typ cP ps)), AV.s (SV.ro (Con.typ cI is)), AV.s (SV.ro (Con.typ cC cs)), AV.s (SV.ro (Con.typ cW ws))] (27 : Nat), AObj.own [AV.tag (12 : Nat)] (125 : Nat), AObj.dead, AObj.own [AV.s (SV.int IntKind.u8 ev)] (5 : Nat), AObj.own [AV.s (SV.str key)] (9 : Nat), AObj.own [AV.s (SV.int IntKind.i64 (0 : Int)), AV.s (SV.int IntKind.i64 (0 : Int))] (57 : Nat), AObj.own [AV.s (SV.bool false)] (4 : Nat), AObj.dead, AObj.dead] (hr Tryd.f83 (8 : Nat)) (Stk.mk (some (83 : Nat)) false (0 : Nat) [inRange Tryd.f78 (some (78 : Nat)) (6 : Nat) (1 : Nat), inRange Tryd.f27 none (5 : Nat) (1 : Nat)] (0 : Nat))))))
                  (Tree.at (Cfg.mk (sl (195 : Nat) [((0 : Nat), AV.tag (0 : Nat)), ((1 : Nat), AV.ptr (1 : Nat) (0 : Nat)), ((6 : Nat), AV.mapv (2 : Nat)), ((7 : Nat), AV.ptr (3 : Nat) (0 : Nat)), ((84 : Nat), AV.ptr (4 : Nat) (0 : Nat)), ((86 : Nat), AV.ptr (5 : Nat) (0 : Nat)), ((150 : Nat), AV.tag (6 : Nat)), ((151 : Nat), AV.tag (0 : Nat)), ((158 : Nat), AV.ptr (7 : Nat) (0 : Nat)), ((159 : Nat), AV.ptr (8 : Nat) (0 : Nat)), ((160 : Nat), AV.ptr (9 : Nat) (0 : Nat)), ((161 : Nat), AV.ptr (10 : Nat) (0 : Nat)), ((193 : Nat), AV.tag (11 : Nat)), ((194 : Nat), AV.tag (12 : Nat))]) [AObj.dead, AObj.own [AV.s (SV.int IntKind.i64 ck), AV.s (SV.int IntKind.i64 nx), AV.s (SV.ro (Con.typ cP ps)), AV.s (SV.ro (Con.typ cI is)), AV.s (SV.ro (Con.typ cC cs)), AV.s (SV.ro (Con.typ cW ws))] (27 : Nat), AObj.map (CK.int IntKind.i64) (mput m (iI x) ((mget m (iI x)).getD (CK.int IntKind.i64).d + (1 : Int))), AObj.own [AV.s (SV.int IntKind.i64 (iI x)), AV.s (SV.int IntKind.i64 (iU x)), AV.s (SV.int IntKind.u8 (iS x)), AV.s (SV.str (iP x)), AV.s (SV.int IntKind.i64 (iN x)), AV.s (SV.int IntKind.i64 (iF x)), AV.s (SV.int IntKind.u8 (iW x)), AV.s (SV.str (iC x))] (31 : Nat), AObj.own [AV.s (SV.int IntKind.i64 ck), AV.s (SV.int IntKind.i64 nx), AV.s (SV.ro (Con.typ cP ps)), AV.s (SV.ro (Con.typ cI is)), AV.s (SV.ro (Con.typ cC cs)), AV.s (SV.ro (Con.typ cW ws))] (27 : Nat), AObj.own [AV.tag (12 : Nat)] (125 : Nat), AObj.dead, AObj.own [AV.s (SV.int IntKind.u8 ev)] (5 : Nat), AObj.own [AV.s (SV.str key)] (9 : Nat), AObj.own [AV.s (SV.int IntKind.i64 (0 : Int)), AV.s (SV.int IntKind.i64 (0 : Int))] (57 : Nat), AObj.own [AV.s (SV.bool false)] (4 : Nat), AObj.dead, AObj.dead] (hr Tryd.f83 (8 : Nat)) (Stk.mk (some (83 : Nat)) false (0 : Nat) [inRange Tryd.f78 (some (78 : Nat)) (6 : Nat) (1 : Nat), inRange Tryd.f27 none (5 : Nat) (1 : Nat)] (0 : Nat)))))
                (Tree.at (Cfg.mk (sl (195 : Nat) [((0 : Nat), AV.tag (0 : Nat)), ((1 : Nat), AV.ptr (1 : Nat) (0 : Nat)), ((6 : Nat), AV.mapv (2 : Nat)), ((7 : Nat), AV.ptr (3 : Nat) (0 : Nat)), ((84 : Nat), AV.ptr (4 : Nat) (0 : Nat)), ((86 : Nat), AV.ptr (5 : Nat) (0 : Nat)), ((150 : Nat), AV.tag (6 : Nat)), ((151 : Nat), AV.tag (0 : Nat)), ((158 : Nat), AV.ptr (7 : Nat) (0 : Nat)), ((159 : Nat), AV.ptr (8 : Nat) (0 : Nat)), ((160 : Nat), AV.ptr (9 : Nat) (0 : Nat)), ((161 : Nat), AV.ptr (10 : Nat) (0 : Nat)), ((193 : Nat), AV.tag (11 : Nat)), ((194 : Nat), AV.tag (12 : Nat))]) [AObj.dead, AObj.own [AV.s (SV.int IntKind.i64 ck), AV.s (SV.int IntKind.i64 nx), AV.s (SV.ro (Con.typ cP ps)), AV.s (SV.ro (Con.typ cI is)), AV.s (SV.ro (Con.typ cC cs)), AV.s (SV.ro (Con.typ cW ws))] (27 : Nat), AObj.map (CK.int IntKind.i64) (mput m (iI x) ((mget m (iI x)).getD (CK.int IntKind.i64).d + (1 : Int))), AObj.own [AV.s (SV.int IntKind.i64 (iI x)), AV.s (SV.int IntKind.i64 (iU x)), AV.s (SV.int IntKind.u8 (iS x)), AV.s (SV.str (iP x)), AV.s (SV.int IntKind.i64 (iN x)), AV.s (SV.int IntKind.i64 (iF x)), AV.s (SV.int IntKind.u8 (iW x)), AV.s (SV.str (iC x))] (31 : Nat), AObj.own [AV.s (SV.int IntKind.i64 ck), AV.s (SV.int IntKind.i64 nx), AV.s (SV.ro (Con.typ cP ps)), AV.s (SV.ro (Con.typ cI is)), AV.s (SV.ro (Con.typ cC cs)), AV.s (SV.ro (Con.typ cW ws))] (27 : Nat), AObj.own [AV.tag (12 : Nat)] (125 : Nat), AObj.dead, AObj.own [AV.s (SV.int IntKind.u8 ev)] (5 : Nat), AObj.own [AV.s (SV.str key)] (9 : Nat), AObj.own [AV.s (SV.int IntKind.i64 (0 : Int)), AV.s (SV.int IntKind.i64 (0 : Int))] (57 : Nat), AObj.own [AV.s (SV.bool false)] (4 : Nat), AObj.dead, AObj.dead] (hr Tryd.f83 (8 : Nat)) (Stk.mk (some (83 : Nat)) false (0 : Nat) [inRange Tryd.f78 (some (78 : Nat)) (6 : Nat) (1 : Nat), inRange Tryd.f27 none (5 : Nat) (1 : Nat)] (0 : Nat)))))))
          (Tree.ite (hasI is (iU x))
            (Tree.ite (gS is (iU x) == (2 : Int))
              (Tree.need ((pO (getP ps (gP is (iU x)))).length ≤ (1000000 : Nat))
                (Tree.ite (chooseF (pO (getP ps (gP is (iU x)))) (boL ps (gP is (iU x)) (gN is (iU x))) ev key).snd (Tree.ret [AObj.dead, AObj.own [AV.s (SV.int IntKind.i64 ck), AV.s (SV.int IntKind.i64 nx), AV.s (SV.ro (Con.typ cP ps)), AV.s (SV.ro (Con.typ cI is)), AV.s (SV.ro (Con.typ cC cs)), AV.s (SV.ro (Con.typ cW ws))] (27 : Nat), AObj.map (CK.int IntKind.i64) (mput m (iI x) ((mget m (iI x)).getD (CK.int IntKind.i64).d + (1 : Int))), AObj.own [AV.s (SV.int IntKind.i64 (iI x)), AV.s (SV.int IntKind.i64 (iU x)), AV.s (SV.int IntKind.u8 (iS x)), AV.s (SV.str (iP x)), AV.s (SV.int IntKind.i64 (iN x)), AV.s (SV.int IntKind.i64 (iF x)), AV.s (SV.int IntKind.u8 (iW x)), AV.s (SV.str (iC x))] (31 : Nat), AObj.own [AV.s (SV.int IntKind.i64 ck), AV.s (SV.int IntKind.i64 nx), AV.s (SV.ro (Con.typ cP ps)), AV.s (SV.ro (Con.typ cI is)), AV.s (SV.ro (Con.typ cC cs)), AV.s (SV.ro (Con.typ cW ws))] (27 : Nat), AObj.own [AV.tag (12 : Nat)] (125 : Nat), AObj.dead, AObj.own [AV.s (SV.int IntKind.u8 ev)] (5 : Nat), AObj.own [AV.s (SV.str key)] (9 : Nat), AObj.own [AV.s (SV.int IntKind.i64 (gI is (iU x))), AV.s (SV.int IntKind.i64 (chooseF (pO (getP ps (gP is (iU x)))) (boL ps (gP is (iU x)) (gN is (iU x))) ev key).fst)] (57 : Nat), AObj.own [AV.s (SV.blit true)] (4 : Nat), AObj.dead, AObj.dead, AObj.own [AV.s (SV.int IntKind.i64 (iI x)), AV.s (SV.int IntKind.i64 (iU x)), AV.s (SV.int IntKind.u8 (iS x)), AV.s (SV.str (iP x)), AV.s (SV.int IntKind.i64 (iN x)), AV.s (SV.int IntKind.i64 (iF x)), AV.s (SV.int IntKind.u8 (iW x)), AV.s (SV.str (iC x))] (31 : Nat), AObj.own [AV.s (SV.int IntKind.i64 (gI is (iU x))), AV.s (SV.int IntKind.i64 (gU is (iU x))), AV.s (SV.int IntKind.u8 (gS is (iU x))), AV.s (SV.str (gP is (iU x))), AV.s (SV.int IntKind.i64 (gN is (iU x))), AV.s (SV.int IntKind.i64 (gF is (iU x))), AV.s (SV.int IntKind.u8 (gW is (iU x))), AV.s (SV.str (gC is (iU x)))] (31 : Nat), AObj.own [AV.s (SV.int IntKind.i64 (gI is (iU x))), AV.s (SV.int IntKind.i64 (gU is (iU x))), AV.s (SV.int IntKind.u8 (gS is (iU x))), AV.s (SV.str (gP is (iU x))), AV.s (SV.int IntKind.i64 (gN is (iU x))), AV.s (SV.int IntKind.i64 (gF is (iU x))), AV.s (SV.int IntKind.u8 (gW is (iU x))), AV.s (SV.str (gC is (iU x))), AV.s (SV.str (pN (getP ps (gP is (iU x))))), AV.s (SV.ro (Con.typ cV (pV (getP ps (gP is (iU x)))))), AV.s (SV.ro (Con.typ cN (pO (getP ps (gP is (iU x)))))), AV.s (SV.ro (Con.typ cF (pF (getP ps (gP is (iU x)))))), AV.s (SV.ro (Con.ints IntKind.i64 (boL ps (gP is (iU x)) (gN is (iU x)))))] (98 : Nat)] (AV.tup [AV.agg [AV.s (SV.int IntKind.i64 (gI is (iU x))), AV.s (SV.int IntKind.i64 (chooseF (pO (getP ps (gP is (iU x)))) (boL ps (gP is (iU x)) (gN is (iU x))) ev key).fst)], AV.s (SV.blit true)]))
                  (Tree.at (Cfg.mk (sl (195 : Nat) [((0 : Nat), AV.tag (0 : Nat)), ((1 : Nat), AV.ptr (1 : Nat) (0 : Nat)), ((6 : Nat), AV.mapv (2 : Nat)), ((7 : Nat), AV.ptr (3 : Nat) (0 : Nat)), ((84 : Nat), AV.ptr (4 : Nat) (0 : Nat)), ((86 : Nat), AV.ptr (5 : Nat) (0 : Nat)), ((150 : Nat), AV.tag (6 : Nat)), ((151 : Nat), AV.tag (0 : Nat)), ((158 : Nat), AV.ptr (7 : Nat) (0 : Nat)), ((159 : Nat), AV.ptr (8 : Nat) (0 : Nat)), ((160 : Nat), AV.ptr (9 : Nat) (0 : Nat)), ((161 : Nat), AV.ptr (10 : Nat) (0 : Nat)), ((193 : Nat), AV.tag (11 : Nat)), ((194 : Nat), AV.tag (12 : Nat))]) [AObj.dead, AObj.own [AV.s (SV.int IntKind.i64 ck), AV.s (SV.int IntKind.i64 nx), AV.s (SV.ro (Con.typ cP ps)), AV.s (SV.ro (Con.typ cI is)), AV.s (SV.ro (Con.typ cC cs)), AV.s (SV.ro (Con.typ cW ws))] (27 : Nat), AObj.map (CK.int IntKind.i64) (mput m (iI x) ((mget m (iI x)).getD (CK.int IntKind.i64).d + (1 : Int))), AObj.own [AV.s (SV.int IntKind.i64 (iI x)), AV.s (SV.int IntKind.i64 (iU x)), AV.s (SV.int IntKind.u8 (iS x)), AV.s (SV.str (iP x)), AV.s (SV.int IntKind.i64 (iN x)), AV.s (SV.int IntKind.i64 (iF x)), AV.s (SV.int IntKind.u8 (iW x)), AV.s (SV.str (iC x))] (31 : Nat), AObj.own [AV.s (SV.int IntKind.i64 ck), AV.s (SV.int IntKind.i64 nx), AV.s (SV.ro (Con.typ cP ps)), AV.s (SV.ro (Con.typ cI is)), AV.s (SV.ro (Con.typ cC cs)), AV.s (SV.ro (Con.typ cW ws))] (27 : Nat), AObj.own [AV.tag (12 : Nat)] (125 : Nat), AObj.dead, AObj.own [AV.s (SV.int IntKind.u8 ev)] (5 : Nat), AObj.own [AV.s (SV.str key)] (9 : Nat), AObj.own [AV.s (SV.int IntKind.i64 (0 : Int)), AV.s (SV.int IntKind.i64 (0 : Int))] (57 : Nat), AObj.own [AV.s (SV.bool false)] (4 : Nat), AObj.dead, AObj.dead] (hr Tryd.f83 (8 : Nat)) (Stk.mk (some (83 : Nat)) false (0 : Nat) [inRange Tryd.f78 (some (78 : Nat)) (6 : Nat) (1 : Nat), inRange Tryd.f27 none (5 : Nat) (1 : Nat)] (0 : Nat))))))
              (Tree.at (Cfg.mk (sl (195 : Nat) [((0 : Nat), AV.tag (0 : Nat)), ((1 : Nat), AV.ptr (1 : Nat) (0 : Nat)), ((6 : Nat), AV.mapv (2 : Nat)), ((7 : Nat), AV.ptr (3 : Nat) (0 : Nat)), ((84 : Nat), AV.ptr (4 : Nat) (0 : Nat)), ((86 : Nat), AV.ptr (5 : Nat) (0 : Nat)), ((150 : Nat), AV.tag (6 : Nat)), ((151 : Nat), AV.tag (0 : Nat)), ((158 : Nat), AV.ptr (7 : Nat) (0 : Nat)), ((159 : Nat), AV.ptr (8 : Nat) (0 : Nat)), ((160 : Nat), AV.ptr (9 : Nat) (0 : Nat)), ((161 : Nat), AV.ptr (10 : Nat) (0 : Nat)), ((193 : Nat), AV.tag (11 : Nat)), ((194 : Nat), AV.tag (12 : Nat))]) [AObj.dead, AObj.own [AV.s (SV.int IntKind.i64 ck), AV.s (SV.int IntKind.i64 nx), AV.s (SV.ro (Con.typ cP ps)), AV.s (SV.ro (Con.typ cI is)), AV.s (SV.ro (Con.typ cC cs)), AV.s (SV.ro (Con.typ cW ws))] (27 : Nat), AObj.map (CK.int IntKind.i64) (mput m (iI x) ((mget m (iI x)).getD (CK.int IntKind.i64).d + (1 : Int))), AObj.own [AV.s (SV.int IntKind.i64 (iI x)), AV.s (SV.int IntKind.i64 (iU x)), AV.s (SV.int IntKind.u8 (iS x)), AV.s (SV.str (iP x)), AV.s (SV.int IntKind.i64 (iN x)), AV.s (SV.int IntKind.i64 (iF x)), AV.s (SV.int IntKind.u8 (iW x)), AV.s (SV.str (iC x))] (31 : Nat), AObj.own [AV.s (SV.int IntKind.i64 ck), AV.s (SV.int IntKind.i64 nx), AV.s (SV.ro (Con.typ cP ps)), AV.s (SV.ro (Con.typ cI is)), AV.s (SV.ro (Con.typ cC cs)), AV.s (SV.ro (Con.typ cW ws))] (27 : Nat), AObj.own [AV.tag (12 : Nat)] (125 : Nat), AObj.dead, AObj.own [AV.s (SV.int IntKind.u8 ev)] (5 : Nat), AObj.own [AV.s (SV.str key)] (9 : Nat), AObj.own [AV.s (SV.int IntKind.i64 (0 : Int)), AV.s (SV.int IntKind.i64 (0 : Int))] (57 : Nat), AObj.own [AV.s (SV.bool false)] (4 : Nat), AObj.dead, AObj.dead] (hr Tryd.f83 (8 : Nat)) (Stk.mk (some (83 : Nat)) false (0 : Nat) [inRange Tryd.f78 (some (78 : Nat)) (6 : Nat) (1 : Nat), inRange Tryd.f27 none (5 : Nat) (1 : Nat)] (0 : Nat)))))
            (Tree.at (Cfg.mk (sl (195 : Nat) [((0 : Nat), AV.tag (0 : Nat)), ((1 : Nat), AV.ptr (1 : Nat) (0 : Nat)), ((6 : Nat), AV.mapv (2 : Nat)), ((7 : Nat), AV.ptr (3 : Nat) (0 : Nat)), ((84 : Nat), AV.ptr (4 : Nat) (0 : Nat)), ((86 : Nat), AV.ptr (5 : Nat) (0 : Nat)), ((150 : Nat), AV.tag (6 : Nat)), ((151 : Nat), AV.tag (0 : Nat)), ((158 : Nat), AV.ptr (7 : Nat) (0 : Nat)), ((159 : Nat), AV.ptr (8 : Nat) (0 : Nat)), ((160 : Nat), AV.ptr (9 : Nat) (0 : Nat)), ((161 : Nat), AV.ptr (10 : Nat) (0 : Nat)), ((193 : Nat), AV.tag (11 : Nat)), ((194 : Nat), AV.tag (12 : Nat))]) [AObj.dead, AObj.own [AV.s (SV.int IntKind.i64 ck), AV.s (SV.int IntKind.i64 nx), AV.s (SV.ro (Con.typ cP ps)), AV.s (SV.ro (Con.typ cI is)), AV.s (SV.ro (Con.typ cC cs)), AV.s (SV.ro (Con.typ cW ws))] (27 : Nat), AObj.map (CK.int IntKind.i64) (mput m (iI x) ((mget m (iI x)).getD (CK.int IntKind.i64).d + (1 : Int))), AObj.own [AV.s (SV.int IntKind.i64 (iI x)), AV.s (SV.int IntKind.i64 (iU x)), AV.s (SV.int IntKind.u8 (iS x)), AV.s (SV.str (iP x)), AV.s (SV.int IntKind.i64 (iN x)), AV.s (SV.int IntKind.i64 (iF x)), AV.s (SV.int IntKind.u8 (iW x)), AV.s (SV.str (iC x))] (31 : Nat), AObj.own [AV.s (SV.int IntKind.i64 ck), AV.s (SV.int IntKind.i64 nx), AV.s (SV.ro (Con.typ cP ps)), AV.s (SV.ro (Con.typ cI is)), AV.s (SV.ro (Con.typ cC cs)), AV.s (SV.ro (Con.typ cW ws))] (27 : Nat), AObj.own [AV.tag (12 : Nat)] (125 : Nat), AObj.dead, AObj.own [AV.s (SV.int IntKind.u8 ev)] (5 : Nat), AObj.own [AV.s (SV.str key)] (9 : Nat), AObj.own [AV.s (SV.int IntKind.i64 (0 : Int)), AV.s (SV.int IntKind.i64 (0 : Int))] (57 : Nat), AObj.own [AV.s (SV.bool false)] (4 : Nat), AObj.dead, AObj.dead] (hr Tryd.f83 (8 : Nat)) (Stk.mk (some (83 : Nat)) false (0 : Nat) [inRange Tryd.f78 (some (78 : Nat)) (6 : Nat) (1 : Nat), inRange Tryd.f27 none (5 : Nat) (1 : Nat)] (0 : Nat)))))))
      (Tree.ret [AObj.dead, AObj.own [AV.s (SV.int IntKind.i64 ck), AV.s (SV.int IntKind.i64 nx), AV.s (SV.ro (Con.typ cP ps)), AV.s (SV.ro (Con.typ cI is)), AV.s (SV.ro (Con.typ cC cs)), AV.s (SV.ro (Con.typ cW ws))] (27 : Nat), AObj.map (CK.int IntKind.i64) m, AObj.own [AV.s (SV.int IntKind.i64 (iI x)), AV.s (SV.int IntKind.i64 (iU x)), AV.s (SV.int IntKind.u8 (iS x)), AV.s (SV.str (iP x)), AV.s (SV.int IntKind.i64 (iN x)), AV.s (SV.int IntKind.i64 (iF x)), AV.s (SV.int IntKind.u8 (iW x)), AV.s (SV.str (iC x))] (31 : Nat), AObj.own [AV.s (SV.int IntKind.i64 ck), AV.s (SV.int IntKind.i64 nx), AV.s (SV.ro (Con.typ cP ps)), AV.s (SV.ro (Con.typ cI is)), AV.s (SV.ro (Con.typ cC cs)), AV.s (SV.ro (Con.typ cW ws))] (27 : Nat), AObj.own [AV.tag (12 : Nat)] (125 : Nat), AObj.dead, AObj.own [AV.s (SV.int IntKind.u8 ev)] (5 : Nat), AObj.own [AV.s (SV.str key)] (9 : Nat), AObj.own [AV.s (SV.ilit IntKind.i64 (0 : Int)), AV.s (SV.ilit IntKind.i64 (0 : Int))] (57 : Nat), AObj.own [AV.s (SV.blit false)] (4 : Nat), AObj.dead, AObj.dead] (AV.tup [AV.agg [AV.s (SV.ilit IntKind.i64 (0 : Int)), AV.s (SV.ilit IntKind.i64 (0 : Int))], AV.s (SV.blit false)])))
    (Tree.ret [AObj.dead, AObj.own [AV.s (SV.int IntKind.i64 ck), AV.s (SV.int IntKind.i64 nx), AV.s (SV.ro (Con.typ cP ps)), AV.s (SV.ro (Con.typ cI is)), AV.s (SV.ro (Con.typ cC cs)), AV.s (SV.ro (Con.typ cW ws))] (27 : Nat), AObj.map (CK.int IntKind.i64) m, AObj.own [AV.s (SV.int IntKind.i64 (iI x)), AV.s (SV.int IntKind.i64 (iU x)), AV.s (SV.int IntKind.u8 (iS x)), AV.s (SV.str (iP x)), AV.s (SV.int IntKind.i64 (iN x)), AV.s (SV.int IntKind.i64 (iF x)), AV.s (SV.int IntKind.u8 (iW x)), AV.s (SV.str (iC x))] (31 : Nat), AObj.own [AV.s (SV.int IntKind.i64 ck), AV.s (SV.int IntKind.i64 nx), AV.s (SV.ro (Con.typ cP ps)), AV.s (SV.ro (Con.typ cI is)), AV.s (SV.ro (Con.typ cC cs)), AV.s (SV.ro (Con.typ cW ws))] (27 : Nat), AObj.own [AV.tag (12 : Nat)] (125 : Nat), AObj.dead, AObj.own [AV.s (SV.int IntKind.u8 ev)] (5 : Nat), AObj.own [AV.s (SV.str key)] (9 : Nat), AObj.own [AV.s (SV.ilit IntKind.i64 (0 : Int)), AV.s (SV.ilit IntKind.i64 (0 : Int))] (57 : Nat), AObj.own [AV.s (SV.blit false)] (4 : Nat), AObj.dead, AObj.dead] (AV.tup [AV.agg [AV.s (SV.ilit IntKind.i64 (0 : Int)), AV.s (SV.ilit IntKind.i64 (0 : Int))], AV.s (SV.blit false)])))
  (Tree.ret [AObj.dead, AObj.own [AV.s (SV.int IntKind.i64 ck), AV.s (SV.int IntKind.i64 nx), AV.s (SV.ro (Con.typ cP ps)), AV.s (SV.ro (Con.typ cI is)), AV.s (SV.ro (Con.typ cC cs)), AV.s (SV.ro (Con.typ cW ws))] (27 : Nat), AObj.map (CK.int IntKind.i64) m, AObj.own [AV.s (SV.int IntKind.i64 (iI x)), AV.s (SV.int IntKind.i64 (iU x)), AV.s (SV.int IntKind.u8 (iS x)), AV.s (SV.str (iP x)), AV.s (SV.int IntKind.i64 (iN x)), AV.s (SV.int IntKind.i64 (iF x)), AV.s (SV.int IntKind.u8 (iW x)), AV.s (SV.str (iC x))] (31 : Nat), AObj.own [AV.s (SV.int IntKind.i64 ck), AV.s (SV.int IntKind.i64 nx), AV.s (SV.ro (Con.typ cP ps)), AV.s (SV.ro (Con.typ cI is)), AV.s (SV.ro (Con.typ cC cs)), AV.s (SV.ro (Con.typ cW ws))] (27 : Nat), AObj.own [AV.tag (12 : Nat)] (125 : Nat), AObj.dead, AObj.own [AV.s (SV.int IntKind.u8 ev)] (5 : Nat), AObj.own [AV.s (SV.str key)] (9 : Nat), AObj.own [AV.s (SV.ilit IntKind.i64 (0 : Int)), AV.s (SV.ilit IntKind.i64 (0 : Int))] (57 : Nat), AObj.own [AV.s (SV.blit false)] (4 : Nat), AObj.dead, AObj.dead] (AV.tup [AV.agg [AV.s (SV.ilit IntKind.i64 (0 : Int)), AV.s (SV.ilit IntKind.i64 (0 : Int))], AV.s (SV.blit false)])) := by kernel_rfl
theorem loopRg (ck nx : Int) (ps : Ps) (is : Is) (cs : Cs) (ws : Ws) (ev : Int) (key : ByteArray) (x : CL cI) (m : Mp) : run P tabRf.sum Tryd.f27 nsRg (cRg ck nx ps is cs ws ev key x m) inRf =
  Tree.ite (hasI is (iU x))
  (Tree.ite (hasI is (iU x))
    (Tree.ite (gS is (iU x) == (2 : Int)) (Tree.at (Cfg.mk (sl (195 : Nat) [((0 : Nat), AV.tag (0 : Nat)), ((1 : Nat), AV.ptr (1 : Nat) (0 : Nat)), ((5 : Nat), AV.s (SV.bool (hasI is (gU is (iU x))))), ((6 : Nat), AV.mapv (2 : Nat)), ((7 : Nat), AV.ptr (3 : Nat) (0 : Nat)), ((8 : Nat), AV.s (SV.bool (gS is (iU x) != (2 : Int)))), ((84 : Nat), AV.ptr (4 : Nat) (0 : Nat)), ((86 : Nat), AV.ptr (5 : Nat) (0 : Nat)), ((150 : Nat), AV.tag (6 : Nat)), ((151 : Nat), AV.tag (0 : Nat)), ((158 : Nat), AV.ptr (7 : Nat) (0 : Nat)), ((159 : Nat), AV.ptr (8 : Nat) (0 : Nat)), ((160 : Nat), AV.ptr (9 : Nat) (0 : Nat)), ((161 : Nat), AV.ptr (10 : Nat) (0 : Nat)), ((193 : Nat), AV.tag (11 : Nat)), ((194 : Nat), AV.tag (12 : Nat))]) [AObj.dead, AObj.own [AV.s (SV.int IntKind.i64 ck), AV.s (SV.int IntKind.i64 nx), AV.s (SV.ro (Con.typ cP ps)), AV.s (SV.ro (Con.typ cI is)), AV.s (SV.ro (Con.typ cC cs)), AV.s (SV.ro (Con.typ cW ws))] (27 : Nat), AObj.map (CK.int IntKind.i64) m, AObj.own [AV.s (SV.int IntKind.i64 (gI is (gU is (iU x)))), AV.s (SV.int IntKind.i64 (gU is (gU is (iU x)))), AV.s (SV.int IntKind.u8 (gS is (gU is (iU x)))), AV.s (SV.str (gP is (gU is (iU x)))), AV.s (SV.int IntKind.i64 (gN is (gU is (iU x)))), AV.s (SV.int IntKind.i64 (gF is (gU is (iU x)))), AV.s (SV.int IntKind.u8 (gW is (gU is (iU x)))), AV.s (SV.str (gC is (gU is (iU x))))] (31 : Nat), AObj.own [AV.s (SV.int IntKind.i64 ck), AV.s (SV.int IntKind.i64 nx), AV.s (SV.ro (Con.typ cP ps)), AV.s (SV.ro (Con.typ cI is)), AV.s (SV.ro (Con.typ cC cs)), AV.s (SV.ro (Con.typ cW ws))] (27 : Nat), AObj.own [AV.tag (12 : Nat)] (125 : Nat), AObj.dead, AObj.own [AV.s (SV.int IntKind.u8 ev)] (5 : Nat), AObj.own [AV.s (SV.str key)] (9 : Nat), AObj.own [AV.s (SV.int IntKind.i64 (0 : Int)), AV.s (SV.int IntKind.i64 (0 : Int))] (57 : Nat), AObj.own [AV.s (SV.bool false)] (4 : Nat), AObj.dead, AObj.dead] (hd Tryd.f83 (5 : Nat)) (Stk.mk (some (83 : Nat)) false (0 : Nat) [inRange Tryd.f78 (some (78 : Nat)) (6 : Nat) (1 : Nat), inRange Tryd.f27 none (5 : Nat) (1 : Nat)] (0 : Nat)))) (Tree.at (Cfg.mk (sl (195 : Nat) [((0 : Nat), AV.tag (0 : Nat)), ((1 : Nat), AV.ptr (1 : Nat) (0 : Nat)), ((5 : Nat), AV.s (SV.bool (hasI is (iU x)))), ((6 : Nat), AV.mapv (2 : Nat)), ((7 : Nat), AV.ptr (3 : Nat) (0 : Nat)), ((8 : Nat), AV.s (SV.bool (gS is (iU x) != (2 : Int)))), ((84 : Nat), AV.ptr (4 : Nat) (0 : Nat)), ((86 : Nat), AV.ptr (5 : Nat) (0 : Nat)), ((150 : Nat), AV.tag (6 : Nat)), ((151 : Nat), AV.tag (0 : Nat)), ((158 : Nat), AV.ptr (7 : Nat) (0 : Nat)), ((159 : Nat), AV.ptr (8 : Nat) (0 : Nat)), ((160 : Nat), AV.ptr (9 : Nat) (0 : Nat)), ((161 : Nat), AV.ptr (10 : Nat) (0 : Nat)), ((193 : Nat), AV.tag (11 : Nat)), ((194 : Nat), AV.tag (12 : Nat))]) [AObj.dead, AObj.own [AV.s (SV.int IntKind.i64 ck), AV.s (SV.int IntKind.i64 nx), AV.s (SV.ro (Con.typ cP ps)), AV.s (SV.ro (Con.typ cI is)), AV.s (SV.ro (Con.typ cC cs)), AV.s (SV.ro (Con.typ cW ws))] (27 : Nat), AObj.map (CK.int IntKind.i64) m, AObj.own [AV.s (SV.int IntKind.i64 (gI is (iU x))), AV.s (SV.int IntKind.i64 (gU is (iU x))), AV.s (SV.int IntKind.u8 (gS is (iU x))), AV.s (SV.str (gP is (iU x))), AV.s (SV.int IntKind.i64 (gN is (iU x))), AV.s (SV.int IntKind.i64 (gF is (iU x))), AV.s (SV.int IntKind.u8 (gW is (iU x))), AV.s (SV.str (gC is (iU x)))] (31 : Nat), AObj.own [AV.s (SV.int IntKind.i64 ck), AV.s (SV.int IntKind.i64 nx), AV.s (SV.ro (Con.typ cP ps)), AV.s (SV.ro (Con.typ cI is)), AV.s (SV.ro (Con.typ cC cs)), AV.s (SV.ro (Con.typ cW ws))] (27 : Nat), AObj.own [AV.tag (12 : Nat)] (125 : Nat), AObj.dead, AObj.own [AV.s (SV.int IntKind.u8 ev)] (5 : Nat), AObj.own [AV.s (SV.str key)] (9 : Nat), AObj.own [AV.s (SV.int IntKind.i64 (0 : Int)), AV.s (SV.int IntKind.i64 (0 : Int))] (57 : Nat), AObj.own [AV.s (SV.bool false)] (4 : Nat), AObj.dead, AObj.dead] (hd Tryd.f83 (5 : Nat)) (Stk.mk (some (83 : Nat)) false (0 : Nat) [inRange Tryd.f78 (some (78 : Nat)) (6 : Nat) (1 : Nat), inRange Tryd.f27 none (5 : Nat) (1 : Nat)] (0 : Nat)))))
    (Tree.at (Cfg.mk (sl (195 : Nat) [((0 : Nat), AV.tag (0 : Nat)), ((1 : Nat), AV.ptr (1 : Nat) (0 : Nat)), ((5 : Nat), AV.s (SV.bool (hasI is (iU x)))), ((6 : Nat), AV.mapv (2 : Nat)), ((7 : Nat), AV.ptr (3 : Nat) (0 : Nat)), ((8 : Nat), AV.s (SV.bool (gS is (iU x) != (2 : Int)))), ((84 : Nat), AV.ptr (4 : Nat) (0 : Nat)), ((86 : Nat), AV.ptr (5 : Nat) (0 : Nat)), ((150 : Nat), AV.tag (6 : Nat)), ((151 : Nat), AV.tag (0 : Nat)), ((158 : Nat), AV.ptr (7 : Nat) (0 : Nat)), ((159 : Nat), AV.ptr (8 : Nat) (0 : Nat)), ((160 : Nat), AV.ptr (9 : Nat) (0 : Nat)), ((161 : Nat), AV.ptr (10 : Nat) (0 : Nat)), ((193 : Nat), AV.tag (11 : Nat)), ((194 : Nat), AV.tag (12 : Nat))]) [AObj.dead, AObj.own [AV.s (SV.int IntKind.i64 ck), AV.s (SV.int IntKind.i64 nx), AV.s (SV.ro (Con.typ cP ps)), AV.s (SV.ro (Con.typ cI is)), AV.s (SV.ro (Con.typ cC cs)), AV.s (SV.ro (Con.typ cW ws))] (27 : Nat), AObj.map (CK.int IntKind.i64) m, AObj.own [AV.s (SV.int IntKind.i64 (gI is (iU x))), AV.s (SV.int IntKind.i64 (gU is (iU x))), AV.s (SV.int IntKind.u8 (gS is (iU x))), AV.s (SV.str (gP is (iU x))), AV.s (SV.int IntKind.i64 (gN is (iU x))), AV.s (SV.int IntKind.i64 (gF is (iU x))), AV.s (SV.int IntKind.u8 (gW is (iU x))), AV.s (SV.str (gC is (iU x)))] (31 : Nat), AObj.own [AV.s (SV.int IntKind.i64 ck), AV.s (SV.int IntKind.i64 nx), AV.s (SV.ro (Con.typ cP ps)), AV.s (SV.ro (Con.typ cI is)), AV.s (SV.ro (Con.typ cC cs)), AV.s (SV.ro (Con.typ cW ws))] (27 : Nat), AObj.own [AV.tag (12 : Nat)] (125 : Nat), AObj.dead, AObj.own [AV.s (SV.int IntKind.u8 ev)] (5 : Nat), AObj.own [AV.s (SV.str key)] (9 : Nat), AObj.own [AV.s (SV.int IntKind.i64 (0 : Int)), AV.s (SV.int IntKind.i64 (0 : Int))] (57 : Nat), AObj.own [AV.s (SV.bool false)] (4 : Nat), AObj.dead, AObj.dead] (hd Tryd.f83 (5 : Nat)) (Stk.mk (some (83 : Nat)) false (0 : Nat) [inRange Tryd.f78 (some (78 : Nat)) (6 : Nat) (1 : Nat), inRange Tryd.f27 none (5 : Nat) (1 : Nat)] (0 : Nat)))))
  (Tree.ite (hasI is (iU x)) (Tree.ite (gS is (iU x) == (2 : Int)) (Tree.at (Cfg.mk (sl (195 : Nat) [((0 : Nat), AV.tag (0 : Nat)), ((1 : Nat), AV.ptr (1 : Nat) (0 : Nat)), ((5 : Nat), AV.s (SV.bool (hasI is (gU is (iU x))))), ((6 : Nat), AV.mapv (2 : Nat)), ((7 : Nat), AV.ptr (3 : Nat) (0 : Nat)), ((8 : Nat), AV.s (SV.bool false)), ((84 : Nat), AV.ptr (4 : Nat) (0 : Nat)), ((86 : Nat), AV.ptr (5 : Nat) (0 : Nat)), ((150 : Nat), AV.tag (6 : Nat)), ((151 : Nat), AV.tag (0 : Nat)), ((158 : Nat), AV.ptr (7 : Nat) (0 : Nat)), ((159 : Nat), AV.ptr (8 : Nat) (0 : Nat)), ((160 : Nat), AV.ptr (9 : Nat) (0 : Nat)), ((161 : Nat), AV.ptr (10 : Nat) (0 : Nat)), ((193 : Nat), AV.tag (11 : Nat)), ((194 : Nat), AV.tag (12 : Nat))]) [AObj.dead, AObj.own [AV.s (SV.int IntKind.i64 ck), AV.s (SV.int IntKind.i64 nx), AV.s (SV.ro (Con.typ cP ps)), AV.s (SV.ro (Con.typ cI is)), AV.s (SV.ro (Con.typ cC cs)), AV.s (SV.ro (Con.typ cW ws))] (27 : Nat), AObj.map (CK.int IntKind.i64) m, AObj.own [AV.s (SV.int IntKind.i64 (gI is (gU is (iU x)))), AV.s (SV.int IntKind.i64 (gU is (gU is (iU x)))), AV.s (SV.int IntKind.u8 (gS is (gU is (iU x)))), AV.s (SV.str (gP is (gU is (iU x)))), AV.s (SV.int IntKind.i64 (gN is (gU is (iU x)))), AV.s (SV.int IntKind.i64 (gF is (gU is (iU x)))), AV.s (SV.int IntKind.u8 (gW is (gU is (iU x)))), AV.s (SV.str (gC is (gU is (iU x))))] (31 : Nat), AObj.own [AV.s (SV.int IntKind.i64 ck), AV.s (SV.int IntKind.i64 nx), AV.s (SV.ro (Con.typ cP ps)), AV.s (SV.ro (Con.typ cI is)), AV.s (SV.ro (Con.typ cC cs)), AV.s (SV.ro (Con.typ cW ws))] (27 : Nat), AObj.own [AV.tag (12 : Nat)] (125 : Nat), AObj.dead, AObj.own [AV.s (SV.int IntKind.u8 ev)] (5 : Nat), AObj.own [AV.s (SV.str key)] (9 : Nat), AObj.own [AV.s (SV.int IntKind.i64 (0 : Int)), AV.s (SV.int IntKind.i64 (0 : Int))] (57 : Nat), AObj.own [AV.s (SV.bool false)] (4 : Nat), AObj.dead, AObj.dead] (hd Tryd.f83 (5 : Nat)) (Stk.mk (some (83 : Nat)) false (0 : Nat) [inRange Tryd.f78 (some (78 : Nat)) (6 : Nat) (1 : Nat), inRange Tryd.f27 none (5 : Nat) (1 : Nat)] (0 : Nat)))) (Tree.at (Cfg.mk (sl (195 : Nat) [((0 : Nat), AV.tag (0 : Nat)), ((1 : Nat), AV.ptr (1 : Nat) (0 : Nat)), ((5 : Nat), AV.s (SV.bool (hasI is (iU x)))), ((6 : Nat), AV.mapv (2 : Nat)), ((7 : Nat), AV.ptr (3 : Nat) (0 : Nat)), ((8 : Nat), AV.s (SV.bool false)), ((84 : Nat), AV.ptr (4 : Nat) (0 : Nat)), ((86 : Nat), AV.ptr (5 : Nat) (0 : Nat)), ((150 : Nat), AV.tag (6 : Nat)), ((151 : Nat), AV.tag (0 : Nat)), ((158 : Nat), AV.ptr (7 : Nat) (0 : Nat)), ((159 : Nat), AV.ptr (8 : Nat) (0 : Nat)), ((160 : Nat), AV.ptr (9 : Nat) (0 : Nat)), ((161 : Nat), AV.ptr (10 : Nat) (0 : Nat)), ((193 : Nat), AV.tag (11 : Nat)), ((194 : Nat), AV.tag (12 : Nat))]) [AObj.dead, AObj.own [AV.s (SV.int IntKind.i64 ck), AV.s (SV.int IntKind.i64 nx), AV.s (SV.ro (Con.typ cP ps)), AV.s (SV.ro (Con.typ cI is)), AV.s (SV.ro (Con.typ cC cs)), AV.s (SV.ro (Con.typ cW ws))] (27 : Nat), AObj.map (CK.int IntKind.i64) m, AObj.own [AV.s (SV.int IntKind.i64 (gI is (iU x))), AV.s (SV.int IntKind.i64 (gU is (iU x))), AV.s (SV.int IntKind.u8 (gS is (iU x))), AV.s (SV.str (gP is (iU x))), AV.s (SV.int IntKind.i64 (gN is (iU x))), AV.s (SV.int IntKind.i64 (gF is (iU x))), AV.s (SV.int IntKind.u8 (gW is (iU x))), AV.s (SV.str (gC is (iU x)))] (31 : Nat), AObj.own [AV.s (SV.int IntKind.i64 ck), AV.s (SV.int IntKind.i64 nx), AV.s (SV.ro (Con.typ cP ps)), AV.s (SV.ro (Con.typ cI is)), AV.s (SV.ro (Con.typ cC cs)), AV.s (SV.ro (Con.typ cW ws))] (27 : Nat), AObj.own [AV.tag (12 : Nat)] (125 : Nat), AObj.dead, AObj.own [AV.s (SV.int IntKind.u8 ev)] (5 : Nat), AObj.own [AV.s (SV.str key)] (9 : Nat), AObj.own [AV.s (SV.int IntKind.i64 (0 : Int)), AV.s (SV.int IntKind.i64 (0 : Int))] (57 : Nat), AObj.own [AV.s (SV.bool false)] (4 : Nat), AObj.dead, AObj.dead] (hd Tryd.f83 (5 : Nat)) (Stk.mk (some (83 : Nat)) false (0 : Nat) [inRange Tryd.f78 (some (78 : Nat)) (6 : Nat) (1 : Nat), inRange Tryd.f27 none (5 : Nat) (1 : Nat)] (0 : Nat)))))
    (Tree.at (Cfg.mk (sl (195 : Nat) [((0 : Nat), AV.tag (0 : Nat)), ((1 : Nat), AV.ptr (1 : Nat) (0 : Nat)), ((5 : Nat), AV.s (SV.bool (hasI is (iU x)))), ((6 : Nat), AV.mapv (2 : Nat)), ((7 : Nat), AV.ptr (3 : Nat) (0 : Nat)), ((8 : Nat), AV.s (SV.bool false)), ((84 : Nat), AV.ptr (4 : Nat) (0 : Nat)), ((86 : Nat), AV.ptr (5 : Nat) (0 : Nat)), ((150 : Nat), AV.tag (6 : Nat)), ((151 : Nat), AV.tag (0 : Nat)), ((158 : Nat), AV.ptr (7 : Nat) (0 : Nat)), ((159 : Nat), AV.ptr (8 : Nat) (0 : Nat)), ((160 : Nat), AV.ptr (9 : Nat) (0 : Nat)), ((161 : Nat), AV.ptr (10 : Nat) (0 : Nat)), ((193 : Nat), AV.tag (11 : Nat)), ((194 : Nat), AV.tag (12 : Nat))]) [AObj.dead, AObj.own [AV.s (SV.int IntKind.i64 ck), AV.s (SV.int IntKind.i64 nx), AV.s (SV.ro (Con.typ cP ps)), AV.s (SV.ro (Con.typ cI is)), AV.s (SV.ro (Con.typ cC cs)), AV.s (SV.ro (Con.typ cW ws))] (27 : Nat), AObj.map (CK.int IntKind.i64) m, AObj.own [AV.s (SV.int IntKind.i64 (gI is (iU x))), AV.s (SV.int IntKind.i64 (gU is (iU x))), AV.s (SV.int IntKind.u8 (gS is (iU x))), AV.s (SV.str (gP is (iU x))), AV.s (SV.int IntKind.i64 (gN is (iU x))), AV.s (SV.int IntKind.i64 (gF is (iU x))), AV.s (SV.int IntKind.u8 (gW is (iU x))), AV.s (SV.str (gC is (iU x)))] (31 : Nat), AObj.own [AV.s (SV.int IntKind.i64 ck), AV.s (SV.int IntKind.i64 nx), AV.s (SV.ro (Con.typ cP ps)), AV.s (SV.ro (Con.typ cI is)), AV.s (SV.ro (Con.typ cC cs)), AV.s (SV.ro (Con.typ cW ws))] (27 : Nat), AObj.own [AV.tag (12 : Nat)] (125 : Nat), AObj.dead, AObj.own [AV.s (SV.int IntKind.u8 ev)] (5 : Nat), AObj.own [AV.s (SV.str key)] (9 : Nat), AObj.own [AV.s (SV.int IntKind.i64 (0 : Int)), AV.s (SV.int IntKind.i64 (0 : Int))] (57 : Nat), AObj.own [AV.s (SV.bool false)] (4 : Nat), AObj.dead, AObj.dead] (hd Tryd.f83 (5 : Nat)) (Stk.mk (some (83 : Nat)) false (0 : Nat) [inRange Tryd.f78 (some (78 : Nat)) (6 : Nat) (1 : Nat), inRange Tryd.f27 none (5 : Nat) (1 : Nat)] (0 : Nat))))) := by kernel_rfl
end Ds

namespace Ds
open Go Go.Sx Go.Proofs Lf
def nxB (is : Is) (x : CL cI) : Bool := if (hasI is (iU x) && (gS is (iU x) == 2)) = true then hasI is (gU is (iU x)) else hasI is (iU x)
def nxO (is : Is) (x : CL cI) : Bool := hasI is (iU x) && (gS is (iU x) != 2)
def nxX (is : Is) (x : CL cI) : CL cI := if (hasI is (iU x) && (gS is (iU x) == 2)) = true then getT is (gU is (iU x)) else getT is (iU x)
/-- the scopes above, and whether one came from one of an Aside of it -/
def scL (is : Is) : Nat → Bool → Bool → CL cI → List Int → List (CL cI × Bool)
  | 0, _, _, _, _ => []
  | n + 1, b, own, x, seen => if b = true ∧ iS x = 1 ∧ iI x ∉ seen then (x, own) :: scL is n (nxB is x) (nxO is x) (nxX is x) (seen ++ [iI x]) else []
def scopesF (is : Is) (id : Int) : List (CL cI × Bool) :=
  if (hasI is id && (gS is id == 2)) = true then scL is (is.length + 1) (hasI is (gU is id)) false (getT is (gU is id)) [] else []
abbrev Pl3 : Type := CL cI × CL cP × List Int
def boP (ps : Ps) (is : Is) (id : Int) : Pl3 := (getT is id, getP ps (gP is id), boL ps (gP is id) (gN is id))
def asP (ps : Ps) (x : CL cI) : Pl3 := (x, getP ps (iP x), asL (pO (getP ps (iP x))) (iN x))
def plOf (ps : Ps) (is : Is) (e : CL cI × Bool) : List Pl3 :=
  (if e.2 = true then [] else [asP ps e.1]) ++ (if (hasI is (iU e.1) && (gS is (iU e.1) == 2)) = true then [boP ps is (iU e.1)] else [])
def placesF (ps : Ps) (is : Is) (id : Int) : List Pl3 :=
  if (hasI is id && (gS is id == 2)) = true then boP ps is id :: (scopesF is id).flatMap (plOf ps is) else []
def tryP (ev : Int) (key : ByteArray) (e : Pl3) : Option (Int × Int) :=
  if (chooseF (pO e.2.1) e.2.2 ev key).2 = true then some (iI e.1, (chooseF (pO e.2.1) e.2.2 ev key).1) else none
def findF (ps : Ps) (is : Is) (id ev : Int) (key : ByteArray) : Option (Int × Int) :=
  if ev = 4 ∨ ev = 5 then (placesF ps is id).findSome? (tryP ev key) else none
def hI (o : Option (Int × Int)) : Int := match o with | some x => x.1 | none => 0
def hN (o : Option (Int × Int)) : Int := match o with | some x => x.2 | none => 0
abbrev tHd : Ty := .st [.int .i64, .int .i64]
abbrev resT (o : Option (Int × Int)) : AL [tHd, tBool] := ((hI o, hN o, ()), o.isSome, ())
def okN (ps : Ps) : Prop := ∀ p ∈ ps, (pO p).length ≤ 1000000
theorem getP_len {ps : Ps} (h : okN ps) (name : ByteArray) : (pO (getP ps name)).length ≤ 1000000 := by
  cases hp : hasP ps name with
  | false => rw [no_proc hp]; exact Nat.zero_le _
  | true =>
    have h1 : 0 ≤ defP ps name := of_decide_eq_true hp
    refine h _ ?_
    show el ps (whereP ps name) ∈ ps
    unfold whereP
    rw [if_pos h1]
    rcases idxF_spec (p := pDf name) (l := ps) with ⟨e, _⟩ | ⟨i, e, h2, _⟩
    · exact absurd e (by unfold defP at h1; omega)
    · rw [show defP ps name = (i : Int) from e, el_lt h2]; exact List.getElem_mem h2
theorem has_item {is : Is} {id : Int} (h : hasI is id = true) : gI is id = id ∧ id ∈ is.map iI ∧ getI is id ∈ is := by
  have h0 : 0 ≤ placeF is id := of_decide_eq_true h
  rcases place_range is id with ⟨e, _⟩ | ⟨_, h1, h2, h3⟩
  · omega
  · have e : getI is id = is[(placeF is id).toNat] := by
      show el is (whereF is id) = _
      unfold whereF
      rw [if_pos h0]
      exact getD_lt h2
    refine ⟨by unfold gI; rw [e]; exact h3, ?_, by rw [e]; exact List.getElem_mem h2⟩
    rw [← h3]
    exact List.mem_map_of_mem (List.getElem_mem h2)
theorem scL_succ (is : Is) (n : Nat) (b own : Bool) (x : CL cI) (seen : List Int) : scL is (n + 1) b own x seen = if b = true ∧ iS x = 1 ∧ iI x ∉ seen then (x, own) :: scL is n (nxB is x) (nxO is x) (nxX is x) (seen ++ [iI x]) else [] := rfl
theorem fs_one {α β : Type} (f : α → Option β) (a : α) : [a].findSome? f = f a := by cases h : f a <;> simp [List.findSome?, h]
theorem fs_cons {α β : Type} (f : α → Option β) (a : α) (l : List α) : (a :: l).findSome? f = (f a).or (l.findSome? f) := by cases h : f a <;> simp [List.findSome?, h]
theorem tabRf_ok {Z : Glob} : tabRf.Ok P Z := Tab.Ok.cons find_ok.sum (Tab.Ok.cons bds_ok.sumR (Tab.Ok.cons asd_ok.sumR (Tab.Ok.cons choose_ok.sum Tab.Ok.nil)))
theorem rfind_ok {Z : Glob} : FnOk P Z 27 [tSt, tInt, tU8, tStr] [tHd, tBool] (fun ((_, _, ps, _, _, _, ()), _) => [okN ps]) (fun ((_, _, ps, is, _, _, ()), id, ev, key, ()) => resT (findF ps is id ev key)) := by
  refine fnOk_of_safe Tryd.func27 (by kernel_rfl) (by kernel_rfl) ?_
  rintro ⟨⟨(ck : Int), (nx : Int), (ps : Ps), (is : Is), (cs : Cs), (ws : Ws), ⟨⟩⟩, (id : Int), (ev : Int), (key : ByteArray), ⟨⟩⟩ _ ⟨hl, _⟩ X hX hz
  show Safe P 27 X (Ends [tHd, tBool] (resT (findF ps is id ev key))) _
  have loop : ∀ (n : Nat) (b own : Bool) (x : CL cI) (seen : List Int) (m : Mp) (R : Option (Int × Int)), Marks m seen → seen.Nodup → (∀ k ∈ seen, k ∈ is.map iI) → (b = true → iI x ∈ is.map iI) → is.length < n + seen.length →
      R = ((scL is n b own x seen).flatMap (plOf ps is)).findSome? (tryP ev key) → Safe P 27 X (Ends [tHd, tBool] (resT R)) (cRf ck nx ps is cs ws ev key b own x m) := by
    intro n
    induction n with
    | zero =>
      intro b own x seen m R _ hnd hsub _ hlt _
      have := nodup_len hnd hsub
      rw [List.length_map] at this
      omega
    | succ n ih =>
      intro b own x seen m R hm hnd hsub hb hlt hR
      have none_ : ¬ (b = true ∧ iS x = 1 ∧ iI x ∉ seen) → R = none := fun h => by
        rw [hR, scL_succ, if_neg h]; rfl
      refine go hz hX tabRf_ok Tryd.func27 (loopRf ck nx ps is cs ws ev key b own x m) ?_
      cases b with
      | false => rw [none_ (by simp)]; exact no_and rfl (ends_eq _ rfl (by kernel_rfl))
      | true =>
      refine yes_and rfl ?_
      by_cases h1 : iS x = 1
      rotate_left
      · rw [none_ (by simp [h1])]; exact no_and (beq_eq_false_iff_ne.2 h1) (ends_eq _ rfl (by kernel_rfl))
      refine yes_and (beq_iff_eq.2 h1) ?_
      have hc : (mget m (iI x)).getD (CK.int IntKind.i64).d = cnt m (iI x) := rfl
      rw [hc]
      by_cases h2 : iI x ∈ seen
      · have : cnt m (iI x) = 1 := by rw [hm, if_pos h2]
        rw [none_ (by simp [h2])]; exact no_and (by rw [this]; rfl) (ends_eq _ rfl (by kernel_rfl))
      have hc0 : cnt m (iI x) = 0 := by rw [hm, if_neg h2]
      refine yes_and (by rw [hc0]; rfl) ⟨by rw [hc0]; exact ⟨by omega, by omega⟩, ?_⟩
      have hm' : Marks (mput m (iI x) (cnt m (iI x) + 1)) (seen ++ [iI x]) := marks_put hm h2
      have hR' : R = ((plOf ps is (x, own)).findSome? (tryP ev key)).or (((scL is n (nxB is x) (nxO is x) (nxX is x) (seen ++ [iI x])).flatMap (plOf ps is)).findSome? (tryP ev key)) := by
        rw [hR, scL_succ, if_pos ⟨rfl, h1, h2⟩, List.flatMap_cons, List.findSome?_append]
      have mid : (plOf ps is (x, own)).findSome? (tryP ev key) = none → Safe P 27 X (Ends [tHd, tBool] (resT R)) (cRg ck nx ps is cs ws ev key x (mput m (iI x) (cnt m (iI x) + 1))) := fun hno => by
        rw [hno, Option.none_or] at hR'
        have next := fun b' own' x' => ih b' own' x' (seen ++ [iI x]) (mput m (iI x) (cnt m (iI x) + 1)) R hm' (by
            rw [List.nodup_append]
            exact ⟨hnd, by simp, fun a ha b hb' e => h2 (by simp at hb'; rw [← hb', ← e]; exact ha)⟩) (fun k hk => by
            rcases List.mem_append.1 hk with hk | hk
            · exact hsub k hk
            · simp at hk; rw [hk]; exact hb rfl)
        have hlen : is.length < n + (seen ++ [iI x]).length := by rw [List.length_append]; simp; omega
        refine go hz hX tabRf_ok Tryd.func27 (loopRg ck nx ps is cs ws ev key x (mput m (iI x) (cnt m (iI x) + 1))) ?_
        cases h3 : hasI is (iU x) with
        | false =>
          refine no_and rfl (no_and rfl ?_)
          have k := next false false (getT is (iU x)) (by simp) hlen
          have e1 : nxB is x = false := by unfold nxB; rw [h3]; rfl
          have e2 : nxO is x = false := by unfold nxO; rw [h3]; rfl
          have e3 : nxX is x = getT is (iU x) := by unfold nxX; rw [h3]; rfl
          rw [e1, e2, e3] at hR'
          exact k hR'
        | true =>
          refine yes_and rfl (yes_and rfl ?_)
          cases h4 : gS is (iU x) == 2 with
          | true =>
            refine yes_and rfl ?_
            have h5 : (gS is (iU x) != 2) = false := by simp only [bne, h4]; rfl
            rw [h5]
            have e1 : nxB is x = hasI is (gU is (iU x)) := by unfold nxB; rw [h3, h4]; rfl
            have e2 : nxO is x = false := by unfold nxO; rw [h3, h5]; rfl
            have e3 : nxX is x = getT is (gU is (iU x)) := by unfold nxX; rw [h3, h4]; rfl
            rw [e1, e2, e3] at hR'
            exact next (hasI is (gU is (iU x))) false (getT is (gU is (iU x))) (fun hh => by show gI is (gU is (iU x)) ∈ _; rw [(has_item hh).1]; exact (has_item hh).2.1) hlen hR'
          | false =>
            refine no_and rfl ?_
            have h5 : (gS is (iU x) != 2) = true := by simp only [bne, h4]; rfl
            rw [h5]
            have e1 : nxB is x = true := by unfold nxB; rw [h3, h4]; rfl
            have e2 : nxO is x = true := by unfold nxO; rw [h3, h5]; rfl
            have e3 : nxX is x = getT is (iU x) := by unfold nxX; rw [h3, h4]; rfl
            rw [e1, e2, e3] at hR'
            exact next true true (getT is (iU x)) (fun _ => by show gI is (iU x) ∈ _; rw [(has_item h3).1]; exact (has_item h3).2.1) hlen hR'
      have pl : ∀ {l : List Pl3}, (if own = true then [] else [asP ps x]).findSome? (tryP ev key) = none → (if (hasI is (iU x) && (gS is (iU x) == 2)) = true then [boP ps is (iU x)] else []) = l → (plOf ps is (x, own)).findSome? (tryP ev key) = l.findSome? (tryP ev key) := fun h h' => by
        unfold plOf
        rw [List.findSome?_append, h, Option.none_or, h']
      have tail : (if own = true then [] else [asP ps x]).findSome? (tryP ev key) = none → (hasI is (iU x) = false ∨ (gS is (iU x) == 2) = false) → Safe P 27 X (Ends [tHd, tBool] (resT R)) (cRg ck nx ps is cs ws ev key x (mput m (iI x) (cnt m (iI x) + 1))) := fun h h' => mid (by
        rw [pl (l := []) h (by rw [if_neg]; intro hh; rw [Bool.and_eq_true] at hh; rcases h' with h' | h' <;> simp_all)]; rfl)
      have tail2 : (if own = true then [] else [asP ps x]).findSome? (tryP ev key) = none → hasI is (iU x) = true → (gS is (iU x) == 2) = true → (chooseF (pO (getP ps (gP is (iU x)))) (boL ps (gP is (iU x)) (gN is (iU x))) ev key).2 = false → Safe P 27 X (Ends [tHd, tBool] (resT R)) (cRg ck nx ps is cs ws ev key x (mput m (iI x) (cnt m (iI x) + 1))) := fun h h3 h4 h5 => mid (by
        rw [pl (l := [boP ps is (iU x)]) h (by rw [if_pos (by rw [h3, h4]; rfl)])]
        rw [fs_one]
        unfold tryP boP
        rw [if_neg (by rw [h5]; simp)])
      have found : (if own = true then [] else [asP ps x]).findSome? (tryP ev key) = none → hasI is (iU x) = true → (gS is (iU x) == 2) = true → (chooseF (pO (getP ps (gP is (iU x)))) (boL ps (gP is (iU x)) (gN is (iU x))) ev key).2 = true → R = some (gI is (iU x), (chooseF (pO (getP ps (gP is (iU x)))) (boL ps (gP is (iU x)) (gN is (iU x))) ev key).1) := fun h h3 h4 h5 => by
        rw [hR', pl (l := [boP ps is (iU x)]) h (by rw [if_pos (by rw [h3, h4]; rfl)])]
        rw [fs_one]
        unfold tryP boP
        rw [if_pos h5]
        rfl
      cases own with
      | true =>
        refine no_and rfl ?_
        have h0 : (if true = true then [] else [asP ps x]).findSome? (tryP ev key) = none := rfl
        cases h3 : hasI is (iU x) with
        | false => exact no_and rfl (tail h0 (.inl h3))
        | true =>
          refine yes_and rfl ?_
          cases h4 : gS is (iU x) == 2 with
          | false => exact no_and rfl (tail h0 (.inr h4))
          | true =>
            refine yes_and rfl ⟨getP_len hl _, ?_⟩
            cases h5 : (chooseF (pO (getP ps (gP is (iU x)))) (boL ps (gP is (iU x)) (gN is (iU x))) ev key).2 with
            | false => exact no_and rfl (tail2 h0 h3 h4 h5)
            | true => rw [found h0 h3 h4 h5]; exact yes_and rfl (ends_eq _ rfl (by kernel_rfl))
      | false =>
        refine yes_and rfl ⟨getP_len hl _, ?_⟩
        cases h6 : (chooseF (pO (getP ps (iP x))) (asL (pO (getP ps (iP x))) (iN x)) ev key).2 with
        | true =>
          have e : R = some (iI x, (chooseF (pO (getP ps (iP x))) (asL (pO (getP ps (iP x))) (iN x)) ev key).1) := by
            rw [hR']
            unfold plOf
            rw [List.findSome?_append, if_neg (by simp), fs_one]
            unfold tryP asP
            rw [if_pos h6]
            rfl
          rw [e]; exact yes_and rfl (ends_eq _ rfl (by kernel_rfl))
        | false =>
          refine no_and rfl ?_
          have h0 : (if false = true then [] else [asP ps x]).findSome? (tryP ev key) = none := by
            rw [if_neg (by simp), fs_one]
            unfold tryP asP
            rw [if_neg (by rw [h6]; simp)]
          cases h3 : hasI is (iU x) with
          | false => exact no_and rfl (tail h0 (.inl h3))
          | true =>
            refine yes_and rfl ?_
            cases h4 : gS is (iU x) == 2 with
            | false => exact no_and rfl (tail h0 (.inr h4))
            | true =>
              refine yes_and rfl ⟨getP_len hl _, ?_⟩
              cases h5 : (chooseF (pO (getP ps (gP is (iU x)))) (boL ps (gP is (iU x)) (gN is (iU x))) ev key).2 with
              | false => exact no_and rfl (tail2 h0 h3 h4 h5)
              | true => rw [found h0 h3 h4 h5]; exact yes_and rfl (ends_eq _ rfl (by kernel_rfl))
  have e0 : ¬ (ev = 4 ∨ ev = 5) → findF ps is id ev key = none := fun h => by unfold findF; rw [if_neg h]
  have e1 : (hasI is id = false ∨ gS is id ≠ 2) → findF ps is id ev key = none := fun h => by
    unfold findF placesF
    have : ¬ ((hasI is id && (gS is id == 2)) = true) := fun hh => by
      rw [Bool.and_eq_true] at hh
      rcases h with h | h
      · rw [hh.1] at h; cases h
      · exact h (beq_iff_eq.1 hh.2)
    rw [if_neg this]
    split <;> rfl
  have e2 : (ev = 4 ∨ ev = 5) → hasI is id = true → gS is id = 2 → findF ps is id ev key = (tryP ev key (boP ps is id)).or (((scL is (is.length + 1) (hasI is (gU is id)) false (getT is (gU is id)) []).flatMap (plOf ps is)).findSome? (tryP ev key)) := fun h h2 h3 => by
    have h4 : (hasI is id && (gS is id == 2)) = true := by rw [h2, h3]; rfl
    unfold findF placesF scopesF
    rw [if_pos h, if_pos h4, if_pos h4]
    exact fs_cons _ _ _
  have start_ : (ev = 4 ∨ ev = 5) → hasI is id = true → gS is id = 2 → (chooseF (pO (getP ps (gP is id))) (boL ps (gP is id) (gN is id)) ev key).2 = false → Safe P 27 X (Ends [tHd, tBool] (resT (findF ps is id ev key))) (cRf ck nx ps is cs ws ev key (hasI is (gU is id)) false (getT is (gU is id)) []) := fun h h2 h3 h4 => by
    refine loop (is.length + 1) _ _ _ [] [] _ (fun k => by rfl) List.nodup_nil (by simp) (fun hh => by show gI is (gU is id) ∈ _; rw [(has_item hh).1]; exact (has_item hh).2.1) (by simp) ?_
    rw [e2 h h2 h3]
    unfold tryP boP
    rw [if_neg (by rw [h4]; simp)]
    rfl
  have fnd : (ev = 4 ∨ ev = 5) → hasI is id = true → gS is id = 2 → (chooseF (pO (getP ps (gP is id))) (boL ps (gP is id) (gN is id)) ev key).2 = true → findF ps is id ev key = some (gI is id, (chooseF (pO (getP ps (gP is id))) (boL ps (gP is id) (gN is id)) ev key).1) := fun h h2 h3 h4 => by
    rw [e2 h h2 h3]
    unfold tryP boP
    rw [if_pos h4]
    rfl
  refine go hz hX tabRf_ok Tryd.func27 (trRg ck nx ps is cs ws id ev key) ?_
  have hlen := getP_len hl (gP is id)
  repeat' (with_reducible (first | refine h_eq ?_ | refine h_need ?_ ?_ | refine h_dec (fun _ => ?_) (fun _ => ?_) | refine h_beq (fun _ => ?_) (fun _ => ?_) | refine h_bne (fun _ => ?_) (fun _ => ?_) | refine h_tt ?_ | refine h_ff ?_ | refine h_not ?_ | refine h_ite (fun _ => ?_) (fun _ => ?_) | refine h_both (fun _ => ?_) (fun _ => ?_) | refine h_ret ?_ | refine h_at ?_))
  all_goals first | exact hlen | skip
  all_goals first
    | exact start_ (by omega) (by assumption) (by assumption) (by assumption)
    | (rw [e0 (by omega)]; exact ends_eq _ rfl (by kernel_rfl))
    | (rw [e1 (.inl (by assumption))]; exact ends_eq _ rfl (by kernel_rfl))
    | (rw [e1 (.inr (by assumption))]; exact ends_eq _ rfl (by kernel_rfl))
    | (rw [fnd (by omega) (by assumption) (by assumption) (by assumption)]; exact ends_eq _ rfl (by kernel_rfl))
    | (exfalso; simp_all; done)
end Ds

namespace Ds
open Go Go.Sx Go.Proofs Lf
def nsL22 : List (Nat × Norm) := [(4, ⟨[], [1, 3], 0, []⟩)]
theorem trL22 (ck nx : Int) (ps : Ps) (is : Is) (cs : Cs) (ws : Ws) : run P tab0.sum Tryd.f25 nsL22 (start Tryd.f25 [avSt ck nx ps is cs ws] []) =
  Tree.ite (decide ((↑(List.length ps) : Int) > (15 : Int))) (Tree.ret [AObj.own [AV.s (SV.int IntKind.i64 ck), AV.s (SV.int IntKind.i64 nx), AV.s (SV.ro (Con.typ cP ps)), AV.s (SV.ro (Con.typ cI is)), AV.s (SV.ro (Con.typ cC cs)), AV.s (SV.ro (Con.typ cW ws))] (27 : Nat)] (AV.s (SV.blit true))) (Tree.ite (decide ((↑(List.length is) : Int) > (170 : Int))) (Tree.ret [AObj.own [AV.s (SV.int IntKind.i64 ck), AV.s (SV.int IntKind.i64 nx), AV.s (SV.ro (Con.typ cP ps)), AV.s (SV.ro (Con.typ cI is)), AV.s (SV.ro (Con.typ cC cs)), AV.s (SV.ro (Con.typ cW ws))] (27 : Nat)] (AV.s (SV.blit true))) (Tree.ite (decide ((↑(List.length cs) : Int) > (400 : Int))) (Tree.ret [AObj.own [AV.s (SV.int IntKind.i64 ck), AV.s (SV.int IntKind.i64 nx), AV.s (SV.ro (Con.typ cP ps)), AV.s (SV.ro (Con.typ cI is)), AV.s (SV.ro (Con.typ cC cs)), AV.s (SV.ro (Con.typ cW ws))] (27 : Nat)] (AV.s (SV.blit true))) (Tree.ite (decide ((↑(List.length ws) : Int) > (200 : Int))) (Tree.ret [AObj.own [AV.s (SV.int IntKind.i64 ck), AV.s (SV.int IntKind.i64 nx), AV.s (SV.ro (Con.typ cP ps)), AV.s (SV.ro (Con.typ cI is)), AV.s (SV.ro (Con.typ cC cs)), AV.s (SV.ro (Con.typ cW ws))] (27 : Nat)] (AV.s (SV.blit true))) (Tree.at (Cfg.mk (sl (61 : Nat) [((1 : Nat), AV.ptr (0 : Nat) (0 : Nat)), ((3 : Nat), AV.s (SV.int IntKind.i64 (0 : Int)))]) [AObj.own [AV.s (SV.int IntKind.i64 ck), AV.s (SV.int IntKind.i64 nx), AV.s (SV.ro (Con.typ cP ps)), AV.s (SV.ro (Con.typ cI is)), AV.s (SV.ro (Con.typ cC cs)), AV.s (SV.ro (Con.typ cW ws))] (27 : Nat)] (hd Tryd.f25 (4 : Nat)) (Stk.mk none false (0 : Nat) [] (0 : Nat))))))) := by kernel_rfl
noncomputable def cL22 (ck nx : Int) (ps : Ps) (is : Is) (cs : Cs) (ws : Ws) (i : Int) : Cfg := ⟨sl 61 [(1, .ptr 0 0), (3, avI i)], [obSt ck nx ps is cs ws], hd Tryd.f25 4, {}⟩
theorem loopL22 (ck nx : Int) (ps : Ps) (is : Is) (cs : Cs) (ws : Ws) (i : Int) : run P tab0.sum Tryd.f25 nsL22 (cL22 ck nx ps is cs ws i) =
  Tree.ite (decide (i < (↑(List.length ps) : Int))) (Tree.need ((0 : Int) ≤ i) (Tree.need (i < (↑(List.length ps) : Int)) (Tree.ite (decide ((↑(pO (el ps i)).length : Int) > (60 : Int))) (Tree.ret [AObj.own [AV.s (SV.int IntKind.i64 ck), AV.s (SV.int IntKind.i64 nx), AV.s (SV.ro (Con.typ cP ps)), AV.s (SV.ro (Con.typ cI is)), AV.s (SV.ro (Con.typ cC cs)), AV.s (SV.ro (Con.typ cW ws))] (27 : Nat)] (AV.s (SV.blit true))) (Tree.need ((0 : Int) ≤ i) (Tree.need (i < (↑(List.length ps) : Int)) (Tree.ite (decide ((↑(pF (el ps i)).length : Int) > (120 : Int))) (Tree.ret [AObj.own [AV.s (SV.int IntKind.i64 ck), AV.s (SV.int IntKind.i64 nx), AV.s (SV.ro (Con.typ cP ps)), AV.s (SV.ro (Con.typ cI is)), AV.s (SV.ro (Con.typ cC cs)), AV.s (SV.ro (Con.typ cW ws))] (27 : Nat)] (AV.s (SV.blit true))) (Tree.need ((0 : Int) ≤ i) (Tree.need (i < (↑(List.length ps) : Int)) (Tree.ite (decide ((↑(pV (el ps i)).length : Int) > (50 : Int))) (Tree.ret [AObj.own [AV.s (SV.int IntKind.i64 ck), AV.s (SV.int IntKind.i64 nx), AV.s (SV.ro (Con.typ cP ps)), AV.s (SV.ro (Con.typ cI is)), AV.s (SV.ro (Con.typ cC cs)), AV.s (SV.ro (Con.typ cW ws))] (27 : Nat)] (AV.s (SV.blit true))) (Tree.need (inI64 (i + (1 : Int))) (Tree.at (Cfg.mk (sl (61 : Nat) [((1 : Nat), AV.ptr (0 : Nat) (0 : Nat)), ((3 : Nat), AV.s (SV.int IntKind.i64 (i + (1 : Int))))]) [AObj.own [AV.s (SV.int IntKind.i64 ck), AV.s (SV.int IntKind.i64 nx), AV.s (SV.ro (Con.typ cP ps)), AV.s (SV.ro (Con.typ cI is)), AV.s (SV.ro (Con.typ cC cs)), AV.s (SV.ro (Con.typ cW ws))] (27 : Nat)] (hd Tryd.f25 (4 : Nat)) (Stk.mk none false (0 : Nat) [] (0 : Nat)))))))))))))) (Tree.ret [AObj.own [AV.s (SV.int IntKind.i64 ck), AV.s (SV.int IntKind.i64 nx), AV.s (SV.ro (Con.typ cP ps)), AV.s (SV.ro (Con.typ cI is)), AV.s (SV.ro (Con.typ cC cs)), AV.s (SV.ro (Con.typ cW ws))] (27 : Nat)] (AV.s (SV.blit false))) := by kernel_rfl
theorem trNe (key : ByteArray) : run P tab0.sum Tryd.f55 [] (start Tryd.f55 [.s (.str key)] []) =
  Tree.ite (!decide (key = ByteArray.empty))
  (Tree.ite (decide (key = ByteArray.mk #[(42 : UInt8)])) (Tree.need (((3 : Nat) + (2 : Nat)) * (152 : Nat) ≤ (140737488355328 : Nat)) (Tree.ret [AObj.own [AV.s (SV.ilit IntKind.i64 (0 : Int)), AV.s (SV.ilit IntKind.i64 (4 : Int)), AV.vec (5 : Nat), AV.vec (6 : Nat), AV.emp, AV.emp] (27 : Nat), AObj.dead, AObj.own [AV.s (SV.str (ByteArray.mk #[(112 : UInt8)])), AV.emp, AV.s (SV.ro (Con.typ cN ([(ByteArray.mk #[(97 : UInt8)], (11 : Int), (-1 : Int), (-1 : Int), (0 : Int), ByteArray.empty, ByteArray.empty, ByteArray.empty, false, [], [], ()), (ByteArray.mk #[(98 : UInt8)], (15 : Int), (-1 : Int), (0 : Int), (4 : Int), ByteArray.mk #[(107 : UInt8)], ByteArray.empty, ByteArray.empty, true, [], [], ()), (ByteArray.mk #[(99 : UInt8)], (3 : Int), (0 : Int), (-1 : Int), (0 : Int), ByteArray.empty, ByteArray.empty, ByteArray.empty, false, [], [], ())] ++ [(ByteArray.mk #[(100 : UInt8)], (13 : Int), (0 : Int), (-1 : Int), (0 : Int), ByteArray.empty, ByteArray.empty, ByteArray.empty, false, [], [], ()), (ByteArray.mk #[(101 : UInt8)], (1 : Int), (3 : Int), (-1 : Int), (4 : Int), ByteArray.empty, ByteArray.empty, ByteArray.empty, true, [], [], ())]))), AV.emp] (40 : Nat), AObj.vec (Con.typ cN [(ByteArray.mk #[(100 : UInt8)], (13 : Int), (0 : Int), (-1 : Int), (0 : Int), ByteArray.empty, ByteArray.empty, ByteArray.empty, false, [], [], ()), (ByteArray.mk #[(101 : UInt8)], (1 : Int), (3 : Int), (-1 : Int), (4 : Int), ByteArray.empty, ByteArray.empty, ByteArray.empty, true, [], [], ())]) (45 : Nat), AObj.dead, AObj.vec (Con.typ cP [(ByteArray.mk #[(112 : UInt8)], [], [(ByteArray.mk #[(97 : UInt8)], (11 : Int), (-1 : Int), (-1 : Int), (0 : Int), ByteArray.empty, ByteArray.empty, ByteArray.empty, false, [], [], ()), (ByteArray.mk #[(98 : UInt8)], (15 : Int), (-1 : Int), (0 : Int), (4 : Int), ByteArray.mk #[(107 : UInt8)], ByteArray.empty, ByteArray.empty, true, [], [], ()), (ByteArray.mk #[(99 : UInt8)], (3 : Int), (0 : Int), (-1 : Int), (0 : Int), ByteArray.empty, ByteArray.empty, ByteArray.empty, false, [], [], ())] ++ [(ByteArray.mk #[(100 : UInt8)], (13 : Int), (0 : Int), (-1 : Int), (0 : Int), ByteArray.empty, ByteArray.empty, ByteArray.empty, false, [], [], ()), (ByteArray.mk #[(101 : UInt8)], (1 : Int), (3 : Int), (-1 : Int), (4 : Int), ByteArray.empty, ByteArray.empty, ByteArray.empty, true, [], [], ())], [], ())]) (40 : Nat), AObj.vec (Con.typ cI [((1 : Int), (0 : Int), (1 : Int), ByteArray.mk #[(112 : UInt8)], (-1 : Int), (-1 : Int), (0 : Int), ByteArray.empty, ()), ((2 : Int), (1 : Int), (2 : Int), ByteArray.mk #[(112 : UInt8)], (0 : Int), (-1 : Int), (3 : Int), ByteArray.empty, ()), ((3 : Int), (2 : Int), (1 : Int), ByteArray.mk #[(112 : UInt8)], (0 : Int), (-1 : Int), (0 : Int), ByteArray.empty, ()), ((4 : Int), (3 : Int), (2 : Int), ByteArray.mk #[(112 : UInt8)], (2 : Int), (-1 : Int), (2 : Int), ByteArray.empty, ())]) (31 : Nat)] (AV.agg [AV.s (SV.ilit IntKind.i64 (0 : Int)), AV.s (SV.ilit IntKind.i64 (4 : Int)), AV.vec (5 : Nat), AV.vec (6 : Nat), AV.emp, AV.emp])))
    (Tree.need (((3 : Nat) + (2 : Nat)) * (152 : Nat) ≤ (140737488355328 : Nat)) (Tree.ret [AObj.own [AV.s (SV.ilit IntKind.i64 (0 : Int)), AV.s (SV.ilit IntKind.i64 (4 : Int)), AV.vec (5 : Nat), AV.vec (6 : Nat), AV.emp, AV.emp] (27 : Nat), AObj.dead, AObj.own [AV.s (SV.str (ByteArray.mk #[(112 : UInt8)])), AV.emp, AV.s (SV.ro (Con.typ cN ([(ByteArray.mk #[(97 : UInt8)], (11 : Int), (-1 : Int), (-1 : Int), (0 : Int), ByteArray.empty, ByteArray.empty, ByteArray.empty, false, [], [], ()), (ByteArray.mk #[(98 : UInt8)], (15 : Int), (-1 : Int), (0 : Int), (4 : Int), ByteArray.mk #[(107 : UInt8)], ByteArray.empty, ByteArray.empty, true, [], [], ()), (ByteArray.mk #[(99 : UInt8)], (3 : Int), (0 : Int), (-1 : Int), (0 : Int), ByteArray.empty, ByteArray.empty, ByteArray.empty, false, [], [], ())] ++ [(ByteArray.mk #[(100 : UInt8)], (13 : Int), (0 : Int), (-1 : Int), (0 : Int), ByteArray.empty, ByteArray.empty, ByteArray.empty, false, [], [], ()), (ByteArray.mk #[(101 : UInt8)], (1 : Int), (3 : Int), (-1 : Int), (4 : Int), key, ByteArray.empty, ByteArray.empty, true, [], [], ())]))), AV.emp] (40 : Nat), AObj.vec (Con.typ cN [(ByteArray.mk #[(100 : UInt8)], (13 : Int), (0 : Int), (-1 : Int), (0 : Int), ByteArray.empty, ByteArray.empty, ByteArray.empty, false, [], [], ()), (ByteArray.mk #[(101 : UInt8)], (1 : Int), (3 : Int), (-1 : Int), (4 : Int), key, ByteArray.empty, ByteArray.empty, true, [], [], ())]) (45 : Nat), AObj.dead, AObj.vec (Con.typ cP [(ByteArray.mk #[(112 : UInt8)], [], [(ByteArray.mk #[(97 : UInt8)], (11 : Int), (-1 : Int), (-1 : Int), (0 : Int), ByteArray.empty, ByteArray.empty, ByteArray.empty, false, [], [], ()), (ByteArray.mk #[(98 : UInt8)], (15 : Int), (-1 : Int), (0 : Int), (4 : Int), ByteArray.mk #[(107 : UInt8)], ByteArray.empty, ByteArray.empty, true, [], [], ()), (ByteArray.mk #[(99 : UInt8)], (3 : Int), (0 : Int), (-1 : Int), (0 : Int), ByteArray.empty, ByteArray.empty, ByteArray.empty, false, [], [], ())] ++ [(ByteArray.mk #[(100 : UInt8)], (13 : Int), (0 : Int), (-1 : Int), (0 : Int), ByteArray.empty, ByteArray.empty, ByteArray.empty, false, [], [], ()), (ByteArray.mk #[(101 : UInt8)], (1 : Int), (3 : Int), (-1 : Int), (4 : Int), key, ByteArray.empty, ByteArray.empty, true, [], [], ())], [], ())]) (40 : Nat), AObj.vec (Con.typ cI [((1 : Int), (0 : Int), (1 : Int), ByteArray.mk #[(112 : UInt8)], (-1 : Int), (-1 : Int), (0 : Int), ByteArray.empty, ()), ((2 : Int), (1 : Int), (2 : Int), ByteArray.mk #[(112 : UInt8)], (0 : Int), (-1 : Int), (3 : Int), ByteArray.empty, ()), ((3 : Int), (2 : Int), (1 : Int), ByteArray.mk #[(112 : UInt8)], (0 : Int), (-1 : Int), (0 : Int), ByteArray.empty, ()), ((4 : Int), (3 : Int), (2 : Int), ByteArray.mk #[(112 : UInt8)], (2 : Int), (-1 : Int), (2 : Int), ByteArray.empty, ())]) (31 : Nat)] (AV.agg [AV.s (SV.ilit IntKind.i64 (0 : Int)), AV.s (SV.ilit IntKind.i64 (4 : Int)), AV.vec (5 : Nat), AV.vec (6 : Nat), AV.emp, AV.emp]))))
  (Tree.ret [AObj.own [AV.s (SV.ilit IntKind.i64 (0 : Int)), AV.s (SV.ilit IntKind.i64 (4 : Int)), AV.vec (3 : Nat), AV.vec (4 : Nat), AV.emp, AV.emp] (27 : Nat), AObj.dead, AObj.own [AV.s (SV.str (ByteArray.mk #[(112 : UInt8)])), AV.emp, AV.s (SV.ro (Con.typ cN [(ByteArray.mk #[(97 : UInt8)], (11 : Int), (-1 : Int), (-1 : Int), (0 : Int), ByteArray.empty, ByteArray.empty, ByteArray.empty, false, [], [], ()), (ByteArray.mk #[(98 : UInt8)], (15 : Int), (-1 : Int), (0 : Int), (4 : Int), ByteArray.mk #[(107 : UInt8)], ByteArray.empty, ByteArray.empty, true, [], [], ()), (ByteArray.mk #[(99 : UInt8)], (3 : Int), (0 : Int), (-1 : Int), (0 : Int), ByteArray.empty, ByteArray.empty, ByteArray.empty, false, [], [], ())])), AV.emp] (40 : Nat), AObj.vec (Con.typ cP [(ByteArray.mk #[(112 : UInt8)], [], [(ByteArray.mk #[(97 : UInt8)], (11 : Int), (-1 : Int), (-1 : Int), (0 : Int), ByteArray.empty, ByteArray.empty, ByteArray.empty, false, [], [], ()), (ByteArray.mk #[(98 : UInt8)], (15 : Int), (-1 : Int), (0 : Int), (4 : Int), ByteArray.mk #[(107 : UInt8)], ByteArray.empty, ByteArray.empty, true, [], [], ()), (ByteArray.mk #[(99 : UInt8)], (3 : Int), (0 : Int), (-1 : Int), (0 : Int), ByteArray.empty, ByteArray.empty, ByteArray.empty, false, [], [], ())], [], ())]) (40 : Nat), AObj.vec (Con.typ cI [((1 : Int), (0 : Int), (1 : Int), ByteArray.mk #[(112 : UInt8)], (-1 : Int), (-1 : Int), (0 : Int), ByteArray.empty, ()), ((2 : Int), (1 : Int), (2 : Int), ByteArray.mk #[(112 : UInt8)], (0 : Int), (-1 : Int), (3 : Int), ByteArray.empty, ()), ((3 : Int), (2 : Int), (1 : Int), ByteArray.mk #[(112 : UInt8)], (0 : Int), (-1 : Int), (0 : Int), ByteArray.empty, ()), ((4 : Int), (3 : Int), (2 : Int), ByteArray.mk #[(112 : UInt8)], (2 : Int), (-1 : Int), (2 : Int), ByteArray.empty, ())]) (31 : Nat)] (AV.agg [AV.s (SV.ilit IntKind.i64 (0 : Int)), AV.s (SV.ilit IntKind.i64 (4 : Int)), AV.vec (3 : Nat), AV.vec (4 : Nat), AV.emp, AV.emp])) := by kernel_rfl
def large22 (ps : Ps) (is : Is) (cs : Cs) (ws : Ws) : Bool := decide (ps.length > 15 ∨ is.length > 170 ∨ cs.length > 400 ∨ ws.length > 200) || ps.any fun p => decide ((pO p).length > 60 ∨ (pF p).length > 120 ∨ (pV p).length > 50)
abbrev star : ByteArray := ByteArray.mk #[(42 : UInt8)]
abbrev tx1 (a : UInt8) : ByteArray := ByteArray.mk #[a]
def mkN (a : UInt8) (k i o e : Int) (y : ByteArray) (b : Bool) : CL cN := (tx1 a, k, i, o, e, y, ByteArray.empty, ByteArray.empty, b, ([] : List (CL cV)), ([] : List ByteArray), ())
def neNs (key : ByteArray) : List (CL cN) := [mkN 97 11 (-1) (-1) 0 ByteArray.empty false, mkN 98 15 (-1) 0 4 (tx1 107) true, mkN 99 3 0 (-1) 0 ByteArray.empty false] ++ (if key = ByteArray.empty then [] else [mkN 100 13 0 (-1) 0 ByteArray.empty false, mkN 101 1 3 (-1) 4 (if key = star then ByteArray.empty else key) true])
def nePs (key : ByteArray) : Ps := [(tx1 112, ([] : List (CL cV)), neNs key, ([] : List (CL cF)), ())]
def neI (a u s n w : Int) : CL cI := (a, u, s, tx1 112, n, (-1 : Int), w, ByteArray.empty, ())
def neIs : Is := [neI 1 0 1 (-1) 0, neI 2 1 2 0 3, neI 3 2 1 0 0, neI 4 3 2 2 2]
abbrev neS (key : ByteArray) : AL [tSr] := (((0 : Int), (4 : Int), nePs key, neIs, ([] : Cs), ([] : Ws), ()), ())
abbrev sumNe := sumR [tStr] [tSr] (fun _ => []) (fun (key, ()) => neS key)
abbrev sumRf := sumOf [tSt, tInt, tU8, tStr] [tHd, tBool] (fun ((_, _, ps, _, _, _, ()), _) => [okN ps]) (fun ((_, _, ps, is, _, _, ()), id, ev, key, ()) => resT (findF ps is id ev key))
def tabAw : Tab := [(55, sumNe), (27, sumRf)]
theorem trAw  : run P tabAw.sum Tryd.f26 [] (start Tryd.f26 [] []) =
  Tree.need (okN (nePs ByteArray.empty)) (Tree.need (okN (nePs ByteArray.empty)) (Tree.need (okN (nePs (ByteArray.mk #[(42 : UInt8)]))) (Tree.ite true (Tree.ite true (Tree.ite true (Tree.ite true (Tree.ret [AObj.own [AV.s (SV.int IntKind.i64 (2 : Int)), AV.s (SV.int IntKind.i64 (1 : Int))] (57 : Nat), AObj.own [AV.s (SV.int IntKind.i64 (0 : Int)), AV.s (SV.int IntKind.i64 (0 : Int))] (57 : Nat), AObj.own [AV.s (SV.int IntKind.i64 (3 : Int)), AV.s (SV.int IntKind.i64 (4 : Int))] (57 : Nat)] (AV.s (SV.bool true))) (Tree.ret [AObj.own [AV.s (SV.int IntKind.i64 (2 : Int)), AV.s (SV.int IntKind.i64 (1 : Int))] (57 : Nat), AObj.own [AV.s (SV.int IntKind.i64 (0 : Int)), AV.s (SV.int IntKind.i64 (0 : Int))] (57 : Nat), AObj.own [AV.s (SV.int IntKind.i64 (3 : Int)), AV.s (SV.int IntKind.i64 (4 : Int))] (57 : Nat)] (AV.s (SV.blit false)))) (Tree.ret [AObj.own [AV.s (SV.int IntKind.i64 (2 : Int)), AV.s (SV.int IntKind.i64 (1 : Int))] (57 : Nat), AObj.own [AV.s (SV.int IntKind.i64 (0 : Int)), AV.s (SV.int IntKind.i64 (0 : Int))] (57 : Nat), AObj.own [AV.s (SV.int IntKind.i64 (3 : Int)), AV.s (SV.int IntKind.i64 (4 : Int))] (57 : Nat)] (AV.s (SV.blit false)))) (Tree.ret [AObj.own [AV.s (SV.int IntKind.i64 (2 : Int)), AV.s (SV.int IntKind.i64 (1 : Int))] (57 : Nat), AObj.own [AV.s (SV.int IntKind.i64 (0 : Int)), AV.s (SV.int IntKind.i64 (0 : Int))] (57 : Nat), AObj.own [AV.s (SV.int IntKind.i64 (3 : Int)), AV.s (SV.int IntKind.i64 (4 : Int))] (57 : Nat)] (AV.s (SV.blit false)))) (Tree.ret [AObj.own [AV.s (SV.int IntKind.i64 (2 : Int)), AV.s (SV.int IntKind.i64 (1 : Int))] (57 : Nat), AObj.own [AV.s (SV.int IntKind.i64 (0 : Int)), AV.s (SV.int IntKind.i64 (0 : Int))] (57 : Nat), AObj.own [AV.s (SV.int IntKind.i64 (3 : Int)), AV.s (SV.int IntKind.i64 (4 : Int))] (57 : Nat)] (AV.s (SV.blit false)))))) := by kernel_rfl
theorem okN_of {ps : Ps} {is : Is} {cs : Cs} {ws : Ws} (h : large22 ps is cs ws = false) : okN ps ∧ ps.length ≤ 15 ∧ is.length ≤ 170 ∧ cs.length ≤ 400 ∧ ws.length ≤ 200 := by
  unfold large22 at h
  rw [Bool.or_eq_false_iff] at h
  obtain ⟨h1, h2⟩ := h
  have h1 := of_decide_eq_false h1
  refine ⟨fun p hp => ?_, by omega, by omega, by omega, by omega⟩
  rw [List.any_eq_false] at h2
  have h3 := h2 p hp
  rw [decide_eq_true_iff] at h3
  omega
theorem l22_ok {Z : Glob} : FnOk P Z 25 [tSt] [tBool] (fun _ => []) (fun ((_, _, ps, is, cs, ws, ()), ()) => (large22 ps is cs ws, ())) := by
  refine fnOk_of_safe Tryd.func25 (by kernel_rfl) (by kernel_rfl) ?_
  rintro ⟨⟨(ck : Int), (nx : Int), (ps : Ps), (is : Is), (cs : Cs), (ws : Ws), ⟨⟩⟩, ⟨⟩⟩ ⟨⟨_, _, (hl : ps.length ≤ maxLen), _⟩, _⟩ _ X hX hz
  have hl2 : ps.length ≤ 9223372036854775807 := by unfold maxLen at hl; omega
  show Safe P 25 X (Ends [tBool] (large22 ps is cs ws, ())) _
  have big : (ps.length > 15 ∨ is.length > 170 ∨ cs.length > 400 ∨ ws.length > 200) → large22 ps is cs ws = true := fun h => by unfold large22; rw [decide_eq_true h]; rfl
  have loop : ¬ (ps.length > 15 ∨ is.length > 170 ∨ cs.length > 400 ∨ ws.length > 200) → ∀ (j k : Nat), k + j = ps.length → (∀ i (hi : i < k) (h2 : i < ps.length), ¬ ((pO ps[i]).length > 60 ∨ (pF ps[i]).length > 120 ∨ (pV ps[i]).length > 50)) → Safe P 25 X (Ends [tBool] (large22 ps is cs ws, ())) (cL22 ck nx ps is cs ws (k : Int)) := by
    intro hno j
    induction j with
    | zero =>
      intro k hk hi
      have e : large22 ps is cs ws = false := by
        unfold large22
        rw [decide_eq_false hno, Bool.false_or, List.any_eq_false]
        intro p hp
        obtain ⟨i, h1, rfl⟩ := List.getElem_of_mem hp
        rw [decide_eq_true_iff]
        exact hi i (by omega) h1
      refine go hz hX Tab.Ok.nil Tryd.func25 (loopL22 ck nx ps is cs ws k) (no_and (decide_eq_false (by omega)) ?_)
      rw [e]; exact ends_eq _ rfl (by kernel_rfl)
    | succ j ih =>
      intro k hk hi
      have hlt : k < ps.length := by omega
      refine go hz hX Tab.Ok.nil Tryd.func25 (loopL22 ck nx ps is cs ws k) (yes_and (decide_eq_true (by omega)) ⟨by omega, by omega, ?_⟩)
      rw [el_lt hlt]
      have yes : ((pO ps[k]).length > 60 ∨ (pF ps[k]).length > 120 ∨ (pV ps[k]).length > 50) → large22 ps is cs ws = true := fun h => by
        unfold large22
        rw [show (ps.any fun p => decide ((pO p).length > 60 ∨ (pF p).length > 120 ∨ (pV p).length > 50)) = true from List.any_eq_true.2 ⟨_, List.getElem_mem hlt, decide_eq_true h⟩, Bool.or_true]
      refine ⟨fun h => ?_, fun h => ⟨by omega, by omega, fun h2 => ?_, fun h2 => ⟨by omega, by omega, fun h3 => ?_, fun h3 => ⟨⟨by omega, by omega⟩, ih (k + 1) (by omega) fun i h4 h5 => ?_⟩⟩⟩⟩
      · rw [yes (.inl (by have := of_decide_eq_true h; omega))]; exact ends_eq _ rfl (by kernel_rfl)
      · rw [yes (.inr (.inl (by have := of_decide_eq_true h2; omega)))]; exact ends_eq _ rfl (by kernel_rfl)
      · rw [yes (.inr (.inr (by have := of_decide_eq_true h3; omega)))]; exact ends_eq _ rfl (by kernel_rfl)
      · by_cases e : i = k
        · subst e
          have := of_decide_eq_false h
          have := of_decide_eq_false h2
          have := of_decide_eq_false h3
          omega
        · exact hi i (by omega) h5
  refine go hz hX Tab.Ok.nil Tryd.func25 (trL22 ck nx ps is cs ws) ⟨fun h => ?_, fun h => ⟨fun h2 => ?_, fun h2 => ⟨fun h3 => ?_, fun h3 => ⟨fun h4 => ?_, fun h4 => ?_⟩⟩⟩⟩
  · rw [big (by have := of_decide_eq_true h; omega)]; exact ends_eq _ rfl (by kernel_rfl)
  · rw [big (by have := of_decide_eq_true h2; omega)]; exact ends_eq _ rfl (by kernel_rfl)
  · rw [big (by have := of_decide_eq_true h3; omega)]; exact ends_eq _ rfl (by kernel_rfl)
  · rw [big (by have := of_decide_eq_true h4; omega)]; exact ends_eq _ rfl (by kernel_rfl)
  · exact loop (by have := of_decide_eq_false h; have := of_decide_eq_false h2; have := of_decide_eq_false h3; have := of_decide_eq_false h4; omega) ps.length 0 (by omega) fun i hi => absurd hi (Nat.not_lt_zero _)
theorem nested_ok {Z : Glob} : FnOk P Z 55 [tStr] [tSr] (fun _ => []) (fun (key, ()) => neS key) := by
  refine fnOk_of_safe Tryd.func55 (by kernel_rfl) (by kernel_rfl) ?_
  rintro ⟨(key : ByteArray), ⟨⟩⟩ _ _ X hX hz
  show Safe P 55 X (Ends [tSr] (neS key)) _
  refine go hz hX Tab.Ok.nil Tryd.func55 (trNe key) ⟨fun h => ⟨fun h2 => ⟨by decide, ?_⟩, fun h2 => ⟨by decide, ?_⟩⟩, fun h => ?_⟩
  · have h2 : key = star := of_decide_eq_true h2
    subst h2
    exact ends_eq _ rfl (by kernel_rfl)
  · have h : ¬ key = ByteArray.empty := by simpa using h
    have h2 : ¬ key = star := of_decide_eq_false h2
    have e : neNs key = [mkN 97 11 (-1) (-1) 0 ByteArray.empty false, mkN 98 15 (-1) 0 4 (tx1 107) true, mkN 99 3 0 (-1) 0 ByteArray.empty false] ++ [mkN 100 13 0 (-1) 0 ByteArray.empty false, mkN 101 1 3 (-1) 4 key true] := by unfold neNs; rw [if_neg h, if_neg h2]
    have e2 : nePs key = [(tx1 112, ([] : List (CL cV)), [mkN 97 11 (-1) (-1) 0 ByteArray.empty false, mkN 98 15 (-1) 0 4 (tx1 107) true, mkN 99 3 0 (-1) 0 ByteArray.empty false] ++ [mkN 100 13 0 (-1) 0 ByteArray.empty false, mkN 101 1 3 (-1) 4 key true], ([] : List (CL cF)), ())] := by unfold nePs; rw [e]; rfl
    rw [show neS key = (((0 : Int), (4 : Int), nePs key, neIs, ([] : Cs), ([] : Ws), ()), ()) from rfl, e2]
    exact ends_eq _ rfl (by kernel_rfl)
  · have h : key = ByteArray.empty := by simpa using h
    subst h
    exact ends_eq _ rfl (by kernel_rfl)
theorem tabAw_ok {Z : Glob} : tabAw.Ok P Z := Tab.Ok.cons nested_ok.sumR (Tab.Ok.cons rfind_ok.sum Tab.Ok.nil)
end Ds

namespace Ds
open Go Go.Sx Go.Proofs Lf
abbrev sumTt := sumOf [] [tBool] (fun _ => []) (fun _ => (true, ()))
theorem okN_ne (key : ByteArray) : okN (nePs key) := fun p hp => by
  have : p = (tx1 112, ([] : List (CL cV)), neNs key, ([] : List (CL cF)), ()) := List.mem_singleton.1 hp
  rw [this]
  show (neNs key).length ≤ 1000000
  unfold neNs
  rw [List.length_append]
  split <;> simp
theorem awake_ok {Z : Glob} : FnOk P Z 26 [] [tBool] (fun _ => []) (fun _ => (true, ())) := by
  refine fnOk_of_safe Tryd.func26 (by kernel_rfl) (by kernel_rfl) ?_
  rintro ⟨⟩ _ _ X hX hz
  exact go hz hX tabAw_ok Tryd.func26 trAw ⟨okN_ne _, okN_ne _, okN_ne _, yes_and rfl (yes_and rfl (yes_and rfl (yes_and rfl (ends_eq _ rfl (by kernel_rfl)))))⟩
end Ds

namespace Ds
open Go Go.Sx Go.Proofs Lf
/-! arena.Same, of equal states -/
end Ds

namespace Ds
open Go Go.Sx Go.Proofs Lf
end Ds

namespace Ds
open Go Go.Sx Go.Proofs Lf
end Ds

namespace Ds
open Go Go.Sx Go.Proofs Lf
/-! Depth -/
abbrev fU1 : FuncId := 64
abbrev inDp : List FuncId := [39, fU1]
def tabDp : Tab := [(35, sumPl)]
def nsDp : List (Nat × Norm) := [((fU1 + 1) * 100000 + 2, ⟨[], [0, 1, 2, 4, 5, 44, 56, 57], 0, []⟩)]
theorem trDp (ck nx : Int) (ps : Ps) (is : Is) (cs : Cs) (ws : Ws) (id : Int) : run P tabDp.sum Tryd.f15 nsDp (start Tryd.f15 [avSt ck nx ps is cs ws, avI id] []) inDp =
  Tree.at (Cfg.mk (sl (58 : Nat) [((0 : Nat), AV.tag (0 : Nat)), ((1 : Nat), AV.ptr (1 : Nat) (0 : Nat)), ((2 : Nat), AV.ptr (2 : Nat) (0 : Nat)), ((4 : Nat), AV.mapv (3 : Nat)), ((5 : Nat), AV.s (SV.int IntKind.i64 (placeF is id))), ((44 : Nat), AV.ptr (4 : Nat) (0 : Nat)), ((56 : Nat), AV.tag (5 : Nat)), ((57 : Nat), AV.tag (0 : Nat))]) [AObj.dead, AObj.own [AV.s (SV.int IntKind.i64 ck), AV.s (SV.int IntKind.i64 nx), AV.s (SV.ro (Con.typ cP ps)), AV.s (SV.ro (Con.typ cI is)), AV.s (SV.ro (Con.typ cC cs)), AV.s (SV.ro (Con.typ cW ws))] (27 : Nat), AObj.own [AV.s (SV.int IntKind.i64 id)] (3 : Nat), AObj.map (CK.int IntKind.i64) [], AObj.own [AV.s (SV.int IntKind.i64 (0 : Int))] (3 : Nat), AObj.dead] (hd Tryd.f64 (2 : Nat)) (Stk.mk (some (64 : Nat)) false (0 : Nat) [inRange Tryd.f15 none (4 : Nat) (1 : Nat)] (0 : Nat))) := by kernel_rfl
noncomputable def cDp (ck nx : Int) (ps : Ps) (is : Is) (cs : Cs) (ws : Ws) (id i n : Int) (m : Mp) : Cfg := ⟨sl 58 [(0, .tag 0), (1, .ptr 1 0), (2, .ptr 2 0), (4, .mapv 3), (5, avI i), (44, .ptr 4 0), (56, .tag 5), (57, .tag 0)], [.dead, obSt ck nx ps is cs ws, .own [avI id] 3, .map kM m, .own [avI n] 3, .dead], hd Tryd.f64 2, ⟨some fU1, false, 0, [inRange Tryd.f15 none 4 1], 0⟩⟩
theorem loopDp (ck nx : Int) (ps : Ps) (is : Is) (cs : Cs) (ws : Ws) (id i n : Int) (m : Mp) : run P tabDp.sum Tryd.f15 nsDp (cDp ck nx ps is cs ws id i n m) inDp =
  Tree.ite (decide (i ≥ (0 : Int))) (Tree.ite ((mget m id).getD (CK.int IntKind.i64).d == (0 : Int)) (Tree.need (inI64 ((mget m id).getD (CK.int IntKind.i64).d + (1 : Int))) (Tree.need ((0 : Int) ≤ i) (Tree.need (i < (↑(List.length is) : Int)) (Tree.ite (iS (el is i) == (1 : Int)) (Tree.need (inI64 (n + (1 : Int))) (Tree.need ((0 : Int) ≤ i) (Tree.need (i < (↑(List.length is) : Int)) (Tree.at (Cfg.mk (sl (58 : Nat) [((0 : Nat), AV.tag (0 : Nat)), ((1 : Nat), AV.ptr (1 : Nat) (0 : Nat)), ((2 : Nat), AV.ptr (2 : Nat) (0 : Nat)), ((4 : Nat), AV.mapv (3 : Nat)), ((5 : Nat), AV.s (SV.int IntKind.i64 (placeF is (iU (el is i))))), ((44 : Nat), AV.ptr (4 : Nat) (0 : Nat)), ((56 : Nat), AV.tag (5 : Nat)), ((57 : Nat), AV.tag (0 : Nat))]) [AObj.dead, AObj.own [AV.s (SV.int IntKind.i64 ck), AV.s (SV.int IntKind.i64 nx), AV.s (SV.ro (Con.typ cP ps)), AV.s (SV.ro (Con.typ cI is)), AV.s (SV.ro (Con.typ cC cs)), AV.s (SV.ro (Con.typ cW ws))] (27 : Nat), AObj.own [AV.s (SV.int IntKind.i64 (iU (el is i)))] (3 : Nat), AObj.map (CK.int IntKind.i64) (mput m id ((mget m id).getD (CK.int IntKind.i64).d + (1 : Int))), AObj.own [AV.s (SV.int IntKind.i64 (n + (1 : Int)))] (3 : Nat), AObj.dead] (hd Tryd.f64 (2 : Nat)) (Stk.mk (some (64 : Nat)) false (0 : Nat) [inRange Tryd.f15 none (4 : Nat) (1 : Nat)] (0 : Nat))))))) (Tree.need ((0 : Int) ≤ i) (Tree.need (i < (↑(List.length is) : Int)) (Tree.at (Cfg.mk (sl (58 : Nat) [((0 : Nat), AV.tag (0 : Nat)), ((1 : Nat), AV.ptr (1 : Nat) (0 : Nat)), ((2 : Nat), AV.ptr (2 : Nat) (0 : Nat)), ((4 : Nat), AV.mapv (3 : Nat)), ((5 : Nat), AV.s (SV.int IntKind.i64 (placeF is (iU (el is i))))), ((44 : Nat), AV.ptr (4 : Nat) (0 : Nat)), ((56 : Nat), AV.tag (5 : Nat)), ((57 : Nat), AV.tag (0 : Nat))]) [AObj.dead, AObj.own [AV.s (SV.int IntKind.i64 ck), AV.s (SV.int IntKind.i64 nx), AV.s (SV.ro (Con.typ cP ps)), AV.s (SV.ro (Con.typ cI is)), AV.s (SV.ro (Con.typ cC cs)), AV.s (SV.ro (Con.typ cW ws))] (27 : Nat), AObj.own [AV.s (SV.int IntKind.i64 (iU (el is i)))] (3 : Nat), AObj.map (CK.int IntKind.i64) (mput m id ((mget m id).getD (CK.int IntKind.i64).d + (1 : Int))), AObj.own [AV.s (SV.int IntKind.i64 n)] (3 : Nat), AObj.dead] (hd Tryd.f64 (2 : Nat)) (Stk.mk (some (64 : Nat)) false (0 : Nat) [inRange Tryd.f15 none (4 : Nat) (1 : Nat)] (0 : Nat)))))))))) (Tree.ret [AObj.dead, AObj.own [AV.s (SV.int IntKind.i64 ck), AV.s (SV.int IntKind.i64 nx), AV.s (SV.ro (Con.typ cP ps)), AV.s (SV.ro (Con.typ cI is)), AV.s (SV.ro (Con.typ cC cs)), AV.s (SV.ro (Con.typ cW ws))] (27 : Nat), AObj.own [AV.s (SV.int IntKind.i64 id)] (3 : Nat), AObj.map (CK.int IntKind.i64) m, AObj.own [AV.s (SV.int IntKind.i64 n)] (3 : Nat), AObj.dead] (AV.s (SV.int IntKind.i64 n)))) (Tree.ret [AObj.dead, AObj.own [AV.s (SV.int IntKind.i64 ck), AV.s (SV.int IntKind.i64 nx), AV.s (SV.ro (Con.typ cP ps)), AV.s (SV.ro (Con.typ cI is)), AV.s (SV.ro (Con.typ cC cs)), AV.s (SV.ro (Con.typ cW ws))] (27 : Nat), AObj.own [AV.s (SV.int IntKind.i64 id)] (3 : Nat), AObj.map (CK.int IntKind.i64) m, AObj.own [AV.s (SV.int IntKind.i64 n)] (3 : Nat), AObj.dead] (AV.s (SV.int IntKind.i64 n))) := by kernel_rfl
end Ds

namespace Ds
open Go Go.Sx Go.Proofs Lf
def depthGo (is : Is) : Nat → Int → List Int → Nat
  | 0, _, _ => 0
  | n + 1, id, seen => if hasI is id = true ∧ id ∉ seen then (if gS is id = 1 then 1 else 0) + depthGo is n (gU is id) (seen ++ [id]) else 0
def depthF (is : Is) (id : Int) : Int := (depthGo is (is.length + 1) id [] : Nat)
abbrev sumDp := sumOf [tSt, tInt] [tInt] (fun _ => []) (fun ((_, _, _, is, _, _, ()), id, ()) => (depthF is id, ()))
end Ds

namespace Ds
open Go Go.Sx Go.Proofs Lf
theorem el_has {is : Is} {id : Int} (h : hasI is id = true) : getI is id = el is (placeF is id) := by
  show el is (whereF is id) = _
  unfold whereF
  rw [if_pos (of_decide_eq_true h)]
theorem tabDp_ok {Z : Glob} : tabDp.Ok P Z := Tab.Ok.cons place_ok.sum Tab.Ok.nil
theorem depthGo_succ (is : Is) (n : Nat) (id : Int) (seen : List Int) : depthGo is (n + 1) id seen = if hasI is id = true ∧ id ∉ seen then (if gS is id = 1 then 1 else 0) + depthGo is n (gU is id) (seen ++ [id]) else 0 := rfl
theorem depth_ok {Z : Glob} : FnOk P Z 15 [tSt, tInt] [tInt] (fun _ => []) (fun ((_, _, _, is, _, _, ()), id, ()) => (depthF is id, ())) := by
  refine fnOk_of_safe Tryd.func15 (by kernel_rfl) (by kernel_rfl) ?_
  rintro ⟨⟨(ck : Int), (nx : Int), (ps : Ps), (is : Is), (cs : Cs), (ws : Ws), ⟨⟩⟩, (id : Int), ⟨⟩⟩ ⟨⟨_, _, _, (hl : is.length ≤ maxLen), _⟩, _⟩ _ X hX hz
  have hl2 : is.length ≤ 9223372036854775807 := by unfold maxLen at hl; omega
  show Safe P 15 X (Ends [tInt] (depthF is id, ())) _
  have loop : ∀ (k : Nat) (id : Int) (seen : List Int) (m : Mp) (n R : Int), Marks m seen → seen.Nodup → (∀ y ∈ seen, y ∈ is.map iI) → is.length < k + seen.length → 0 ≤ n → n ≤ seen.length → R = n + (depthGo is k id seen : Nat) →
      Safe P 15 X (Ends [tInt] (R, ())) (cDp ck nx ps is cs ws id (placeF is id) n m) := by
    intro k
    induction k with
    | zero =>
      intro id seen m n R _ hnd hsub hlt _ _ _
      have := nodup_len hnd hsub
      rw [List.length_map] at this
      omega
    | succ k ih =>
      intro id seen m n R hm hnd hsub hlt h0 hn hR
      have none_ : ¬ (hasI is id = true ∧ id ∉ seen) → R = n := fun h => by rw [hR, depthGo_succ, if_neg h]; simp
      refine go hz hX tabDp_ok Tryd.func15 (loopDp ck nx ps is cs ws id (placeF is id) n m) ?_
      cases hh : hasI is id with
      | false =>
        have h1 : ¬ 0 ≤ placeF is id := of_decide_eq_false hh
        rw [none_ (by rw [hh]; simp)]
        exact no_and (decide_eq_false (by omega)) (ends_eq _ rfl (by kernel_rfl))
      | true =>
      have h1 : 0 ≤ placeF is id := of_decide_eq_true hh
      refine yes_and (decide_eq_true (by omega)) ?_
      have hc : (mget m id).getD (CK.int IntKind.i64).d = cnt m id := rfl
      rw [hc]
      by_cases h2 : id ∈ seen
      · have : cnt m id = 1 := by rw [hm, if_pos h2]
        rw [none_ (by simp [h2])]; exact no_and (by rw [this]; rfl) (ends_eq _ rfl (by kernel_rfl))
      have hc0 : cnt m id = 0 := by rw [hm, if_neg h2]
      have hlen : placeF is id < (is.length : Int) := by
        rcases place_range is id with ⟨e, _⟩ | ⟨_, h, _⟩
        · omega
        · exact h
      have hnd' : (seen ++ [id]).Nodup := by
        rw [List.nodup_append]
        exact ⟨hnd, by simp, fun a ha b hb' e => h2 (by simp at hb'; rw [← hb', ← e]; exact ha)⟩
      have hsub' : ∀ y ∈ seen ++ [id], y ∈ is.map iI := fun y hy => by
        rcases List.mem_append.1 hy with hy | hy
        · exact hsub y hy
        · simp at hy; rw [hy]; exact (has_item hh).2.1
      have hle := nodup_len hnd' hsub'
      rw [List.length_map, List.length_append, List.length_singleton] at hle
      have e1 : gS is id = iS (el is (placeF is id)) := by unfold gS; rw [el_has hh]
      have e2 : gU is id = iU (el is (placeF is id)) := by unfold gU; rw [el_has hh]
      rw [depthGo_succ, if_pos ⟨hh, h2⟩, e1, e2] at hR
      have next := fun n' hn0 hn1 hR' => ih (iU (el is (placeF is id))) (seen ++ [id]) (mput m id (cnt m id + 1)) n' R (marks_put hm h2) hnd' hsub' (by rw [List.length_append, List.length_singleton]; omega) hn0 hn1 hR'
      refine yes_and (by rw [hc0]; rfl) ⟨by rw [hc0]; exact ⟨by omega, by omega⟩, h1, hlen, ?_⟩
      by_cases h3 : iS (el is (placeF is id)) = 1
      · rw [if_pos h3] at hR
        exact yes_and (beq_iff_eq.2 h3) ⟨⟨by omega, by omega⟩, h1, hlen, next (n + 1) (by omega) (by rw [List.length_append, List.length_singleton]; omega) (by omega)⟩
      · rw [if_neg h3] at hR
        exact no_and (beq_eq_false_iff_ne.2 h3) ⟨h1, hlen, next n h0 (by rw [List.length_append, List.length_singleton]; omega) (by omega)⟩
  refine go hz hX tabDp_ok Tryd.func15 (trDp ck nx ps is cs ws id) ?_
  exact loop (is.length + 1) id [] [] 0 _ (fun k => by rfl) List.nodup_nil (by simp) (by simp) (by omega) (by simp) (by unfold depthF; omega)
end Ds

namespace Ds
open Go Go.Sx Go.Proofs Lf
end Ds

namespace Ds
open Go Go.Sx Go.Proofs Lf
end Ds

namespace Ds
open Go Go.Sx Go.Proofs Lf
theorem get_at {is : Is} {id : Int} (h : hasI is id = true) : ∃ h2 : (placeF is id).toNat < is.length, getI is id = is[(placeF is id).toNat] ∧ iI is[(placeF is id).toNat] = id := by
  rcases place_range is id with ⟨e, _⟩ | ⟨_, h1, h2, h3⟩
  · have := of_decide_eq_true h; omega
  · refine ⟨h2, ?_, h3⟩
    rw [el_has h]
    exact getD_lt h2
theorem get_at' {is : Is} {id : Int} (h : hasI is id = true) : is[(placeF is id).toNat]? = some (getI is id) ∧ iI (getI is id) = id := by
  obtain ⟨h2, h3, h4⟩ := get_at h
  rw [h3]
  exact ⟨List.getElem?_eq_getElem h2, h4⟩
end Ds

/-! A package variable that is a map of rows of bytes, and stands: how it is loaded, and what is found in it. -/
namespace Go.Sx
open Go

/-- What the variable bears: the map, and what stands at a key, as the model has them. -/
structure MapVar (P : Program) (Z : Glob) (g : Nat) (t : TypeId) (row : Int → List Int) where
  m : Value
  at_ : Int → Value
  m1 : m.oneCell' = true
  at1 : ∀ n, (at_ n).oneCell' = true
  load : ∀ (o : Oper) (e : Operand → Value) (w : World), o.op = .load t (.global g) → e (.global g) = .pointer (some ⟨g, 0, none⟩) → Z.ok w → (execOp e o).run P w = .ok (.value m) w
  look : ∀ (w : World) (n : Int), Z.ok w → (Instr.lookup t m (.int .u8 n) false).run P w = .ok (at_ n) w
  row_ : ∀ (w : World) (n : Int), Z.ok w → DenS (fun _ => False) w (.ro (.ints .u8 (row n))) (at_ n)

section
variable {ρ ρ' : Nat → Value} {H H' H1 H2 : AHeap} {G O O' : Nat → Prop} {w w' w1 w2 : World} {P : Program} {X : Ctx} {K : List AObj → AV → Prop} {Z : Glob}

/-- Whether an operation is done, told by the slots. -/
def gOk (ops : Array Oper) (o : Oper) (tmps : List AV) : Bool :=
  match o.guard with
  | none => true
  | some (g, want) => match (ops[g]?).bind (·.dst) with
    | some d => (match tmps.getD d (.s .junk) with
      | .s (.blit b) => b == want
      | .s (.bool b) => b == want
      | _ => false)
    | none => false

theorem gOk_wanted {ops : Array Oper} {o : Oper} {s : St} {a : Act} (h : gOk ops o s.tmps = true) (hr : Rep X ρ s a w) : Region.wanted o (yielded ops a.tmps) = true := by
  unfold gOk at h
  split at h
  · rename_i hg; simp [Region.wanted, hg]
  · rename_i g want hg
    split at h
    · rename_i d hd
      split at h
      · rename_i b hb
        have := blit_get hr hb
        simp only [Region.wanted, hg, yielded, hd, Option.bind_some, this]
        simpa using h
      · rename_i b hb
        have hlt : d < s.tmps.length := by
          rcases Nat.lt_or_ge d s.tmps.length with h3 | h3
          · exact h3
          · rw [List.getD, List.getElem?_eq_none h3] at hb
            simp at hb
        have h2 := DenS_of_V (by simp) (hb ▸ hr.den d)
        have hlt2 : d < a.tmps.size := by rw [hr.size] at hlt; exact hlt
        have : a.tmps[d]? = some (.bool b) := by
          have h4 : a.tmps.getD d undef = a.tmps[d] := by simp [Array.getD, hlt2]
          rw [h4] at h2
          rw [Array.getElem?_eq_getElem hlt2]
          generalize a.tmps[d] = u at h2
          cases h2
          rfl
        simp only [Region.wanted, hg, yielded, hd, Option.bind_some, this]
        simpa using h
      · cases h
    · cases h

/-- One operation, by a rule of its own, also behind a guard. -/
theorem oneG_safe {f : FuncId} {fn : Func} {key i : Nat} {ops : Array Oper} {o : Oper} {k : List Item} (hat : opAt fn key i = some (ops, o, k)) (hnd : noDefer ops = true) {tmps : List AV} {L : List AObj} {stk : Stk} (hg : gOk ops o tmps = true)
    (hin : (stk.plain || slotsIn (Cfg.n ⟨tmps, L, [], stk⟩) ops) = true)
    (h : ∀ G E ρ a w, Rep (X.at G E) ρ ⟨tmps, L⟩ a w → Yields P o a.eval w (fun v w' => ∃ q ρ', Rep (X.at G E) ρ' (St.put ⟨tmps, L⟩ o.dst q) (a.put o.dst v) w' ∧
      Safe P f X K ⟨(St.put ⟨tmps, L⟩ o.dst q).tmps, (St.put ⟨tmps, L⟩ o.dst q).H, cal fn key (i + 1), stk⟩)) : Safe P f X K ⟨tmps, L, cal fn key i, stk⟩ := by
  obtain ⟨ho, hc⟩ : ops[i]? = some o ∧ ∀ j, cal fn key j = .inRegion ops (List.range' j (ops.size - j)) :: k := by
    unfold opAt at hat
    split at hat
    · rename_i n ops' d k' hh
      simp only [Option.map_eq_some_iff, Prod.mk.injEq] at hat
      obtain ⟨o', e1, rfl, rfl, rfl⟩ := hat
      exact ⟨e1, fun j => by unfold cal; rw [hh]⟩
    · cases hat
  intro G E ρ a w hG1 hG2 hr b t fs hw
  obtain ⟨rest, Ds, htop0, hplain, hwf⟩ := hw.top (c := ⟨tmps, L, [], stk⟩) hr.dp.len
  have htop : TopR (Cfg.n ⟨tmps, L, [], stk⟩) rest Ds a t := by
    have e : (⟨a.tmps.toList.toArray, []⟩ : Act) = a := by
      have := hr.defers
      cases a
      simp at this ⊢
      exact this
    rw [e] at htop0
    exact htop0
  have hin' : InTop (Cfg.n ⟨tmps, L, [], stk⟩) rest ops := or_in hin hplain (fun x => x)
  have hdst := (hin'.op ho).imp (fun x => x) (·.2.1)
  have hi : i < ops.size := (Array.getElem?_eq_some_iff.1 ho).1
  have hrange : List.range' i (ops.size - i) = i :: List.range' (i + 1) (ops.size - (i + 1)) := by
    rw [show ops.size - i = ops.size - (i + 1) + 1 from by omega, List.range'_succ]
  have hy' := (h G E ρ a w hr).congr (htop.same hin' ho).1
  have hwant : Region.wanted o (yielded ops t.tmps) = true := by rw [(htop.same hin' ho).2]; exact gOk_wanted hg hr
  show GoesM P f (Post X K) b t (cal fn key i) fs w
  rw [hc i, hrange]
  intro cs
  obtain ⟨v, w', ⟨q, ρ', hr', hs⟩, hst⟩ := op_step ho hwant (defer_ne hnd ho) hy' b k (fs ++ cs) (rest := List.range' (i + 1) (ops.size - (i + 1)))
  have hput := htop.put hdst v
  have := hs G E ρ' _ w' hG1 hG2 hr' b (t.put o.dst v) fs (hwf _ _ hput hr'.defers)
  rw [hc (i + 1)] at this
  obtain ⟨e, w2, fr, g1, g2, g3⟩ := this cs
  exact ⟨e, w2, fr, g1, Comes.of_steps hst g2, g3⟩

theorem put_none {s : St} {d : Option Tmp} {r : Nat → AV} : (s.put d ⟨[], [], [], r⟩).look = s.look := by
  funext id
  show (s.H ++ [])[id]? = s.H[id]?
  rw [List.append_nil]
def loadOf (g : Nat) (x : Array Oper × Oper × List Item) : Option (TypeId × Tmp) := match x.2.1.op, x.2.1.dst with
  | .load t (.global g'), some d => bif noDefer x.1 && g.beq g' then some (t, d) else none
  | _, _ => none
def lookOf (x : Array Oper × Oper × List Item) : Option (TypeId × Tmp × Tmp × Tmp) := match x.2.1.op, x.2.1.dst with
  | .lookup t (.tmp y) (.tmp z) false, some d => bif noDefer x.1 then some (t, y, z, d) else none
  | _, _ => none

/-- The variable is loaded. -/
theorem gload_safe {g : Nat} {t : TypeId} {row : Int → List Int} (KV : MapVar P Z g t row) (hz : ZCtx Z X) {f : FuncId} {fn : Func} {key i : Nat} {d : Tmp} (hat : (opAt fn key i).bind (loadOf g) = some (t, d)) {tmps : List AV} {L : List AObj} {stk : Stk}
    (hg : ((opAt fn key i).all fun y => gOk y.1 y.2.1 tmps) = true) (hin : (stk.plain || ((opAt fn key i).any fun y => slotsIn (Cfg.n ⟨tmps, L, [], stk⟩) y.1)) = true)
    (h : Safe P f X K ⟨tmps.set d (.s (.raw KV.m [])), L, cal fn key (i + 1), stk⟩) : Safe P f X K ⟨tmps, L, cal fn key i, stk⟩ := by
  obtain ⟨⟨ops, o, k⟩, h1, h2⟩ := Option.bind_eq_some_iff.1 hat
  rw [h1] at hin hg
  unfold loadOf at h2
  split at h2
  · rename_i t' g' d' e2 e3
    simp only [] at e2 e3
    rw [Bool.cond_eq_ite] at h2
    split at h2
    · rename_i hnd
      simp only [Bool.and_eq_true, Nat.beq_eq] at hnd
      obtain ⟨hnd, rfl⟩ := hnd
      simp only [Option.some.injEq, Prod.mk.injEq] at h2
      obtain ⟨rfl, rfl⟩ := h2
      refine oneG_safe h1 hnd (by simpa using hg) (by simpa using hin) fun G E ρ a w hr => ?_
      have hzw := (zed (hz.at G E) hr.frm hr.sat hr.from_).1
      unfold Yields
      rw [KV.load o a.eval w e2 rfl hzw]
      have hgood : Good ρ (St.look ⟨tmps, L⟩) (X.at G E).G w (St.put ⟨tmps, L⟩ o.dst ⟨[], [], [], fun _ => .s (.raw KV.m [])⟩).look (.s (.raw KV.m [])) KV.m w := by
        rw [put_none]; exact Good.val hr.sat (DenV_s (.raw _ _ KV.m1))
      obtain ⟨ρ', hr'⟩ := hr.good (q := ⟨[], [], [], fun _ => .s (.raw KV.m [])⟩) (.inl rfl) hgood
      refine ⟨_, ρ', hr', ?_⟩
      rw [e3]
      simpa [St.put, upList, setSlot] using h
    · cases h2
  · cases h2

/-- What stands at a key is looked up. -/
theorem glook_safe {g : Nat} {t : TypeId} {row : Int → List Int} (KV : MapVar P Z g t row) (hz : ZCtx Z X) {f : FuncId} {fn : Func} {key i : Nat} {y z d : Tmp} (hat : (opAt fn key i).bind lookOf = some (t, y, z, d)) {tmps : List AV} {L : List AObj} {stk : Stk}
    (hg : ((opAt fn key i).all fun y => gOk y.1 y.2.1 tmps) = true) (hin : (stk.plain || ((opAt fn key i).any fun y => slotsIn (Cfg.n ⟨tmps, L, [], stk⟩) y.1)) = true)
    (hy : tmps.getD y (.s .junk) = .s (.raw KV.m [])) {n : Int} (hn : tmps.getD z (.s .junk) = .s (.int .u8 n))
    (h : Safe P f X K ⟨tmps.set d (.s (.raw (KV.at_ n) (row n))), L, cal fn key (i + 1), stk⟩) : Safe P f X K ⟨tmps, L, cal fn key i, stk⟩ := by
  obtain ⟨⟨ops, o, k⟩, h1, h2⟩ := Option.bind_eq_some_iff.1 hat
  rw [h1] at hin hg
  unfold lookOf at h2
  split at h2
  · rename_i t' y' z' d' e2 e3
    simp only [] at e2 e3
    rw [Bool.cond_eq_ite] at h2
    split at h2
    · rename_i hnd
      simp only [Option.some.injEq, Prod.mk.injEq] at h2
      obtain ⟨rfl, rfl, rfl, rfl⟩ := h2
      refine oneG_safe h1 hnd (by simpa using hg) (by simpa using hin) fun G E ρ a w hr => ?_
      have hzw := (zed (hz.at G E) hr.frm hr.sat hr.from_).1
      have ey : a.eval (.tmp y') = KV.m := by
        have hd := hr.den y'
        rw [show (St.tmps ⟨tmps, L⟩).getD y' (.s .junk) = .s (.raw KV.m []) from hy] at hd
        have := DenS_of_V (by simp) hd
        show a.tmps.getD y' undef = _
        generalize a.tmps.getD y' undef = u at this
        cases this
        rfl
      have ez : a.eval (.tmp z') = .int .u8 n := by
        have hd := hr.den z'
        rw [show (St.tmps ⟨tmps, L⟩).getD z' (.s .junk) = .s (.int .u8 n) from hn] at hd
        have := DenS_of_V (by simp) hd
        show a.tmps.getD z' undef = _
        generalize a.tmps.getD z' undef = u at this
        cases this
        rfl
      refine yields_new (s := Instr.lookup t' (a.eval (.tmp y')) (a.eval (.tmp z')) false) ⟨KV.at_ n, w, by rw [ey, ez]; exact KV.look w n hzw, ?_⟩ (by simp only [execOp, e2])
      have hgood : Good ρ (St.look ⟨tmps, L⟩) (X.at G E).G w (St.put ⟨tmps, L⟩ o.dst ⟨[], [], [], fun _ => .s (.raw (KV.at_ n) (row n))⟩).look (.s (.raw (KV.at_ n) (row n))) (KV.at_ n) w := by rw [put_none]; exact Good.val hr.sat (DenV_s (.raw _ _ (KV.at1 n)))
      obtain ⟨ρ', hr'⟩ := hr.good (q := ⟨[], [], [], fun _ => .s (.raw (KV.at_ n) (row n))⟩) (.inl rfl) hgood
      refine ⟨_, ρ', hr', ?_⟩
      rw [e3]
      simpa [St.put, upList, setSlot] using h
    · cases h2
  · cases h2

/-- What is asked of such a row, of a function that answers a truth. -/
def sumKV (S : Value → List Int → Prop) (F : List Int → Int → Bool) : Nat → List AV → RM Res := fun _ args =>
  match args with
  | [.s (.raw v zs), .s (.int .u8 n)] => .ret ⟨[S v zs], [], [], fun _ => .s (.bool (F zs n))⟩
  | _ => .fail "a row that stands in a variable"

theorem Good.outer (hs : Sat ρ H G w) {ρ1 : Nat → Value} {H1 H2 : AHeap} (h1 : ∀ b, ¬ Own ρ1 H1 b) {r r2 : AV} {v : Value} (hg : Good ρ1 H1 (fun _ => False) w H2 r v w') (hr : ∀ (ρ : Nat → Value) (H : AHeap) (O : Nat → Prop), DenV ρ H O w' r2 v) : Good ρ H G w H r2 v w' := by
  obtain ⟨ρ', s', d', st', fr⟩ := hg
  have hheap : ∀ b, b < w.heap.size → w'.heap[b]? = w.heap[b]? := fun b hb => fr.heap b hb (h1 b)
  have st : Step ρ H (Hot ρ H G) w ρ H (Hot ρ H G) w' := ⟨fun _ _ _ => rfl, fun _ o h => ⟨o, h, fun c' e' e => ⟨c', e', e, rfl, rfl⟩⟩, fun _ h => .inl h, fun b hb _ => hheap b hb, st'.size⟩
  have hlow : ∀ id o, H id = some o → ∀ b, o.alive = true → blk (ρ id) = some b → w'.heap[b]? = w.heap[b]? := fun id o ho b hal hb => hheap b (own_lt hs ⟨id, o, ho, hal, hb⟩)
  exact ⟨ρ, ⟨fun id o ho => (hs.obj id o ho).step st (hlow id o ho), hs.inj, hs.apart, fun b hb => Nat.lt_of_lt_of_le (hs.low b hb) st'.size⟩, hr _ _ _, st, ⟨fr.os, fr.tape, fr.output, fun b hb _ => hheap b hb⟩⟩

theorem sumKV_ok {g : Nat} {t e : TypeId} {row : Int → List Int} (KV : MapVar P Z g t row) {f : FuncId} {F : List Int → Int → Bool} (h : FnOk P Z f [.b (.row (.ints .u8) e), .b (.int .u8)] [.b .bool] (fun _ => []) (fun (l, x, ()) => (F l x, ()))) :
    SOk1 P Z f (sumKV (fun v zs => ∃ n, v = KV.at_ n ∧ zs = row n) F) := by
  intro base args H q hq hn ρ G w vs hb hz hs hd
  unfold sumKV at hq
  split at hq
  · rename_i v zs x
    simp only [RM.eval, Option.some.injEq] at hq
    subst hq
    obtain ⟨⟨n, rfl, rfl⟩, _⟩ := hn
    obtain ⟨v1, r1, rfl, d1, hd⟩ := DenL_cons.1 hd
    obtain ⟨v2, r2, rfl, d2, hd⟩ := DenL_cons.1 hd
    obtain rfl := DenL_nil.1 hd
    have d1 := DenS_of_V (by simp) d1
    have d2 := DenS_of_V (by simp) d2
    cases d1
    cases d2
    have hot : ∀ b, Hot (fun _ => undef) (fun _ => none) (fun _ => False) b → False := fun b hb => by
      rcases hb with ⟨j, x, hx, _⟩ | hb
      · cases hx
      · exact hb
    have eqH : Hot (fun _ => undef) (fun _ => none) (fun _ => False) = (fun _ => False) := funext fun b => propext ⟨hot b, False.elim⟩
    have hd3 : DenL (fun _ => undef) (fun _ => none) (Hot (fun _ => undef) (fun _ => none) (fun _ => False)) w (AL.av [.b (.row (.ints .u8) e), .b (.int .u8)] (row n, x, ())) [KV.at_ n, .int .u8 x] :=
      DenL_cons.2 ⟨_, _, rfl, DenV_s (by rw [eqH]; exact KV.row_ w n hz.1), DenL_cons.2 ⟨_, _, rfl, DenV_s (.int _ _), DenL_nil.2 rfl⟩⟩
    refine (h (row n, x, ()) (AL.okL hd3) trivial (fun _ => False) w _ (fun b hb => hb.elim) hz.1 hd3).mono ?_
    rintro en w' ⟨v, rfl, hg⟩
    refine ⟨v, rfl, ?_⟩
    have hg2 := hg
    obtain ⟨ρ', s', d', _, _⟩ := hg2
    have d' := DenS_of_V (x := .bool (F (row n) x)) (by simp) d'
    cases d'
    rw [resH_nil]
    exact Good.outer hs (fun b hb => by obtain ⟨j, x, hx, _⟩ := hb; cases hx) hg (fun ρ H O => DenV_s (.bool _))
  · simp [RM.eval] at hq

/-- A truth that is known, told as a literal. -/
theorem slot_blit_safe {f : FuncId} {tmps : List AV} {L : List AObj} {todo : List Item} {stk : Stk} {t : Nat} {b : Bool} (ht : tmps.getD t (.s .junk) = .s (.bool b))
    (h : Safe P f X K ⟨tmps.set t (.s (.blit b)), L, todo, stk⟩) : Safe P f X K ⟨tmps, L, todo, stk⟩ := by
  intro G E ρ a w hG1 hG2 hr b t' fs hw
  exact h G E ρ a w hG1 hG2 (hr.refine (d := t) (x := .s (.bool _)) ht bool_refine) b t' fs hw
end
end Go.Sx

namespace Ds
open Go Go.Sx Go.Proofs Lf
def scnF (k : Int) : Bool := [(11 : Int), 12, 13].contains k
theorem trSc0 (x : Int) : run P tabAc.sum Tryd.f62 [] (start Tryd.f62 [avU x] []) =
  Tree.ret [AObj.vec (Con.ints IntKind.u8 [(11 : Int), (12 : Int), (13 : Int)]) (5 : Nat)] (AV.s (SV.bool ([(11 : Int), (12 : Int), (13 : Int)].contains x))) := by kernel_rfl
abbrev sumSc0 := sumOf [tU8] [tBool] (fun _ => []) (fun (k, ()) => (scnF k, ()))
def tabSc : Tab := [(61, sumNo), (15, sumDp), (62, sumSc0), (19, sumFi)]
def nsSc : List (Nat × Norm) := [(8, ⟨[], [2, 3, 5, 6], 0, [(2, 9, true, .typ cV [], eV), (2, 10, true, .strs [], 9)]⟩)]
theorem trSc (ck nx : Int) (ps : Ps) (is : Is) (cs : Cs) (ws : Ws) (x : CL cI) : run P tabSc.sum Tryd.f33 nsSc (start Tryd.f33 [avSt ck nx ps is cs ws, avIt x] []) =
  Tree.ite (iF x != (-1 : Int)) (Tree.ret [AObj.own [AV.s (SV.int IntKind.i64 ck), AV.s (SV.int IntKind.i64 nx), AV.s (SV.ro (Con.typ cP ps)), AV.s (SV.ro (Con.typ cI is)), AV.s (SV.ro (Con.typ cC cs)), AV.s (SV.ro (Con.typ cW ws))] (27 : Nat), AObj.own [AV.s (SV.int IntKind.i64 (iI x)), AV.s (SV.int IntKind.i64 (iU x)), AV.s (SV.int IntKind.u8 (iS x)), AV.s (SV.str (iP x)), AV.s (SV.int IntKind.i64 (iN x)), AV.s (SV.int IntKind.i64 (iF x)), AV.s (SV.int IntKind.u8 (iW x)), AV.s (SV.str (iC x))] (31 : Nat), AObj.own [AV.s (SV.str (nN (ndF ps (iP x) (iN x)))), AV.s (SV.int IntKind.u8 (nK (ndF ps (iP x) (iN x)))), AV.s (SV.int IntKind.i64 (nI (ndF ps (iP x) (iN x)))), AV.s (SV.int IntKind.i64 (nO (ndF ps (iP x) (iN x)))), AV.s (SV.int IntKind.u8 (nE (ndF ps (iP x) (iN x)))), AV.s (SV.str (nY (ndF ps (iP x) (iN x)))), AV.s (SV.str (nT (ndF ps (iP x) (iN x)))), AV.s (SV.str (nS (ndF ps (iP x) (iN x)))), AV.s (SV.bool (nB (ndF ps (iP x) (iN x)))), AV.s (SV.ro (Con.typ cV (nV (ndF ps (iP x) (iN x))))), AV.s (SV.ro (Con.strs (nZ (ndF ps (iP x) (iN x)))))] (45 : Nat)] (AV.s (SV.blit false)))
  (Tree.ite (iW x != (0 : Int)) (Tree.ret [AObj.own [AV.s (SV.int IntKind.i64 ck), AV.s (SV.int IntKind.i64 nx), AV.s (SV.ro (Con.typ cP ps)), AV.s (SV.ro (Con.typ cI is)), AV.s (SV.ro (Con.typ cC cs)), AV.s (SV.ro (Con.typ cW ws))] (27 : Nat), AObj.own [AV.s (SV.int IntKind.i64 (iI x)), AV.s (SV.int IntKind.i64 (iU x)), AV.s (SV.int IntKind.u8 (iS x)), AV.s (SV.str (iP x)), AV.s (SV.int IntKind.i64 (iN x)), AV.s (SV.int IntKind.i64 (iF x)), AV.s (SV.int IntKind.u8 (iW x)), AV.s (SV.str (iC x))] (31 : Nat), AObj.own [AV.s (SV.str (nN (ndF ps (iP x) (iN x)))), AV.s (SV.int IntKind.u8 (nK (ndF ps (iP x) (iN x)))), AV.s (SV.int IntKind.i64 (nI (ndF ps (iP x) (iN x)))), AV.s (SV.int IntKind.i64 (nO (ndF ps (iP x) (iN x)))), AV.s (SV.int IntKind.u8 (nE (ndF ps (iP x) (iN x)))), AV.s (SV.str (nY (ndF ps (iP x) (iN x)))), AV.s (SV.str (nT (ndF ps (iP x) (iN x)))), AV.s (SV.str (nS (ndF ps (iP x) (iN x)))), AV.s (SV.bool (nB (ndF ps (iP x) (iN x)))), AV.s (SV.ro (Con.typ cV (nV (ndF ps (iP x) (iN x))))), AV.s (SV.ro (Con.strs (nZ (ndF ps (iP x) (iN x)))))] (45 : Nat)] (AV.s (SV.blit false)))
    (Tree.ite (!decide (iC x = ByteArray.empty)) (Tree.ret [AObj.own [AV.s (SV.int IntKind.i64 ck), AV.s (SV.int IntKind.i64 nx), AV.s (SV.ro (Con.typ cP ps)), AV.s (SV.ro (Con.typ cI is)), AV.s (SV.ro (Con.typ cC cs)), AV.s (SV.ro (Con.typ cW ws))] (27 : Nat), AObj.own [AV.s (SV.int IntKind.i64 (iI x)), AV.s (SV.int IntKind.i64 (iU x)), AV.s (SV.int IntKind.u8 (iS x)), AV.s (SV.str (iP x)), AV.s (SV.int IntKind.i64 (iN x)), AV.s (SV.int IntKind.i64 (iF x)), AV.s (SV.int IntKind.u8 (iW x)), AV.s (SV.str (iC x))] (31 : Nat), AObj.own [AV.s (SV.str (nN (ndF ps (iP x) (iN x)))), AV.s (SV.int IntKind.u8 (nK (ndF ps (iP x) (iN x)))), AV.s (SV.int IntKind.i64 (nI (ndF ps (iP x) (iN x)))), AV.s (SV.int IntKind.i64 (nO (ndF ps (iP x) (iN x)))), AV.s (SV.int IntKind.u8 (nE (ndF ps (iP x) (iN x)))), AV.s (SV.str (nY (ndF ps (iP x) (iN x)))), AV.s (SV.str (nT (ndF ps (iP x) (iN x)))), AV.s (SV.str (nS (ndF ps (iP x) (iN x)))), AV.s (SV.bool (nB (ndF ps (iP x) (iN x)))), AV.s (SV.ro (Con.typ cV (nV (ndF ps (iP x) (iN x))))), AV.s (SV.ro (Con.strs (nZ (ndF ps (iP x) (iN x)))))] (45 : Nat)] (AV.s (SV.blit false)))
      (Tree.ite (decide (depthF is (iI x) > (12 : Int))) (Tree.ret [AObj.own [AV.s (SV.int IntKind.i64 ck), AV.s (SV.int IntKind.i64 nx), AV.s (SV.ro (Con.typ cP ps)), AV.s (SV.ro (Con.typ cI is)), AV.s (SV.ro (Con.typ cC cs)), AV.s (SV.ro (Con.typ cW ws))] (27 : Nat), AObj.own [AV.s (SV.int IntKind.i64 (iI x)), AV.s (SV.int IntKind.i64 (iU x)), AV.s (SV.int IntKind.u8 (iS x)), AV.s (SV.str (iP x)), AV.s (SV.int IntKind.i64 (iN x)), AV.s (SV.int IntKind.i64 (iF x)), AV.s (SV.int IntKind.u8 (iW x)), AV.s (SV.str (iC x))] (31 : Nat), AObj.own [AV.s (SV.str (nN (ndF ps (iP x) (iN x)))), AV.s (SV.int IntKind.u8 (nK (ndF ps (iP x) (iN x)))), AV.s (SV.int IntKind.i64 (nI (ndF ps (iP x) (iN x)))), AV.s (SV.int IntKind.i64 (nO (ndF ps (iP x) (iN x)))), AV.s (SV.int IntKind.u8 (nE (ndF ps (iP x) (iN x)))), AV.s (SV.str (nY (ndF ps (iP x) (iN x)))), AV.s (SV.str (nT (ndF ps (iP x) (iN x)))), AV.s (SV.str (nS (ndF ps (iP x) (iN x)))), AV.s (SV.bool (nB (ndF ps (iP x) (iN x)))), AV.s (SV.ro (Con.typ cV (nV (ndF ps (iP x) (iN x))))), AV.s (SV.ro (Con.strs (nZ (ndF ps (iP x) (iN x)))))] (45 : Nat)] (AV.s (SV.blit false)))
        (Tree.ite (iN x != (-1 : Int))
          (Tree.ite (!hasN ps (iP x) (iN x)) (Tree.ret [AObj.own [AV.s (SV.int IntKind.i64 ck), AV.s (SV.int IntKind.i64 nx), AV.s (SV.ro (Con.typ cP ps)), AV.s (SV.ro (Con.typ cI is)), AV.s (SV.ro (Con.typ cC cs)), AV.s (SV.ro (Con.typ cW ws))] (27 : Nat), AObj.own [AV.s (SV.int IntKind.i64 (iI x)), AV.s (SV.int IntKind.i64 (iU x)), AV.s (SV.int IntKind.u8 (iS x)), AV.s (SV.str (iP x)), AV.s (SV.int IntKind.i64 (iN x)), AV.s (SV.int IntKind.i64 (iF x)), AV.s (SV.int IntKind.u8 (iW x)), AV.s (SV.str (iC x))] (31 : Nat), AObj.own [AV.s (SV.str (nN (ndF ps (iP x) (iN x)))), AV.s (SV.int IntKind.u8 (nK (ndF ps (iP x) (iN x)))), AV.s (SV.int IntKind.i64 (nI (ndF ps (iP x) (iN x)))), AV.s (SV.int IntKind.i64 (nO (ndF ps (iP x) (iN x)))), AV.s (SV.int IntKind.u8 (nE (ndF ps (iP x) (iN x)))), AV.s (SV.str (nY (ndF ps (iP x) (iN x)))), AV.s (SV.str (nT (ndF ps (iP x) (iN x)))), AV.s (SV.str (nS (ndF ps (iP x) (iN x)))), AV.s (SV.bool (nB (ndF ps (iP x) (iN x)))), AV.s (SV.ro (Con.typ cV (nV (ndF ps (iP x) (iN x))))), AV.s (SV.ro (Con.strs (nZ (ndF ps (iP x) (iN x)))))] (45 : Nat)] (AV.s (SV.blit false)))
            (Tree.ite (!scnF (nK (ndF ps (iP x) (iN x)))) (Tree.ret [AObj.own [AV.s (SV.int IntKind.i64 ck), AV.s (SV.int IntKind.i64 nx), AV.s (SV.ro (Con.typ cP ps)), AV.s (SV.ro (Con.typ cI is)), AV.s (SV.ro (Con.typ cC cs)), AV.s (SV.ro (Con.typ cW ws))] (27 : Nat), AObj.own [AV.s (SV.int IntKind.i64 (iI x)), AV.s (SV.int IntKind.i64 (iU x)), AV.s (SV.int IntKind.u8 (iS x)), AV.s (SV.str (iP x)), AV.s (SV.int IntKind.i64 (iN x)), AV.s (SV.int IntKind.i64 (iF x)), AV.s (SV.int IntKind.u8 (iW x)), AV.s (SV.str (iC x))] (31 : Nat), AObj.own [AV.s (SV.str (nN (ndF ps (iP x) (iN x)))), AV.s (SV.int IntKind.u8 (nK (ndF ps (iP x) (iN x)))), AV.s (SV.int IntKind.i64 (nI (ndF ps (iP x) (iN x)))), AV.s (SV.int IntKind.i64 (nO (ndF ps (iP x) (iN x)))), AV.s (SV.int IntKind.u8 (nE (ndF ps (iP x) (iN x)))), AV.s (SV.str (nY (ndF ps (iP x) (iN x)))), AV.s (SV.str (nT (ndF ps (iP x) (iN x)))), AV.s (SV.str (nS (ndF ps (iP x) (iN x)))), AV.s (SV.bool (nB (ndF ps (iP x) (iN x)))), AV.s (SV.ro (Con.typ cV (nV (ndF ps (iP x) (iN x))))), AV.s (SV.ro (Con.strs (nZ (ndF ps (iP x) (iN x)))))] (45 : Nat)] (AV.s (SV.blit false))) (Tree.ite (iU x == (0 : Int)) (Tree.ret [AObj.own [AV.s (SV.int IntKind.i64 ck), AV.s (SV.int IntKind.i64 nx), AV.s (SV.ro (Con.typ cP ps)), AV.s (SV.ro (Con.typ cI is)), AV.s (SV.ro (Con.typ cC cs)), AV.s (SV.ro (Con.typ cW ws))] (27 : Nat), AObj.own [AV.s (SV.int IntKind.i64 (iI x)), AV.s (SV.int IntKind.i64 (iU x)), AV.s (SV.int IntKind.u8 (iS x)), AV.s (SV.str (iP x)), AV.s (SV.int IntKind.i64 (iN x)), AV.s (SV.int IntKind.i64 (iF x)), AV.s (SV.int IntKind.u8 (iW x)), AV.s (SV.str (iC x))] (31 : Nat), AObj.own [AV.s (SV.str (nN (ndF ps (iP x) (iN x)))), AV.s (SV.int IntKind.u8 (nK (ndF ps (iP x) (iN x)))), AV.s (SV.int IntKind.i64 (nI (ndF ps (iP x) (iN x)))), AV.s (SV.int IntKind.i64 (nO (ndF ps (iP x) (iN x)))), AV.s (SV.int IntKind.u8 (nE (ndF ps (iP x) (iN x)))), AV.s (SV.str (nY (ndF ps (iP x) (iN x)))), AV.s (SV.str (nT (ndF ps (iP x) (iN x)))), AV.s (SV.str (nS (ndF ps (iP x) (iN x)))), AV.s (SV.bool (nB (ndF ps (iP x) (iN x)))), AV.s (SV.ro (Con.typ cV (nV (ndF ps (iP x) (iN x))))), AV.s (SV.ro (Con.strs (nZ (ndF ps (iP x) (iN x)))))] (45 : Nat)] (AV.s (SV.bool (iN x == (-1 : Int))))) (Tree.at (Cfg.mk (sl (129 : Nat) [((2 : Nat), AV.ptr (0 : Nat) (0 : Nat)), ((3 : Nat), AV.ptr (1 : Nat) (0 : Nat)), ((5 : Nat), AV.ptr (2 : Nat) (0 : Nat)), ((6 : Nat), AV.s (SV.bool (hasN ps (iP x) (iN x))))]) [AObj.own [AV.s (SV.int IntKind.i64 ck), AV.s (SV.int IntKind.i64 nx), AV.s (SV.ro (Con.typ cP ps)), AV.s (SV.ro (Con.typ cI is)), AV.s (SV.ro (Con.typ cC cs)), AV.s (SV.ro (Con.typ cW ws))] (27 : Nat), AObj.own [AV.s (SV.int IntKind.i64 (iI x)), AV.s (SV.int IntKind.i64 (iU x)), AV.s (SV.int IntKind.u8 (iS x)), AV.s (SV.str (iP x)), AV.s (SV.int IntKind.i64 (iN x)), AV.s (SV.int IntKind.i64 (iF x)), AV.s (SV.int IntKind.u8 (iW x)), AV.s (SV.str (iC x))] (31 : Nat), AObj.own [AV.s (SV.str (nN (ndF ps (iP x) (iN x)))), AV.s (SV.int IntKind.u8 (nK (ndF ps (iP x) (iN x)))), AV.s (SV.int IntKind.i64 (nI (ndF ps (iP x) (iN x)))), AV.s (SV.int IntKind.i64 (nO (ndF ps (iP x) (iN x)))), AV.s (SV.int IntKind.u8 (nE (ndF ps (iP x) (iN x)))), AV.s (SV.str (nY (ndF ps (iP x) (iN x)))), AV.s (SV.str (nT (ndF ps (iP x) (iN x)))), AV.s (SV.str (nS (ndF ps (iP x) (iN x)))), AV.s (SV.bool (nB (ndF ps (iP x) (iN x)))), AV.s (SV.ro (Con.typ cV (nV (ndF ps (iP x) (iN x))))), AV.s (SV.ro (Con.strs (nZ (ndF ps (iP x) (iN x)))))] (45 : Nat)] (hr Tryd.f33 (8 : Nat)) (Stk.mk none false (0 : Nat) [] (0 : Nat)))))))
          (Tree.ite (iU x == (0 : Int)) (Tree.ret [AObj.own [AV.s (SV.int IntKind.i64 ck), AV.s (SV.int IntKind.i64 nx), AV.s (SV.ro (Con.typ cP ps)), AV.s (SV.ro (Con.typ cI is)), AV.s (SV.ro (Con.typ cC cs)), AV.s (SV.ro (Con.typ cW ws))] (27 : Nat), AObj.own [AV.s (SV.int IntKind.i64 (iI x)), AV.s (SV.int IntKind.i64 (iU x)), AV.s (SV.int IntKind.u8 (iS x)), AV.s (SV.str (iP x)), AV.s (SV.int IntKind.i64 (iN x)), AV.s (SV.int IntKind.i64 (iF x)), AV.s (SV.int IntKind.u8 (iW x)), AV.s (SV.str (iC x))] (31 : Nat), AObj.own [AV.s (SV.str (nN (ndF ps (iP x) (iN x)))), AV.s (SV.int IntKind.u8 (nK (ndF ps (iP x) (iN x)))), AV.s (SV.int IntKind.i64 (nI (ndF ps (iP x) (iN x)))), AV.s (SV.int IntKind.i64 (nO (ndF ps (iP x) (iN x)))), AV.s (SV.int IntKind.u8 (nE (ndF ps (iP x) (iN x)))), AV.s (SV.str (nY (ndF ps (iP x) (iN x)))), AV.s (SV.str (nT (ndF ps (iP x) (iN x)))), AV.s (SV.str (nS (ndF ps (iP x) (iN x)))), AV.s (SV.bool (nB (ndF ps (iP x) (iN x)))), AV.s (SV.ro (Con.typ cV (nV (ndF ps (iP x) (iN x))))), AV.s (SV.ro (Con.strs (nZ (ndF ps (iP x) (iN x)))))] (45 : Nat)] (AV.s (SV.bool (iN x == (-1 : Int))))) (Tree.at (Cfg.mk (sl (129 : Nat) [((2 : Nat), AV.ptr (0 : Nat) (0 : Nat)), ((3 : Nat), AV.ptr (1 : Nat) (0 : Nat)), ((5 : Nat), AV.ptr (2 : Nat) (0 : Nat)), ((6 : Nat), AV.s (SV.bool (hasN ps (iP x) (iN x))))]) [AObj.own [AV.s (SV.int IntKind.i64 ck), AV.s (SV.int IntKind.i64 nx), AV.s (SV.ro (Con.typ cP ps)), AV.s (SV.ro (Con.typ cI is)), AV.s (SV.ro (Con.typ cC cs)), AV.s (SV.ro (Con.typ cW ws))] (27 : Nat), AObj.own [AV.s (SV.int IntKind.i64 (iI x)), AV.s (SV.int IntKind.i64 (iU x)), AV.s (SV.int IntKind.u8 (iS x)), AV.s (SV.str (iP x)), AV.s (SV.int IntKind.i64 (iN x)), AV.s (SV.int IntKind.i64 (iF x)), AV.s (SV.int IntKind.u8 (iW x)), AV.s (SV.str (iC x))] (31 : Nat), AObj.own [AV.s (SV.str (nN (ndF ps (iP x) (iN x)))), AV.s (SV.int IntKind.u8 (nK (ndF ps (iP x) (iN x)))), AV.s (SV.int IntKind.i64 (nI (ndF ps (iP x) (iN x)))), AV.s (SV.int IntKind.i64 (nO (ndF ps (iP x) (iN x)))), AV.s (SV.int IntKind.u8 (nE (ndF ps (iP x) (iN x)))), AV.s (SV.str (nY (ndF ps (iP x) (iN x)))), AV.s (SV.str (nT (ndF ps (iP x) (iN x)))), AV.s (SV.str (nS (ndF ps (iP x) (iN x)))), AV.s (SV.bool (nB (ndF ps (iP x) (iN x)))), AV.s (SV.ro (Con.typ cV (nV (ndF ps (iP x) (iN x))))), AV.s (SV.ro (Con.strs (nZ (ndF ps (iP x) (iN x)))))] (45 : Nat)] (hr Tryd.f33 (8 : Nat)) (Stk.mk none false (0 : Nat) [] (0 : Nat))))))))) := by kernel_rfl
noncomputable def cSc (ck nx : Int) (ps : Ps) (is : Is) (cs : Cs) (ws : Ws) (x : CL cI) (n : CL cN) (b : Bool) : Cfg := ⟨sl 129 [(2, .ptr 0 0), (3, .ptr 1 0), (5, .ptr 2 0), (6, .s (.bool b))], [obSt ck nx ps is cs ws, obIt x, obNo n], hr Tryd.f33 8, {}⟩
theorem midSc (ck nx : Int) (ps : Ps) (is : Is) (cs : Cs) (ws : Ws) (x : CL cI) (n : CL cN) (b : Bool) : run P tabSc.sum Tryd.f33 nsSc (cSc ck nx ps is cs ws x n b) =
  Tree.ite (gS is (iU x) == (1 : Int))
  (Tree.ite b (Tree.ite (nK n == (13 : Int)) (Tree.ite (decide (gP is (iU x) = iP x)) (Tree.ret [AObj.own [AV.s (SV.int IntKind.i64 ck), AV.s (SV.int IntKind.i64 nx), AV.s (SV.ro (Con.typ cP ps)), AV.s (SV.ro (Con.typ cI is)), AV.s (SV.ro (Con.typ cC cs)), AV.s (SV.ro (Con.typ cW ws))] (27 : Nat), AObj.own [AV.s (SV.int IntKind.i64 (iI x)), AV.s (SV.int IntKind.i64 (iU x)), AV.s (SV.int IntKind.u8 (iS x)), AV.s (SV.str (iP x)), AV.s (SV.int IntKind.i64 (iN x)), AV.s (SV.int IntKind.i64 (iF x)), AV.s (SV.int IntKind.u8 (iW x)), AV.s (SV.str (iC x))] (31 : Nat), AObj.own [AV.s (SV.str (nN n)), AV.s (SV.int IntKind.u8 (nK n)), AV.s (SV.int IntKind.i64 (nI n)), AV.s (SV.int IntKind.i64 (nO n)), AV.s (SV.int IntKind.u8 (nE n)), AV.s (SV.str (nY n)), AV.s (SV.str (nT n)), AV.s (SV.str (nS n)), AV.s (SV.bool (nB n)), AV.s (SV.ro (Con.typ cV (nV n))), AV.s (SV.ro (Con.strs (nZ n)))] (45 : Nat), AObj.own [AV.s (SV.int IntKind.i64 (gI is (iU x))), AV.s (SV.int IntKind.i64 (gU is (iU x))), AV.s (SV.int IntKind.u8 (gS is (iU x))), AV.s (SV.str (gP is (iU x))), AV.s (SV.int IntKind.i64 (gN is (iU x))), AV.s (SV.int IntKind.i64 (gF is (iU x))), AV.s (SV.int IntKind.u8 (gW is (iU x))), AV.s (SV.str (gC is (iU x)))] (31 : Nat)] (AV.s (SV.bool (nI n == gN is (iU x))))) (Tree.ret [AObj.own [AV.s (SV.int IntKind.i64 ck), AV.s (SV.int IntKind.i64 nx), AV.s (SV.ro (Con.typ cP ps)), AV.s (SV.ro (Con.typ cI is)), AV.s (SV.ro (Con.typ cC cs)), AV.s (SV.ro (Con.typ cW ws))] (27 : Nat), AObj.own [AV.s (SV.int IntKind.i64 (iI x)), AV.s (SV.int IntKind.i64 (iU x)), AV.s (SV.int IntKind.u8 (iS x)), AV.s (SV.str (iP x)), AV.s (SV.int IntKind.i64 (iN x)), AV.s (SV.int IntKind.i64 (iF x)), AV.s (SV.int IntKind.u8 (iW x)), AV.s (SV.str (iC x))] (31 : Nat), AObj.own [AV.s (SV.str (nN n)), AV.s (SV.int IntKind.u8 (nK n)), AV.s (SV.int IntKind.i64 (nI n)), AV.s (SV.int IntKind.i64 (nO n)), AV.s (SV.int IntKind.u8 (nE n)), AV.s (SV.str (nY n)), AV.s (SV.str (nT n)), AV.s (SV.str (nS n)), AV.s (SV.bool (nB n)), AV.s (SV.ro (Con.typ cV (nV n))), AV.s (SV.ro (Con.strs (nZ n)))] (45 : Nat), AObj.own [AV.s (SV.int IntKind.i64 (gI is (iU x))), AV.s (SV.int IntKind.i64 (gU is (iU x))), AV.s (SV.int IntKind.u8 (gS is (iU x))), AV.s (SV.str (gP is (iU x))), AV.s (SV.int IntKind.i64 (gN is (iU x))), AV.s (SV.int IntKind.i64 (gF is (iU x))), AV.s (SV.int IntKind.u8 (gW is (iU x))), AV.s (SV.str (gC is (iU x)))] (31 : Nat)] (AV.s (SV.blit false)))) (Tree.ret [AObj.own [AV.s (SV.int IntKind.i64 ck), AV.s (SV.int IntKind.i64 nx), AV.s (SV.ro (Con.typ cP ps)), AV.s (SV.ro (Con.typ cI is)), AV.s (SV.ro (Con.typ cC cs)), AV.s (SV.ro (Con.typ cW ws))] (27 : Nat), AObj.own [AV.s (SV.int IntKind.i64 (iI x)), AV.s (SV.int IntKind.i64 (iU x)), AV.s (SV.int IntKind.u8 (iS x)), AV.s (SV.str (iP x)), AV.s (SV.int IntKind.i64 (iN x)), AV.s (SV.int IntKind.i64 (iF x)), AV.s (SV.int IntKind.u8 (iW x)), AV.s (SV.str (iC x))] (31 : Nat), AObj.own [AV.s (SV.str (nN n)), AV.s (SV.int IntKind.u8 (nK n)), AV.s (SV.int IntKind.i64 (nI n)), AV.s (SV.int IntKind.i64 (nO n)), AV.s (SV.int IntKind.u8 (nE n)), AV.s (SV.str (nY n)), AV.s (SV.str (nT n)), AV.s (SV.str (nS n)), AV.s (SV.bool (nB n)), AV.s (SV.ro (Con.typ cV (nV n))), AV.s (SV.ro (Con.strs (nZ n)))] (45 : Nat), AObj.own [AV.s (SV.int IntKind.i64 (gI is (iU x))), AV.s (SV.int IntKind.i64 (gU is (iU x))), AV.s (SV.int IntKind.u8 (gS is (iU x))), AV.s (SV.str (gP is (iU x))), AV.s (SV.int IntKind.i64 (gN is (iU x))), AV.s (SV.int IntKind.i64 (gF is (iU x))), AV.s (SV.int IntKind.u8 (gW is (iU x))), AV.s (SV.str (gC is (iU x)))] (31 : Nat)] (AV.s (SV.blit false))))
    (Tree.ret [AObj.own [AV.s (SV.int IntKind.i64 ck), AV.s (SV.int IntKind.i64 nx), AV.s (SV.ro (Con.typ cP ps)), AV.s (SV.ro (Con.typ cI is)), AV.s (SV.ro (Con.typ cC cs)), AV.s (SV.ro (Con.typ cW ws))] (27 : Nat), AObj.own [AV.s (SV.int IntKind.i64 (iI x)), AV.s (SV.int IntKind.i64 (iU x)), AV.s (SV.int IntKind.u8 (iS x)), AV.s (SV.str (iP x)), AV.s (SV.int IntKind.i64 (iN x)), AV.s (SV.int IntKind.i64 (iF x)), AV.s (SV.int IntKind.u8 (iW x)), AV.s (SV.str (iC x))] (31 : Nat), AObj.own [AV.s (SV.str (nN n)), AV.s (SV.int IntKind.u8 (nK n)), AV.s (SV.int IntKind.i64 (nI n)), AV.s (SV.int IntKind.i64 (nO n)), AV.s (SV.int IntKind.u8 (nE n)), AV.s (SV.str (nY n)), AV.s (SV.str (nT n)), AV.s (SV.str (nS n)), AV.s (SV.bool (nB n)), AV.s (SV.ro (Con.typ cV (nV n))), AV.s (SV.ro (Con.strs (nZ n)))] (45 : Nat), AObj.own [AV.s (SV.int IntKind.i64 (gI is (iU x))), AV.s (SV.int IntKind.i64 (gU is (iU x))), AV.s (SV.int IntKind.u8 (gS is (iU x))), AV.s (SV.str (gP is (iU x))), AV.s (SV.int IntKind.i64 (gN is (iU x))), AV.s (SV.int IntKind.i64 (gF is (iU x))), AV.s (SV.int IntKind.u8 (gW is (iU x))), AV.s (SV.str (gC is (iU x)))] (31 : Nat)] (AV.s (SV.blit false))))
  (Tree.ite (!hasN ps (gP is (iU x)) (gN is (iU x))) (Tree.ret [AObj.own [AV.s (SV.int IntKind.i64 ck), AV.s (SV.int IntKind.i64 nx), AV.s (SV.ro (Con.typ cP ps)), AV.s (SV.ro (Con.typ cI is)), AV.s (SV.ro (Con.typ cC cs)), AV.s (SV.ro (Con.typ cW ws))] (27 : Nat), AObj.own [AV.s (SV.int IntKind.i64 (iI x)), AV.s (SV.int IntKind.i64 (iU x)), AV.s (SV.int IntKind.u8 (iS x)), AV.s (SV.str (iP x)), AV.s (SV.int IntKind.i64 (iN x)), AV.s (SV.int IntKind.i64 (iF x)), AV.s (SV.int IntKind.u8 (iW x)), AV.s (SV.str (iC x))] (31 : Nat), AObj.own [AV.s (SV.str (nN n)), AV.s (SV.int IntKind.u8 (nK n)), AV.s (SV.int IntKind.i64 (nI n)), AV.s (SV.int IntKind.i64 (nO n)), AV.s (SV.int IntKind.u8 (nE n)), AV.s (SV.str (nY n)), AV.s (SV.str (nT n)), AV.s (SV.str (nS n)), AV.s (SV.bool (nB n)), AV.s (SV.ro (Con.typ cV (nV n))), AV.s (SV.ro (Con.strs (nZ n)))] (45 : Nat), AObj.own [AV.s (SV.int IntKind.i64 (gI is (iU x))), AV.s (SV.int IntKind.i64 (gU is (iU x))), AV.s (SV.int IntKind.u8 (gS is (iU x))), AV.s (SV.str (gP is (iU x))), AV.s (SV.int IntKind.i64 (gN is (iU x))), AV.s (SV.int IntKind.i64 (gF is (iU x))), AV.s (SV.int IntKind.u8 (gW is (iU x))), AV.s (SV.str (gC is (iU x)))] (31 : Nat), AObj.own [AV.s (SV.str (nN (ndF ps (gP is (iU x)) (gN is (iU x))))), AV.s (SV.int IntKind.u8 (nK (ndF ps (gP is (iU x)) (gN is (iU x))))), AV.s (SV.int IntKind.i64 (nI (ndF ps (gP is (iU x)) (gN is (iU x))))), AV.s (SV.int IntKind.i64 (nO (ndF ps (gP is (iU x)) (gN is (iU x))))), AV.s (SV.int IntKind.u8 (nE (ndF ps (gP is (iU x)) (gN is (iU x))))), AV.s (SV.str (nY (ndF ps (gP is (iU x)) (gN is (iU x))))), AV.s (SV.str (nT (ndF ps (gP is (iU x)) (gN is (iU x))))), AV.s (SV.str (nS (ndF ps (gP is (iU x)) (gN is (iU x))))), AV.s (SV.bool (nB (ndF ps (gP is (iU x)) (gN is (iU x))))), AV.s (SV.ro (Con.typ cV (nV (ndF ps (gP is (iU x)) (gN is (iU x)))))), AV.s (SV.ro (Con.strs (nZ (ndF ps (gP is (iU x)) (gN is (iU x))))))] (45 : Nat)] (AV.s (SV.blit false)))
    (Tree.ite (gW is (iU x) != (3 : Int)) (Tree.ret [AObj.own [AV.s (SV.int IntKind.i64 ck), AV.s (SV.int IntKind.i64 nx), AV.s (SV.ro (Con.typ cP ps)), AV.s (SV.ro (Con.typ cI is)), AV.s (SV.ro (Con.typ cC cs)), AV.s (SV.ro (Con.typ cW ws))] (27 : Nat), AObj.own [AV.s (SV.int IntKind.i64 (iI x)), AV.s (SV.int IntKind.i64 (iU x)), AV.s (SV.int IntKind.u8 (iS x)), AV.s (SV.str (iP x)), AV.s (SV.int IntKind.i64 (iN x)), AV.s (SV.int IntKind.i64 (iF x)), AV.s (SV.int IntKind.u8 (iW x)), AV.s (SV.str (iC x))] (31 : Nat), AObj.own [AV.s (SV.str (nN n)), AV.s (SV.int IntKind.u8 (nK n)), AV.s (SV.int IntKind.i64 (nI n)), AV.s (SV.int IntKind.i64 (nO n)), AV.s (SV.int IntKind.u8 (nE n)), AV.s (SV.str (nY n)), AV.s (SV.str (nT n)), AV.s (SV.str (nS n)), AV.s (SV.bool (nB n)), AV.s (SV.ro (Con.typ cV (nV n))), AV.s (SV.ro (Con.strs (nZ n)))] (45 : Nat), AObj.own [AV.s (SV.int IntKind.i64 (gI is (iU x))), AV.s (SV.int IntKind.i64 (gU is (iU x))), AV.s (SV.int IntKind.u8 (gS is (iU x))), AV.s (SV.str (gP is (iU x))), AV.s (SV.int IntKind.i64 (gN is (iU x))), AV.s (SV.int IntKind.i64 (gF is (iU x))), AV.s (SV.int IntKind.u8 (gW is (iU x))), AV.s (SV.str (gC is (iU x)))] (31 : Nat), AObj.own [AV.s (SV.str (nN (ndF ps (gP is (iU x)) (gN is (iU x))))), AV.s (SV.int IntKind.u8 (nK (ndF ps (gP is (iU x)) (gN is (iU x))))), AV.s (SV.int IntKind.i64 (nI (ndF ps (gP is (iU x)) (gN is (iU x))))), AV.s (SV.int IntKind.i64 (nO (ndF ps (gP is (iU x)) (gN is (iU x))))), AV.s (SV.int IntKind.u8 (nE (ndF ps (gP is (iU x)) (gN is (iU x))))), AV.s (SV.str (nY (ndF ps (gP is (iU x)) (gN is (iU x))))), AV.s (SV.str (nT (ndF ps (gP is (iU x)) (gN is (iU x))))), AV.s (SV.str (nS (ndF ps (gP is (iU x)) (gN is (iU x))))), AV.s (SV.bool (nB (ndF ps (gP is (iU x)) (gN is (iU x))))), AV.s (SV.ro (Con.typ cV (nV (ndF ps (gP is (iU x)) (gN is (iU x)))))), AV.s (SV.ro (Con.strs (nZ (ndF ps (gP is (iU x)) (gN is (iU x))))))] (45 : Nat)] (AV.s (SV.blit false)))
      (Tree.ite (iN x == (-1 : Int)) (Tree.ite (nK (ndF ps (gP is (iU x)) (gN is (iU x))) == (14 : Int)) (Tree.ret [AObj.own [AV.s (SV.int IntKind.i64 ck), AV.s (SV.int IntKind.i64 nx), AV.s (SV.ro (Con.typ cP ps)), AV.s (SV.ro (Con.typ cI is)), AV.s (SV.ro (Con.typ cC cs)), AV.s (SV.ro (Con.typ cW ws))] (27 : Nat), AObj.own [AV.s (SV.int IntKind.i64 (iI x)), AV.s (SV.int IntKind.i64 (iU x)), AV.s (SV.int IntKind.u8 (iS x)), AV.s (SV.str (iP x)), AV.s (SV.int IntKind.i64 (iN x)), AV.s (SV.int IntKind.i64 (iF x)), AV.s (SV.int IntKind.u8 (iW x)), AV.s (SV.str (iC x))] (31 : Nat), AObj.own [AV.s (SV.str (nN n)), AV.s (SV.int IntKind.u8 (nK n)), AV.s (SV.int IntKind.i64 (nI n)), AV.s (SV.int IntKind.i64 (nO n)), AV.s (SV.int IntKind.u8 (nE n)), AV.s (SV.str (nY n)), AV.s (SV.str (nT n)), AV.s (SV.str (nS n)), AV.s (SV.bool (nB n)), AV.s (SV.ro (Con.typ cV (nV n))), AV.s (SV.ro (Con.strs (nZ n)))] (45 : Nat), AObj.own [AV.s (SV.int IntKind.i64 (gI is (iU x))), AV.s (SV.int IntKind.i64 (gU is (iU x))), AV.s (SV.int IntKind.u8 (gS is (iU x))), AV.s (SV.str (gP is (iU x))), AV.s (SV.int IntKind.i64 (gN is (iU x))), AV.s (SV.int IntKind.i64 (gF is (iU x))), AV.s (SV.int IntKind.u8 (gW is (iU x))), AV.s (SV.str (gC is (iU x)))] (31 : Nat), AObj.own [AV.s (SV.str (nN (ndF ps (gP is (iU x)) (gN is (iU x))))), AV.s (SV.int IntKind.u8 (nK (ndF ps (gP is (iU x)) (gN is (iU x))))), AV.s (SV.int IntKind.i64 (nI (ndF ps (gP is (iU x)) (gN is (iU x))))), AV.s (SV.int IntKind.i64 (nO (ndF ps (gP is (iU x)) (gN is (iU x))))), AV.s (SV.int IntKind.u8 (nE (ndF ps (gP is (iU x)) (gN is (iU x))))), AV.s (SV.str (nY (ndF ps (gP is (iU x)) (gN is (iU x))))), AV.s (SV.str (nT (ndF ps (gP is (iU x)) (gN is (iU x))))), AV.s (SV.str (nS (ndF ps (gP is (iU x)) (gN is (iU x))))), AV.s (SV.bool (nB (ndF ps (gP is (iU x)) (gN is (iU x))))), AV.s (SV.ro (Con.typ cV (nV (ndF ps (gP is (iU x)) (gN is (iU x)))))), AV.s (SV.ro (Con.strs (nZ (ndF ps (gP is (iU x)) (gN is (iU x))))))] (45 : Nat)] (AV.s (SV.bool (decide (nY (ndF ps (gP is (iU x)) (gN is (iU x))) = iP x))))) (Tree.ret [AObj.own [AV.s (SV.int IntKind.i64 ck), AV.s (SV.int IntKind.i64 nx), AV.s (SV.ro (Con.typ cP ps)), AV.s (SV.ro (Con.typ cI is)), AV.s (SV.ro (Con.typ cC cs)), AV.s (SV.ro (Con.typ cW ws))] (27 : Nat), AObj.own [AV.s (SV.int IntKind.i64 (iI x)), AV.s (SV.int IntKind.i64 (iU x)), AV.s (SV.int IntKind.u8 (iS x)), AV.s (SV.str (iP x)), AV.s (SV.int IntKind.i64 (iN x)), AV.s (SV.int IntKind.i64 (iF x)), AV.s (SV.int IntKind.u8 (iW x)), AV.s (SV.str (iC x))] (31 : Nat), AObj.own [AV.s (SV.str (nN n)), AV.s (SV.int IntKind.u8 (nK n)), AV.s (SV.int IntKind.i64 (nI n)), AV.s (SV.int IntKind.i64 (nO n)), AV.s (SV.int IntKind.u8 (nE n)), AV.s (SV.str (nY n)), AV.s (SV.str (nT n)), AV.s (SV.str (nS n)), AV.s (SV.bool (nB n)), AV.s (SV.ro (Con.typ cV (nV n))), AV.s (SV.ro (Con.strs (nZ n)))] (45 : Nat), AObj.own [AV.s (SV.int IntKind.i64 (gI is (iU x))), AV.s (SV.int IntKind.i64 (gU is (iU x))), AV.s (SV.int IntKind.u8 (gS is (iU x))), AV.s (SV.str (gP is (iU x))), AV.s (SV.int IntKind.i64 (gN is (iU x))), AV.s (SV.int IntKind.i64 (gF is (iU x))), AV.s (SV.int IntKind.u8 (gW is (iU x))), AV.s (SV.str (gC is (iU x)))] (31 : Nat), AObj.own [AV.s (SV.str (nN (ndF ps (gP is (iU x)) (gN is (iU x))))), AV.s (SV.int IntKind.u8 (nK (ndF ps (gP is (iU x)) (gN is (iU x))))), AV.s (SV.int IntKind.i64 (nI (ndF ps (gP is (iU x)) (gN is (iU x))))), AV.s (SV.int IntKind.i64 (nO (ndF ps (gP is (iU x)) (gN is (iU x))))), AV.s (SV.int IntKind.u8 (nE (ndF ps (gP is (iU x)) (gN is (iU x))))), AV.s (SV.str (nY (ndF ps (gP is (iU x)) (gN is (iU x))))), AV.s (SV.str (nT (ndF ps (gP is (iU x)) (gN is (iU x))))), AV.s (SV.str (nS (ndF ps (gP is (iU x)) (gN is (iU x))))), AV.s (SV.bool (nB (ndF ps (gP is (iU x)) (gN is (iU x))))), AV.s (SV.ro (Con.typ cV (nV (ndF ps (gP is (iU x)) (gN is (iU x)))))), AV.s (SV.ro (Con.strs (nZ (ndF ps (gP is (iU x)) (gN is (iU x))))))] (45 : Nat)] (AV.s (SV.blit false))))
        (Tree.ite (decide (gP is (iU x) = iP x)) (Tree.ret [AObj.own [AV.s (SV.int IntKind.i64 ck), AV.s (SV.int IntKind.i64 nx), AV.s (SV.ro (Con.typ cP ps)), AV.s (SV.ro (Con.typ cI is)), AV.s (SV.ro (Con.typ cC cs)), AV.s (SV.ro (Con.typ cW ws))] (27 : Nat), AObj.own [AV.s (SV.int IntKind.i64 (iI x)), AV.s (SV.int IntKind.i64 (iU x)), AV.s (SV.int IntKind.u8 (iS x)), AV.s (SV.str (iP x)), AV.s (SV.int IntKind.i64 (iN x)), AV.s (SV.int IntKind.i64 (iF x)), AV.s (SV.int IntKind.u8 (iW x)), AV.s (SV.str (iC x))] (31 : Nat), AObj.own [AV.s (SV.str (nN n)), AV.s (SV.int IntKind.u8 (nK n)), AV.s (SV.int IntKind.i64 (nI n)), AV.s (SV.int IntKind.i64 (nO n)), AV.s (SV.int IntKind.u8 (nE n)), AV.s (SV.str (nY n)), AV.s (SV.str (nT n)), AV.s (SV.str (nS n)), AV.s (SV.bool (nB n)), AV.s (SV.ro (Con.typ cV (nV n))), AV.s (SV.ro (Con.strs (nZ n)))] (45 : Nat), AObj.own [AV.s (SV.int IntKind.i64 (gI is (iU x))), AV.s (SV.int IntKind.i64 (gU is (iU x))), AV.s (SV.int IntKind.u8 (gS is (iU x))), AV.s (SV.str (gP is (iU x))), AV.s (SV.int IntKind.i64 (gN is (iU x))), AV.s (SV.int IntKind.i64 (gF is (iU x))), AV.s (SV.int IntKind.u8 (gW is (iU x))), AV.s (SV.str (gC is (iU x)))] (31 : Nat), AObj.own [AV.s (SV.str (nN (ndF ps (gP is (iU x)) (gN is (iU x))))), AV.s (SV.int IntKind.u8 (nK (ndF ps (gP is (iU x)) (gN is (iU x))))), AV.s (SV.int IntKind.i64 (nI (ndF ps (gP is (iU x)) (gN is (iU x))))), AV.s (SV.int IntKind.i64 (nO (ndF ps (gP is (iU x)) (gN is (iU x))))), AV.s (SV.int IntKind.u8 (nE (ndF ps (gP is (iU x)) (gN is (iU x))))), AV.s (SV.str (nY (ndF ps (gP is (iU x)) (gN is (iU x))))), AV.s (SV.str (nT (ndF ps (gP is (iU x)) (gN is (iU x))))), AV.s (SV.str (nS (ndF ps (gP is (iU x)) (gN is (iU x))))), AV.s (SV.bool (nB (ndF ps (gP is (iU x)) (gN is (iU x))))), AV.s (SV.ro (Con.typ cV (nV (ndF ps (gP is (iU x)) (gN is (iU x)))))), AV.s (SV.ro (Con.strs (nZ (ndF ps (gP is (iU x)) (gN is (iU x))))))] (45 : Nat)] (AV.s (SV.bool (gN is (iU x) == iN x)))) (Tree.ret [AObj.own [AV.s (SV.int IntKind.i64 ck), AV.s (SV.int IntKind.i64 nx), AV.s (SV.ro (Con.typ cP ps)), AV.s (SV.ro (Con.typ cI is)), AV.s (SV.ro (Con.typ cC cs)), AV.s (SV.ro (Con.typ cW ws))] (27 : Nat), AObj.own [AV.s (SV.int IntKind.i64 (iI x)), AV.s (SV.int IntKind.i64 (iU x)), AV.s (SV.int IntKind.u8 (iS x)), AV.s (SV.str (iP x)), AV.s (SV.int IntKind.i64 (iN x)), AV.s (SV.int IntKind.i64 (iF x)), AV.s (SV.int IntKind.u8 (iW x)), AV.s (SV.str (iC x))] (31 : Nat), AObj.own [AV.s (SV.str (nN n)), AV.s (SV.int IntKind.u8 (nK n)), AV.s (SV.int IntKind.i64 (nI n)), AV.s (SV.int IntKind.i64 (nO n)), AV.s (SV.int IntKind.u8 (nE n)), AV.s (SV.str (nY n)), AV.s (SV.str (nT n)), AV.s (SV.str (nS n)), AV.s (SV.bool (nB n)), AV.s (SV.ro (Con.typ cV (nV n))), AV.s (SV.ro (Con.strs (nZ n)))] (45 : Nat), AObj.own [AV.s (SV.int IntKind.i64 (gI is (iU x))), AV.s (SV.int IntKind.i64 (gU is (iU x))), AV.s (SV.int IntKind.u8 (gS is (iU x))), AV.s (SV.str (gP is (iU x))), AV.s (SV.int IntKind.i64 (gN is (iU x))), AV.s (SV.int IntKind.i64 (gF is (iU x))), AV.s (SV.int IntKind.u8 (gW is (iU x))), AV.s (SV.str (gC is (iU x)))] (31 : Nat), AObj.own [AV.s (SV.str (nN (ndF ps (gP is (iU x)) (gN is (iU x))))), AV.s (SV.int IntKind.u8 (nK (ndF ps (gP is (iU x)) (gN is (iU x))))), AV.s (SV.int IntKind.i64 (nI (ndF ps (gP is (iU x)) (gN is (iU x))))), AV.s (SV.int IntKind.i64 (nO (ndF ps (gP is (iU x)) (gN is (iU x))))), AV.s (SV.int IntKind.u8 (nE (ndF ps (gP is (iU x)) (gN is (iU x))))), AV.s (SV.str (nY (ndF ps (gP is (iU x)) (gN is (iU x))))), AV.s (SV.str (nT (ndF ps (gP is (iU x)) (gN is (iU x))))), AV.s (SV.str (nS (ndF ps (gP is (iU x)) (gN is (iU x))))), AV.s (SV.bool (nB (ndF ps (gP is (iU x)) (gN is (iU x))))), AV.s (SV.ro (Con.typ cV (nV (ndF ps (gP is (iU x)) (gN is (iU x)))))), AV.s (SV.ro (Con.strs (nZ (ndF ps (gP is (iU x)) (gN is (iU x))))))] (45 : Nat)] (AV.s (SV.blit false))))))) := by kernel_rfl
/-! token -/
def kindsF (n : Int) : List Int := if n = 2 then [3] else if n = 3 then [11, 12, 14] else if n = 4 then [6, 10] else if n = 5 then [8, 9] else if n = 6 then [7, 9, 2] else []
def sumH9 (S : Value → List Int → Prop) := sumIf (fun a => match a with | .s (.raw _ _) :: _ => true | _ => false) (sumKV S (fun l x => l.contains x)) sumH8
def tabTk (S : Value → List Int → Prop) : Tab := [(61, sumNo), (19, sumFi), (58, sumH9 S), (14, sumDf), (17, sumKi)]
end Ds

namespace Ds
open Go Go.Sx Go.Proofs Lf
def nsTl : List (Nat × Norm) := [(5, ⟨[], [2, 3, 7], 0, []⟩), (midKey + 5004, ⟨[], [2, 3, 7, 58], 0, []⟩), (midKey + 5007, ⟨[], [2, 3, 7, 58, 59, 61], 0, []⟩), (7, ⟨[], [2, 3], 0, []⟩)]
theorem trTl (S : Value → List Int → Prop) (ck nx : Int) (ps : Ps) (is : Is) (cs : Cs) (ws : Ws) (x : CL cI) : run P (tabTk S).sum Tryd.f34 nsTl (start Tryd.f34 [avSt ck nx ps is cs ws, avIt x] []) =
  Tree.ite (gS is (iU x) != (1 : Int)) (Tree.ret [AObj.own [AV.s (SV.int IntKind.i64 ck), AV.s (SV.int IntKind.i64 nx), AV.s (SV.ro (Con.typ cP ps)), AV.s (SV.ro (Con.typ cI is)), AV.s (SV.ro (Con.typ cC cs)), AV.s (SV.ro (Con.typ cW ws))] (27 : Nat), AObj.own [AV.s (SV.int IntKind.i64 (iI x)), AV.s (SV.int IntKind.i64 (iU x)), AV.s (SV.int IntKind.u8 (iS x)), AV.s (SV.str (iP x)), AV.s (SV.int IntKind.i64 (iN x)), AV.s (SV.int IntKind.i64 (iF x)), AV.s (SV.int IntKind.u8 (iW x)), AV.s (SV.str (iC x))] (31 : Nat), AObj.own [AV.s (SV.int IntKind.i64 (gI is (iU x))), AV.s (SV.int IntKind.i64 (gU is (iU x))), AV.s (SV.int IntKind.u8 (gS is (iU x))), AV.s (SV.str (gP is (iU x))), AV.s (SV.int IntKind.i64 (gN is (iU x))), AV.s (SV.int IntKind.i64 (gF is (iU x))), AV.s (SV.int IntKind.u8 (gW is (iU x))), AV.s (SV.str (gC is (iU x)))] (31 : Nat), AObj.own [AV.s (SV.str (nN (ndF ps (iP x) (iN x)))), AV.s (SV.int IntKind.u8 (nK (ndF ps (iP x) (iN x)))), AV.s (SV.int IntKind.i64 (nI (ndF ps (iP x) (iN x)))), AV.s (SV.int IntKind.i64 (nO (ndF ps (iP x) (iN x)))), AV.s (SV.int IntKind.u8 (nE (ndF ps (iP x) (iN x)))), AV.s (SV.str (nY (ndF ps (iP x) (iN x)))), AV.s (SV.str (nT (ndF ps (iP x) (iN x)))), AV.s (SV.str (nS (ndF ps (iP x) (iN x)))), AV.s (SV.bool (nB (ndF ps (iP x) (iN x)))), AV.s (SV.ro (Con.typ cV (nV (ndF ps (iP x) (iN x))))), AV.s (SV.ro (Con.strs (nZ (ndF ps (iP x) (iN x)))))] (45 : Nat)] (AV.s (SV.blit false)))
  (Tree.ite (!decide (gP is (iU x) = iP x)) (Tree.ret [AObj.own [AV.s (SV.int IntKind.i64 ck), AV.s (SV.int IntKind.i64 nx), AV.s (SV.ro (Con.typ cP ps)), AV.s (SV.ro (Con.typ cI is)), AV.s (SV.ro (Con.typ cC cs)), AV.s (SV.ro (Con.typ cW ws))] (27 : Nat), AObj.own [AV.s (SV.int IntKind.i64 (iI x)), AV.s (SV.int IntKind.i64 (iU x)), AV.s (SV.int IntKind.u8 (iS x)), AV.s (SV.str (iP x)), AV.s (SV.int IntKind.i64 (iN x)), AV.s (SV.int IntKind.i64 (iF x)), AV.s (SV.int IntKind.u8 (iW x)), AV.s (SV.str (iC x))] (31 : Nat), AObj.own [AV.s (SV.int IntKind.i64 (gI is (iU x))), AV.s (SV.int IntKind.i64 (gU is (iU x))), AV.s (SV.int IntKind.u8 (gS is (iU x))), AV.s (SV.str (gP is (iU x))), AV.s (SV.int IntKind.i64 (gN is (iU x))), AV.s (SV.int IntKind.i64 (gF is (iU x))), AV.s (SV.int IntKind.u8 (gW is (iU x))), AV.s (SV.str (gC is (iU x)))] (31 : Nat), AObj.own [AV.s (SV.str (nN (ndF ps (iP x) (iN x)))), AV.s (SV.int IntKind.u8 (nK (ndF ps (iP x) (iN x)))), AV.s (SV.int IntKind.i64 (nI (ndF ps (iP x) (iN x)))), AV.s (SV.int IntKind.i64 (nO (ndF ps (iP x) (iN x)))), AV.s (SV.int IntKind.u8 (nE (ndF ps (iP x) (iN x)))), AV.s (SV.str (nY (ndF ps (iP x) (iN x)))), AV.s (SV.str (nT (ndF ps (iP x) (iN x)))), AV.s (SV.str (nS (ndF ps (iP x) (iN x)))), AV.s (SV.bool (nB (ndF ps (iP x) (iN x)))), AV.s (SV.ro (Con.typ cV (nV (ndF ps (iP x) (iN x))))), AV.s (SV.ro (Con.strs (nZ (ndF ps (iP x) (iN x)))))] (45 : Nat)] (AV.s (SV.blit false)))
    (Tree.ite (!hasN ps (iP x) (iN x)) (Tree.ret [AObj.own [AV.s (SV.int IntKind.i64 ck), AV.s (SV.int IntKind.i64 nx), AV.s (SV.ro (Con.typ cP ps)), AV.s (SV.ro (Con.typ cI is)), AV.s (SV.ro (Con.typ cC cs)), AV.s (SV.ro (Con.typ cW ws))] (27 : Nat), AObj.own [AV.s (SV.int IntKind.i64 (iI x)), AV.s (SV.int IntKind.i64 (iU x)), AV.s (SV.int IntKind.u8 (iS x)), AV.s (SV.str (iP x)), AV.s (SV.int IntKind.i64 (iN x)), AV.s (SV.int IntKind.i64 (iF x)), AV.s (SV.int IntKind.u8 (iW x)), AV.s (SV.str (iC x))] (31 : Nat), AObj.own [AV.s (SV.int IntKind.i64 (gI is (iU x))), AV.s (SV.int IntKind.i64 (gU is (iU x))), AV.s (SV.int IntKind.u8 (gS is (iU x))), AV.s (SV.str (gP is (iU x))), AV.s (SV.int IntKind.i64 (gN is (iU x))), AV.s (SV.int IntKind.i64 (gF is (iU x))), AV.s (SV.int IntKind.u8 (gW is (iU x))), AV.s (SV.str (gC is (iU x)))] (31 : Nat), AObj.own [AV.s (SV.str (nN (ndF ps (iP x) (iN x)))), AV.s (SV.int IntKind.u8 (nK (ndF ps (iP x) (iN x)))), AV.s (SV.int IntKind.i64 (nI (ndF ps (iP x) (iN x)))), AV.s (SV.int IntKind.i64 (nO (ndF ps (iP x) (iN x)))), AV.s (SV.int IntKind.u8 (nE (ndF ps (iP x) (iN x)))), AV.s (SV.str (nY (ndF ps (iP x) (iN x)))), AV.s (SV.str (nT (ndF ps (iP x) (iN x)))), AV.s (SV.str (nS (ndF ps (iP x) (iN x)))), AV.s (SV.bool (nB (ndF ps (iP x) (iN x)))), AV.s (SV.ro (Con.typ cV (nV (ndF ps (iP x) (iN x))))), AV.s (SV.ro (Con.strs (nZ (ndF ps (iP x) (iN x)))))] (45 : Nat)] (AV.s (SV.blit false)))
      (Tree.ite (nI (ndF ps (iP x) (iN x)) != gN is (iU x)) (Tree.ret [AObj.own [AV.s (SV.int IntKind.i64 ck), AV.s (SV.int IntKind.i64 nx), AV.s (SV.ro (Con.typ cP ps)), AV.s (SV.ro (Con.typ cI is)), AV.s (SV.ro (Con.typ cC cs)), AV.s (SV.ro (Con.typ cW ws))] (27 : Nat), AObj.own [AV.s (SV.int IntKind.i64 (iI x)), AV.s (SV.int IntKind.i64 (iU x)), AV.s (SV.int IntKind.u8 (iS x)), AV.s (SV.str (iP x)), AV.s (SV.int IntKind.i64 (iN x)), AV.s (SV.int IntKind.i64 (iF x)), AV.s (SV.int IntKind.u8 (iW x)), AV.s (SV.str (iC x))] (31 : Nat), AObj.own [AV.s (SV.int IntKind.i64 (gI is (iU x))), AV.s (SV.int IntKind.i64 (gU is (iU x))), AV.s (SV.int IntKind.u8 (gS is (iU x))), AV.s (SV.str (gP is (iU x))), AV.s (SV.int IntKind.i64 (gN is (iU x))), AV.s (SV.int IntKind.i64 (gF is (iU x))), AV.s (SV.int IntKind.u8 (gW is (iU x))), AV.s (SV.str (gC is (iU x)))] (31 : Nat), AObj.own [AV.s (SV.str (nN (ndF ps (iP x) (iN x)))), AV.s (SV.int IntKind.u8 (nK (ndF ps (iP x) (iN x)))), AV.s (SV.int IntKind.i64 (nI (ndF ps (iP x) (iN x)))), AV.s (SV.int IntKind.i64 (nO (ndF ps (iP x) (iN x)))), AV.s (SV.int IntKind.u8 (nE (ndF ps (iP x) (iN x)))), AV.s (SV.str (nY (ndF ps (iP x) (iN x)))), AV.s (SV.str (nT (ndF ps (iP x) (iN x)))), AV.s (SV.str (nS (ndF ps (iP x) (iN x)))), AV.s (SV.bool (nB (ndF ps (iP x) (iN x)))), AV.s (SV.ro (Con.typ cV (nV (ndF ps (iP x) (iN x))))), AV.s (SV.ro (Con.strs (nZ (ndF ps (iP x) (iN x)))))] (45 : Nat)] (AV.s (SV.blit false)))
        (Tree.ite (!(!decide (iC x = ByteArray.empty)) == (iW x == (6 : Int))) (Tree.ret [AObj.own [AV.s (SV.int IntKind.i64 ck), AV.s (SV.int IntKind.i64 nx), AV.s (SV.ro (Con.typ cP ps)), AV.s (SV.ro (Con.typ cI is)), AV.s (SV.ro (Con.typ cC cs)), AV.s (SV.ro (Con.typ cW ws))] (27 : Nat), AObj.own [AV.s (SV.int IntKind.i64 (iI x)), AV.s (SV.int IntKind.i64 (iU x)), AV.s (SV.int IntKind.u8 (iS x)), AV.s (SV.str (iP x)), AV.s (SV.int IntKind.i64 (iN x)), AV.s (SV.int IntKind.i64 (iF x)), AV.s (SV.int IntKind.u8 (iW x)), AV.s (SV.str (iC x))] (31 : Nat), AObj.own [AV.s (SV.int IntKind.i64 (gI is (iU x))), AV.s (SV.int IntKind.i64 (gU is (iU x))), AV.s (SV.int IntKind.u8 (gS is (iU x))), AV.s (SV.str (gP is (iU x))), AV.s (SV.int IntKind.i64 (gN is (iU x))), AV.s (SV.int IntKind.i64 (gF is (iU x))), AV.s (SV.int IntKind.u8 (gW is (iU x))), AV.s (SV.str (gC is (iU x)))] (31 : Nat), AObj.own [AV.s (SV.str (nN (ndF ps (iP x) (iN x)))), AV.s (SV.int IntKind.u8 (nK (ndF ps (iP x) (iN x)))), AV.s (SV.int IntKind.i64 (nI (ndF ps (iP x) (iN x)))), AV.s (SV.int IntKind.i64 (nO (ndF ps (iP x) (iN x)))), AV.s (SV.int IntKind.u8 (nE (ndF ps (iP x) (iN x)))), AV.s (SV.str (nY (ndF ps (iP x) (iN x)))), AV.s (SV.str (nT (ndF ps (iP x) (iN x)))), AV.s (SV.str (nS (ndF ps (iP x) (iN x)))), AV.s (SV.bool (nB (ndF ps (iP x) (iN x)))), AV.s (SV.ro (Con.typ cV (nV (ndF ps (iP x) (iN x))))), AV.s (SV.ro (Con.strs (nZ (ndF ps (iP x) (iN x)))))] (45 : Nat)] (AV.s (SV.blit false))) (Tree.at (Cfg.mk (sl (124 : Nat) [((2 : Nat), AV.ptr (0 : Nat) (0 : Nat)), ((3 : Nat), AV.ptr (1 : Nat) (0 : Nat)), ((7 : Nat), AV.ptr (2 : Nat) (0 : Nat))]) [AObj.own [AV.s (SV.int IntKind.i64 ck), AV.s (SV.int IntKind.i64 nx), AV.s (SV.ro (Con.typ cP ps)), AV.s (SV.ro (Con.typ cI is)), AV.s (SV.ro (Con.typ cC cs)), AV.s (SV.ro (Con.typ cW ws))] (27 : Nat), AObj.own [AV.s (SV.int IntKind.i64 (iI x)), AV.s (SV.int IntKind.i64 (iU x)), AV.s (SV.int IntKind.u8 (iS x)), AV.s (SV.str (iP x)), AV.s (SV.int IntKind.i64 (iN x)), AV.s (SV.int IntKind.i64 (iF x)), AV.s (SV.int IntKind.u8 (iW x)), AV.s (SV.str (iC x))] (31 : Nat), AObj.own [AV.s (SV.str (nN (ndF ps (iP x) (iN x)))), AV.s (SV.int IntKind.u8 (nK (ndF ps (iP x) (iN x)))), AV.s (SV.int IntKind.i64 (nI (ndF ps (iP x) (iN x)))), AV.s (SV.int IntKind.i64 (nO (ndF ps (iP x) (iN x)))), AV.s (SV.int IntKind.u8 (nE (ndF ps (iP x) (iN x)))), AV.s (SV.str (nY (ndF ps (iP x) (iN x)))), AV.s (SV.str (nT (ndF ps (iP x) (iN x)))), AV.s (SV.str (nS (ndF ps (iP x) (iN x)))), AV.s (SV.bool (nB (ndF ps (iP x) (iN x)))), AV.s (SV.ro (Con.typ cV (nV (ndF ps (iP x) (iN x))))), AV.s (SV.ro (Con.strs (nZ (ndF ps (iP x) (iN x)))))] (45 : Nat)] (hr Tryd.f34 (5 : Nat)) (Stk.mk none false (0 : Nat) [] (0 : Nat)))))))) := by kernel_rfl
noncomputable def cTlA (ck nx : Int) (ps : Ps) (is : Is) (cs : Cs) (ws : Ws) (x : CL cI) (n : CL cN) : Cfg := ⟨sl 124 [(2, .ptr 0 0), (3, .ptr 1 0), (7, .ptr 2 0)], [obSt ck nx ps is cs ws, obIt x, obNo n], hr Tryd.f34 5, {}⟩
theorem midTlA (S : Value → List Int → Prop) (ck nx : Int) (ps : Ps) (is : Is) (cs : Cs) (ws : Ws) (x : CL cI) (n : CL cN) : run P (tabTk S).sum Tryd.f34 nsTl (cTlA ck nx ps is cs ws x n) =
  Tree.ite (iW x != (1 : Int)) (Tree.at (Cfg.mk (sl (124 : Nat) [((2 : Nat), AV.ptr (0 : Nat) (0 : Nat)), ((3 : Nat), AV.ptr (1 : Nat) (0 : Nat)), ((7 : Nat), AV.ptr (2 : Nat) (0 : Nat)), ((58 : Nat), AV.s (SV.bool true))]) [AObj.own [AV.s (SV.int IntKind.i64 ck), AV.s (SV.int IntKind.i64 nx), AV.s (SV.ro (Con.typ cP ps)), AV.s (SV.ro (Con.typ cI is)), AV.s (SV.ro (Con.typ cC cs)), AV.s (SV.ro (Con.typ cW ws))] (27 : Nat), AObj.own [AV.s (SV.int IntKind.i64 (iI x)), AV.s (SV.int IntKind.i64 (iU x)), AV.s (SV.int IntKind.u8 (iS x)), AV.s (SV.str (iP x)), AV.s (SV.int IntKind.i64 (iN x)), AV.s (SV.int IntKind.i64 (iF x)), AV.s (SV.int IntKind.u8 (iW x)), AV.s (SV.str (iC x))] (31 : Nat), AObj.own [AV.s (SV.str (nN n)), AV.s (SV.int IntKind.u8 (nK n)), AV.s (SV.int IntKind.i64 (nI n)), AV.s (SV.int IntKind.i64 (nO n)), AV.s (SV.int IntKind.u8 (nE n)), AV.s (SV.str (nY n)), AV.s (SV.str (nT n)), AV.s (SV.str (nS n)), AV.s (SV.bool (nB n)), AV.s (SV.ro (Con.typ cV (nV n))), AV.s (SV.ro (Con.strs (nZ n)))] (45 : Nat)] (cal Tryd.f34 (5 : Nat) (4 : Nat)) (Stk.mk none false (0 : Nat) [] (5 : Nat)))) (Tree.at (Cfg.mk (sl (124 : Nat) [((2 : Nat), AV.ptr (0 : Nat) (0 : Nat)), ((3 : Nat), AV.ptr (1 : Nat) (0 : Nat))]) [AObj.own [AV.s (SV.int IntKind.i64 ck), AV.s (SV.int IntKind.i64 nx), AV.s (SV.ro (Con.typ cP ps)), AV.s (SV.ro (Con.typ cI is)), AV.s (SV.ro (Con.typ cC cs)), AV.s (SV.ro (Con.typ cW ws))] (27 : Nat), AObj.own [AV.s (SV.int IntKind.i64 (iI x)), AV.s (SV.int IntKind.i64 (iU x)), AV.s (SV.int IntKind.u8 (iS x)), AV.s (SV.str (iP x)), AV.s (SV.int IntKind.i64 (iN x)), AV.s (SV.int IntKind.i64 (iF x)), AV.s (SV.int IntKind.u8 (iW x)), AV.s (SV.str (iC x))] (31 : Nat)] (hr Tryd.f34 (7 : Nat)) (Stk.mk none false (0 : Nat) [] (0 : Nat)))) := by kernel_rfl
noncomputable def cTlB (ck nx : Int) (ps : Ps) (is : Is) (cs : Cs) (ws : Ws) (x : CL cI) (n : CL cN) : Cfg := ⟨sl 124 [(2, .ptr 0 0), (3, .ptr 1 0), (7, .ptr 2 0), (58, .s (.bool true))], [obSt ck nx ps is cs ws, obIt x, obNo n], cal Tryd.f34 5 4, kk 5⟩
noncomputable def cTlB2 (ck nx : Int) (ps : Ps) (is : Is) (cs : Cs) (ws : Ws) (x : CL cI) (n : CL cN) (m : Value) : Cfg := ⟨sl 124 [(2, .ptr 0 0), (3, .ptr 1 0), (7, .ptr 2 0), (58, .s (.blit true)), (59, .s (.raw m []))], [obSt ck nx ps is cs ws, obIt x, obNo n], cal Tryd.f34 5 5, kk 5⟩
theorem midTlB (S : Value → List Int → Prop) (ck nx : Int) (ps : Ps) (is : Is) (cs : Cs) (ws : Ws) (x : CL cI) (n : CL cN) (m : Value) : run P (tabTk S).sum Tryd.f34 nsTl (cTlB2 ck nx ps is cs ws x n m) =
  Tree.at (Cfg.mk (sl (124 : Nat) [((2 : Nat), AV.ptr (0 : Nat) (0 : Nat)), ((3 : Nat), AV.ptr (1 : Nat) (0 : Nat)), ((7 : Nat), AV.ptr (2 : Nat) (0 : Nat)), ((58 : Nat), AV.s (SV.bool true)), ((59 : Nat), AV.s (SV.raw m [])), ((61 : Nat), AV.s (SV.int IntKind.u8 (iW x)))]) [AObj.own [AV.s (SV.int IntKind.i64 ck), AV.s (SV.int IntKind.i64 nx), AV.s (SV.ro (Con.typ cP ps)), AV.s (SV.ro (Con.typ cI is)), AV.s (SV.ro (Con.typ cC cs)), AV.s (SV.ro (Con.typ cW ws))] (27 : Nat), AObj.own [AV.s (SV.int IntKind.i64 (iI x)), AV.s (SV.int IntKind.i64 (iU x)), AV.s (SV.int IntKind.u8 (iS x)), AV.s (SV.str (iP x)), AV.s (SV.int IntKind.i64 (iN x)), AV.s (SV.int IntKind.i64 (iF x)), AV.s (SV.int IntKind.u8 (iW x)), AV.s (SV.str (iC x))] (31 : Nat), AObj.own [AV.s (SV.str (nN n)), AV.s (SV.int IntKind.u8 (nK n)), AV.s (SV.int IntKind.i64 (nI n)), AV.s (SV.int IntKind.i64 (nO n)), AV.s (SV.int IntKind.u8 (nE n)), AV.s (SV.str (nY n)), AV.s (SV.str (nT n)), AV.s (SV.str (nS n)), AV.s (SV.bool (nB n)), AV.s (SV.ro (Con.typ cV (nV n))), AV.s (SV.ro (Con.strs (nZ n)))] (45 : Nat)] (cal Tryd.f34 (5 : Nat) (7 : Nat)) (Stk.mk none false (0 : Nat) [] (5 : Nat))) := by kernel_rfl
noncomputable def cTlC2 (ck nx : Int) (ps : Ps) (is : Is) (cs : Cs) (ws : Ws) (x : CL cI) (n : CL cN) (m v : Value) (zs : List Int) : Cfg := ⟨sl 124 [(2, .ptr 0 0), (3, .ptr 1 0), (7, .ptr 2 0), (58, .s (.blit true)), (59, .s (.raw m [])), (61, avU (iW x)), (62, .s (.raw v zs))], [obSt ck nx ps is cs ws, obIt x, obNo n], cal Tryd.f34 5 8, kk 5⟩
theorem midTlC (S : Value → List Int → Prop) (ck nx : Int) (ps : Ps) (is : Is) (cs : Cs) (ws : Ws) (x : CL cI) (n : CL cN) (m v : Value) (zs : List Int) : run P (tabTk S).sum Tryd.f34 nsTl (cTlC2 ck nx ps is cs ws x n m v zs) =
  Tree.need (S v zs)
  (Tree.ite (!zs.contains (nK n)) (Tree.ret [AObj.own [AV.s (SV.int IntKind.i64 ck), AV.s (SV.int IntKind.i64 nx), AV.s (SV.ro (Con.typ cP ps)), AV.s (SV.ro (Con.typ cI is)), AV.s (SV.ro (Con.typ cC cs)), AV.s (SV.ro (Con.typ cW ws))] (27 : Nat), AObj.own [AV.s (SV.int IntKind.i64 (iI x)), AV.s (SV.int IntKind.i64 (iU x)), AV.s (SV.int IntKind.u8 (iS x)), AV.s (SV.str (iP x)), AV.s (SV.int IntKind.i64 (iN x)), AV.s (SV.int IntKind.i64 (iF x)), AV.s (SV.int IntKind.u8 (iW x)), AV.s (SV.str (iC x))] (31 : Nat), AObj.own [AV.s (SV.str (nN n)), AV.s (SV.int IntKind.u8 (nK n)), AV.s (SV.int IntKind.i64 (nI n)), AV.s (SV.int IntKind.i64 (nO n)), AV.s (SV.int IntKind.u8 (nE n)), AV.s (SV.str (nY n)), AV.s (SV.str (nT n)), AV.s (SV.str (nS n)), AV.s (SV.bool (nB n)), AV.s (SV.ro (Con.typ cV (nV n))), AV.s (SV.ro (Con.strs (nZ n)))] (45 : Nat)] (AV.s (SV.blit false)))
    (Tree.ite (iF x != (-1 : Int))
      (Tree.ite (decide (iF x < (0 : Int))) (Tree.ret [AObj.own [AV.s (SV.int IntKind.i64 ck), AV.s (SV.int IntKind.i64 nx), AV.s (SV.ro (Con.typ cP ps)), AV.s (SV.ro (Con.typ cI is)), AV.s (SV.ro (Con.typ cC cs)), AV.s (SV.ro (Con.typ cW ws))] (27 : Nat), AObj.own [AV.s (SV.int IntKind.i64 (iI x)), AV.s (SV.int IntKind.i64 (iU x)), AV.s (SV.int IntKind.u8 (iS x)), AV.s (SV.str (iP x)), AV.s (SV.int IntKind.i64 (iN x)), AV.s (SV.int IntKind.i64 (iF x)), AV.s (SV.int IntKind.u8 (iW x)), AV.s (SV.str (iC x))] (31 : Nat), AObj.own [AV.s (SV.str (nN n)), AV.s (SV.int IntKind.u8 (nK n)), AV.s (SV.int IntKind.i64 (nI n)), AV.s (SV.int IntKind.i64 (nO n)), AV.s (SV.int IntKind.u8 (nE n)), AV.s (SV.str (nY n)), AV.s (SV.str (nT n)), AV.s (SV.str (nS n)), AV.s (SV.bool (nB n)), AV.s (SV.ro (Con.typ cV (nV n))), AV.s (SV.ro (Con.strs (nZ n)))] (45 : Nat), AObj.own [AV.s (SV.str (pN (getP ps (iP x)))), AV.s (SV.ro (Con.typ cV (pV (getP ps (iP x))))), AV.s (SV.ro (Con.typ cN (pO (getP ps (iP x))))), AV.s (SV.ro (Con.typ cF (pF (getP ps (iP x)))))] (40 : Nat)] (AV.s (SV.blit false)))
        (Tree.ite (decide (iF x ≥ (↑(pF (getP ps (iP x))).length : Int))) (Tree.ret [AObj.own [AV.s (SV.int IntKind.i64 ck), AV.s (SV.int IntKind.i64 nx), AV.s (SV.ro (Con.typ cP ps)), AV.s (SV.ro (Con.typ cI is)), AV.s (SV.ro (Con.typ cC cs)), AV.s (SV.ro (Con.typ cW ws))] (27 : Nat), AObj.own [AV.s (SV.int IntKind.i64 (iI x)), AV.s (SV.int IntKind.i64 (iU x)), AV.s (SV.int IntKind.u8 (iS x)), AV.s (SV.str (iP x)), AV.s (SV.int IntKind.i64 (iN x)), AV.s (SV.int IntKind.i64 (iF x)), AV.s (SV.int IntKind.u8 (iW x)), AV.s (SV.str (iC x))] (31 : Nat), AObj.own [AV.s (SV.str (nN n)), AV.s (SV.int IntKind.u8 (nK n)), AV.s (SV.int IntKind.i64 (nI n)), AV.s (SV.int IntKind.i64 (nO n)), AV.s (SV.int IntKind.u8 (nE n)), AV.s (SV.str (nY n)), AV.s (SV.str (nT n)), AV.s (SV.str (nS n)), AV.s (SV.bool (nB n)), AV.s (SV.ro (Con.typ cV (nV n))), AV.s (SV.ro (Con.strs (nZ n)))] (45 : Nat), AObj.own [AV.s (SV.str (pN (getP ps (iP x)))), AV.s (SV.ro (Con.typ cV (pV (getP ps (iP x))))), AV.s (SV.ro (Con.typ cN (pO (getP ps (iP x))))), AV.s (SV.ro (Con.typ cF (pF (getP ps (iP x)))))] (40 : Nat)] (AV.s (SV.blit false)))
          (Tree.need ((0 : Int) ≤ iF x)
            (Tree.need (iF x < (↑(pF (getP ps (iP x))).length : Int))
              (Tree.ite (fB (el (pF (getP ps (iP x))) (iF x)) != iN x) (Tree.ret [AObj.own [AV.s (SV.int IntKind.i64 ck), AV.s (SV.int IntKind.i64 nx), AV.s (SV.ro (Con.typ cP ps)), AV.s (SV.ro (Con.typ cI is)), AV.s (SV.ro (Con.typ cC cs)), AV.s (SV.ro (Con.typ cW ws))] (27 : Nat), AObj.own [AV.s (SV.int IntKind.i64 (iI x)), AV.s (SV.int IntKind.i64 (iU x)), AV.s (SV.int IntKind.u8 (iS x)), AV.s (SV.str (iP x)), AV.s (SV.int IntKind.i64 (iN x)), AV.s (SV.int IntKind.i64 (iF x)), AV.s (SV.int IntKind.u8 (iW x)), AV.s (SV.str (iC x))] (31 : Nat), AObj.own [AV.s (SV.str (nN n)), AV.s (SV.int IntKind.u8 (nK n)), AV.s (SV.int IntKind.i64 (nI n)), AV.s (SV.int IntKind.i64 (nO n)), AV.s (SV.int IntKind.u8 (nE n)), AV.s (SV.str (nY n)), AV.s (SV.str (nT n)), AV.s (SV.str (nS n)), AV.s (SV.bool (nB n)), AV.s (SV.ro (Con.typ cV (nV n))), AV.s (SV.ro (Con.strs (nZ n)))] (45 : Nat), AObj.own [AV.s (SV.str (pN (getP ps (iP x)))), AV.s (SV.ro (Con.typ cV (pV (getP ps (iP x))))), AV.s (SV.ro (Con.typ cN (pO (getP ps (iP x))))), AV.s (SV.ro (Con.typ cF (pF (getP ps (iP x)))))] (40 : Nat)] (AV.s (SV.blit false)))
                (Tree.need (List.length is ≤ (1000000 : Nat))
                  (Tree.ite ((↑(kidsF (esOf is) (iI x)).length : Int) == (0 : Int)) (Tree.ite (iW x != (3 : Int)) (Tree.ret [AObj.own [AV.s (SV.int IntKind.i64 ck), AV.s (SV.int IntKind.i64 nx), AV.s (SV.ro (Con.typ cP ps)), AV.s (SV.ro (Con.typ cI is)), AV.s (SV.ro (Con.typ cC cs)), AV.s (SV.ro (Con.typ cW ws))] (27 : Nat), AObj.own [AV.s (SV.int IntKind.i64 (iI x)), AV.s (SV.int IntKind.i64 (iU x)), AV.s (SV.int IntKind.u8 (iS x)), AV.s (SV.str (iP x)), AV.s (SV.int IntKind.i64 (iN x)), AV.s (SV.int IntKind.i64 (iF x)), AV.s (SV.int IntKind.u8 (iW x)), AV.s (SV.str (iC x))] (31 : Nat), AObj.own [AV.s (SV.str (nN n)), AV.s (SV.int IntKind.u8 (nK n)), AV.s (SV.int IntKind.i64 (nI n)), AV.s (SV.int IntKind.i64 (nO n)), AV.s (SV.int IntKind.u8 (nE n)), AV.s (SV.str (nY n)), AV.s (SV.str (nT n)), AV.s (SV.str (nS n)), AV.s (SV.bool (nB n)), AV.s (SV.ro (Con.typ cV (nV n))), AV.s (SV.ro (Con.strs (nZ n)))] (45 : Nat), AObj.own [AV.s (SV.str (pN (getP ps (iP x)))), AV.s (SV.ro (Con.typ cV (pV (getP ps (iP x))))), AV.s (SV.ro (Con.typ cN (pO (getP ps (iP x))))), AV.s (SV.ro (Con.typ cF (pF (getP ps (iP x)))))] (40 : Nat), AObj.vec (Con.ints IntKind.i64 (kidsF (esOf is) (iI x))) (3 : Nat)] (AV.s (SV.blit true))) (Tree.ite ((↑(kidsF (esOf is) (iI x)).length : Int) == (1 : Int)) (Tree.ret [AObj.own [AV.s (SV.int IntKind.i64 ck), AV.s (SV.int IntKind.i64 nx), AV.s (SV.ro (Con.typ cP ps)), AV.s (SV.ro (Con.typ cI is)), AV.s (SV.ro (Con.typ cC cs)), AV.s (SV.ro (Con.typ cW ws))] (27 : Nat), AObj.own [AV.s (SV.int IntKind.i64 (iI x)), AV.s (SV.int IntKind.i64 (iU x)), AV.s (SV.int IntKind.u8 (iS x)), AV.s (SV.str (iP x)), AV.s (SV.int IntKind.i64 (iN x)), AV.s (SV.int IntKind.i64 (iF x)), AV.s (SV.int IntKind.u8 (iW x)), AV.s (SV.str (iC x))] (31 : Nat), AObj.own [AV.s (SV.str (nN n)), AV.s (SV.int IntKind.u8 (nK n)), AV.s (SV.int IntKind.i64 (nI n)), AV.s (SV.int IntKind.i64 (nO n)), AV.s (SV.int IntKind.u8 (nE n)), AV.s (SV.str (nY n)), AV.s (SV.str (nT n)), AV.s (SV.str (nS n)), AV.s (SV.bool (nB n)), AV.s (SV.ro (Con.typ cV (nV n))), AV.s (SV.ro (Con.strs (nZ n)))] (45 : Nat), AObj.own [AV.s (SV.str (pN (getP ps (iP x)))), AV.s (SV.ro (Con.typ cV (pV (getP ps (iP x))))), AV.s (SV.ro (Con.typ cN (pO (getP ps (iP x))))), AV.s (SV.ro (Con.typ cF (pF (getP ps (iP x)))))] (40 : Nat), AObj.vec (Con.ints IntKind.i64 (kidsF (esOf is) (iI x))) (3 : Nat)] (AV.s (SV.bool (iW x == (3 : Int))))) (Tree.ret [AObj.own [AV.s (SV.int IntKind.i64 ck), AV.s (SV.int IntKind.i64 nx), AV.s (SV.ro (Con.typ cP ps)), AV.s (SV.ro (Con.typ cI is)), AV.s (SV.ro (Con.typ cC cs)), AV.s (SV.ro (Con.typ cW ws))] (27 : Nat), AObj.own [AV.s (SV.int IntKind.i64 (iI x)), AV.s (SV.int IntKind.i64 (iU x)), AV.s (SV.int IntKind.u8 (iS x)), AV.s (SV.str (iP x)), AV.s (SV.int IntKind.i64 (iN x)), AV.s (SV.int IntKind.i64 (iF x)), AV.s (SV.int IntKind.u8 (iW x)), AV.s (SV.str (iC x))] (31 : Nat), AObj.own [AV.s (SV.str (nN n)), AV.s (SV.int IntKind.u8 (nK n)), AV.s (SV.int IntKind.i64 (nI n)), AV.s (SV.int IntKind.i64 (nO n)), AV.s (SV.int IntKind.u8 (nE n)), AV.s (SV.str (nY n)), AV.s (SV.str (nT n)), AV.s (SV.str (nS n)), AV.s (SV.bool (nB n)), AV.s (SV.ro (Con.typ cV (nV n))), AV.s (SV.ro (Con.strs (nZ n)))] (45 : Nat), AObj.own [AV.s (SV.str (pN (getP ps (iP x)))), AV.s (SV.ro (Con.typ cV (pV (getP ps (iP x))))), AV.s (SV.ro (Con.typ cN (pO (getP ps (iP x))))), AV.s (SV.ro (Con.typ cF (pF (getP ps (iP x)))))] (40 : Nat), AObj.vec (Con.ints IntKind.i64 (kidsF (esOf is) (iI x))) (3 : Nat)] (AV.s (SV.blit false)))))
                    (Tree.ite ((↑(kidsF (esOf is) (iI x)).length : Int) == (1 : Int)) (Tree.ret [AObj.own [AV.s (SV.int IntKind.i64 ck), AV.s (SV.int IntKind.i64 nx), AV.s (SV.ro (Con.typ cP ps)), AV.s (SV.ro (Con.typ cI is)), AV.s (SV.ro (Con.typ cC cs)), AV.s (SV.ro (Con.typ cW ws))] (27 : Nat), AObj.own [AV.s (SV.int IntKind.i64 (iI x)), AV.s (SV.int IntKind.i64 (iU x)), AV.s (SV.int IntKind.u8 (iS x)), AV.s (SV.str (iP x)), AV.s (SV.int IntKind.i64 (iN x)), AV.s (SV.int IntKind.i64 (iF x)), AV.s (SV.int IntKind.u8 (iW x)), AV.s (SV.str (iC x))] (31 : Nat), AObj.own [AV.s (SV.str (nN n)), AV.s (SV.int IntKind.u8 (nK n)), AV.s (SV.int IntKind.i64 (nI n)), AV.s (SV.int IntKind.i64 (nO n)), AV.s (SV.int IntKind.u8 (nE n)), AV.s (SV.str (nY n)), AV.s (SV.str (nT n)), AV.s (SV.str (nS n)), AV.s (SV.bool (nB n)), AV.s (SV.ro (Con.typ cV (nV n))), AV.s (SV.ro (Con.strs (nZ n)))] (45 : Nat), AObj.own [AV.s (SV.str (pN (getP ps (iP x)))), AV.s (SV.ro (Con.typ cV (pV (getP ps (iP x))))), AV.s (SV.ro (Con.typ cN (pO (getP ps (iP x))))), AV.s (SV.ro (Con.typ cF (pF (getP ps (iP x)))))] (40 : Nat), AObj.vec (Con.ints IntKind.i64 (kidsF (esOf is) (iI x))) (3 : Nat)] (AV.s (SV.bool (iW x == (3 : Int))))) (Tree.ret [AObj.own [AV.s (SV.int IntKind.i64 ck), AV.s (SV.int IntKind.i64 nx), AV.s (SV.ro (Con.typ cP ps)), AV.s (SV.ro (Con.typ cI is)), AV.s (SV.ro (Con.typ cC cs)), AV.s (SV.ro (Con.typ cW ws))] (27 : Nat), AObj.own [AV.s (SV.int IntKind.i64 (iI x)), AV.s (SV.int IntKind.i64 (iU x)), AV.s (SV.int IntKind.u8 (iS x)), AV.s (SV.str (iP x)), AV.s (SV.int IntKind.i64 (iN x)), AV.s (SV.int IntKind.i64 (iF x)), AV.s (SV.int IntKind.u8 (iW x)), AV.s (SV.str (iC x))] (31 : Nat), AObj.own [AV.s (SV.str (nN n)), AV.s (SV.int IntKind.u8 (nK n)), AV.s (SV.int IntKind.i64 (nI n)), AV.s (SV.int IntKind.i64 (nO n)), AV.s (SV.int IntKind.u8 (nE n)), AV.s (SV.str (nY n)), AV.s (SV.str (nT n)), AV.s (SV.str (nS n)), AV.s (SV.bool (nB n)), AV.s (SV.ro (Con.typ cV (nV n))), AV.s (SV.ro (Con.strs (nZ n)))] (45 : Nat), AObj.own [AV.s (SV.str (pN (getP ps (iP x)))), AV.s (SV.ro (Con.typ cV (pV (getP ps (iP x))))), AV.s (SV.ro (Con.typ cN (pO (getP ps (iP x))))), AV.s (SV.ro (Con.typ cF (pF (getP ps (iP x)))))] (40 : Nat), AObj.vec (Con.ints IntKind.i64 (kidsF (esOf is) (iI x))) (3 : Nat)] (AV.s (SV.blit false)))))))))))
      (Tree.need (List.length is ≤ (1000000 : Nat))
        (Tree.ite ((↑(kidsF (esOf is) (iI x)).length : Int) == (0 : Int)) (Tree.ite (iW x != (3 : Int)) (Tree.ret [AObj.own [AV.s (SV.int IntKind.i64 ck), AV.s (SV.int IntKind.i64 nx), AV.s (SV.ro (Con.typ cP ps)), AV.s (SV.ro (Con.typ cI is)), AV.s (SV.ro (Con.typ cC cs)), AV.s (SV.ro (Con.typ cW ws))] (27 : Nat), AObj.own [AV.s (SV.int IntKind.i64 (iI x)), AV.s (SV.int IntKind.i64 (iU x)), AV.s (SV.int IntKind.u8 (iS x)), AV.s (SV.str (iP x)), AV.s (SV.int IntKind.i64 (iN x)), AV.s (SV.int IntKind.i64 (iF x)), AV.s (SV.int IntKind.u8 (iW x)), AV.s (SV.str (iC x))] (31 : Nat), AObj.own [AV.s (SV.str (nN n)), AV.s (SV.int IntKind.u8 (nK n)), AV.s (SV.int IntKind.i64 (nI n)), AV.s (SV.int IntKind.i64 (nO n)), AV.s (SV.int IntKind.u8 (nE n)), AV.s (SV.str (nY n)), AV.s (SV.str (nT n)), AV.s (SV.str (nS n)), AV.s (SV.bool (nB n)), AV.s (SV.ro (Con.typ cV (nV n))), AV.s (SV.ro (Con.strs (nZ n)))] (45 : Nat), AObj.own [AV.s (SV.str (pN (getP ps (iP x)))), AV.s (SV.ro (Con.typ cV (pV (getP ps (iP x))))), AV.s (SV.ro (Con.typ cN (pO (getP ps (iP x))))), AV.s (SV.ro (Con.typ cF (pF (getP ps (iP x)))))] (40 : Nat), AObj.vec (Con.ints IntKind.i64 (kidsF (esOf is) (iI x))) (3 : Nat)] (AV.s (SV.blit true))) (Tree.ite ((↑(kidsF (esOf is) (iI x)).length : Int) == (1 : Int)) (Tree.ret [AObj.own [AV.s (SV.int IntKind.i64 ck), AV.s (SV.int IntKind.i64 nx), AV.s (SV.ro (Con.typ cP ps)), AV.s (SV.ro (Con.typ cI is)), AV.s (SV.ro (Con.typ cC cs)), AV.s (SV.ro (Con.typ cW ws))] (27 : Nat), AObj.own [AV.s (SV.int IntKind.i64 (iI x)), AV.s (SV.int IntKind.i64 (iU x)), AV.s (SV.int IntKind.u8 (iS x)), AV.s (SV.str (iP x)), AV.s (SV.int IntKind.i64 (iN x)), AV.s (SV.int IntKind.i64 (iF x)), AV.s (SV.int IntKind.u8 (iW x)), AV.s (SV.str (iC x))] (31 : Nat), AObj.own [AV.s (SV.str (nN n)), AV.s (SV.int IntKind.u8 (nK n)), AV.s (SV.int IntKind.i64 (nI n)), AV.s (SV.int IntKind.i64 (nO n)), AV.s (SV.int IntKind.u8 (nE n)), AV.s (SV.str (nY n)), AV.s (SV.str (nT n)), AV.s (SV.str (nS n)), AV.s (SV.bool (nB n)), AV.s (SV.ro (Con.typ cV (nV n))), AV.s (SV.ro (Con.strs (nZ n)))] (45 : Nat), AObj.own [AV.s (SV.str (pN (getP ps (iP x)))), AV.s (SV.ro (Con.typ cV (pV (getP ps (iP x))))), AV.s (SV.ro (Con.typ cN (pO (getP ps (iP x))))), AV.s (SV.ro (Con.typ cF (pF (getP ps (iP x)))))] (40 : Nat), AObj.vec (Con.ints IntKind.i64 (kidsF (esOf is) (iI x))) (3 : Nat)] (AV.s (SV.bool (iW x == (3 : Int))))) (Tree.ret [AObj.own [AV.s (SV.int IntKind.i64 ck), AV.s (SV.int IntKind.i64 nx), AV.s (SV.ro (Con.typ cP ps)), AV.s (SV.ro (Con.typ cI is)), AV.s (SV.ro (Con.typ cC cs)), AV.s (SV.ro (Con.typ cW ws))] (27 : Nat), AObj.own [AV.s (SV.int IntKind.i64 (iI x)), AV.s (SV.int IntKind.i64 (iU x)), AV.s (SV.int IntKind.u8 (iS x)), AV.s (SV.str (iP x)), AV.s (SV.int IntKind.i64 (iN x)), AV.s (SV.int IntKind.i64 (iF x)), AV.s (SV.int IntKind.u8 (iW x)), AV.s (SV.str (iC x))] (31 : Nat), AObj.own [AV.s (SV.str (nN n)), AV.s (SV.int IntKind.u8 (nK n)), AV.s (SV.int IntKind.i64 (nI n)), AV.s (SV.int IntKind.i64 (nO n)), AV.s (SV.int IntKind.u8 (nE n)), AV.s (SV.str (nY n)), AV.s (SV.str (nT n)), AV.s (SV.str (nS n)), AV.s (SV.bool (nB n)), AV.s (SV.ro (Con.typ cV (nV n))), AV.s (SV.ro (Con.strs (nZ n)))] (45 : Nat), AObj.own [AV.s (SV.str (pN (getP ps (iP x)))), AV.s (SV.ro (Con.typ cV (pV (getP ps (iP x))))), AV.s (SV.ro (Con.typ cN (pO (getP ps (iP x))))), AV.s (SV.ro (Con.typ cF (pF (getP ps (iP x)))))] (40 : Nat), AObj.vec (Con.ints IntKind.i64 (kidsF (esOf is) (iI x))) (3 : Nat)] (AV.s (SV.blit false)))))
          (Tree.ite ((↑(kidsF (esOf is) (iI x)).length : Int) == (1 : Int)) (Tree.ret [AObj.own [AV.s (SV.int IntKind.i64 ck), AV.s (SV.int IntKind.i64 nx), AV.s (SV.ro (Con.typ cP ps)), AV.s (SV.ro (Con.typ cI is)), AV.s (SV.ro (Con.typ cC cs)), AV.s (SV.ro (Con.typ cW ws))] (27 : Nat), AObj.own [AV.s (SV.int IntKind.i64 (iI x)), AV.s (SV.int IntKind.i64 (iU x)), AV.s (SV.int IntKind.u8 (iS x)), AV.s (SV.str (iP x)), AV.s (SV.int IntKind.i64 (iN x)), AV.s (SV.int IntKind.i64 (iF x)), AV.s (SV.int IntKind.u8 (iW x)), AV.s (SV.str (iC x))] (31 : Nat), AObj.own [AV.s (SV.str (nN n)), AV.s (SV.int IntKind.u8 (nK n)), AV.s (SV.int IntKind.i64 (nI n)), AV.s (SV.int IntKind.i64 (nO n)), AV.s (SV.int IntKind.u8 (nE n)), AV.s (SV.str (nY n)), AV.s (SV.str (nT n)), AV.s (SV.str (nS n)), AV.s (SV.bool (nB n)), AV.s (SV.ro (Con.typ cV (nV n))), AV.s (SV.ro (Con.strs (nZ n)))] (45 : Nat), AObj.own [AV.s (SV.str (pN (getP ps (iP x)))), AV.s (SV.ro (Con.typ cV (pV (getP ps (iP x))))), AV.s (SV.ro (Con.typ cN (pO (getP ps (iP x))))), AV.s (SV.ro (Con.typ cF (pF (getP ps (iP x)))))] (40 : Nat), AObj.vec (Con.ints IntKind.i64 (kidsF (esOf is) (iI x))) (3 : Nat)] (AV.s (SV.bool (iW x == (3 : Int))))) (Tree.ret [AObj.own [AV.s (SV.int IntKind.i64 ck), AV.s (SV.int IntKind.i64 nx), AV.s (SV.ro (Con.typ cP ps)), AV.s (SV.ro (Con.typ cI is)), AV.s (SV.ro (Con.typ cC cs)), AV.s (SV.ro (Con.typ cW ws))] (27 : Nat), AObj.own [AV.s (SV.int IntKind.i64 (iI x)), AV.s (SV.int IntKind.i64 (iU x)), AV.s (SV.int IntKind.u8 (iS x)), AV.s (SV.str (iP x)), AV.s (SV.int IntKind.i64 (iN x)), AV.s (SV.int IntKind.i64 (iF x)), AV.s (SV.int IntKind.u8 (iW x)), AV.s (SV.str (iC x))] (31 : Nat), AObj.own [AV.s (SV.str (nN n)), AV.s (SV.int IntKind.u8 (nK n)), AV.s (SV.int IntKind.i64 (nI n)), AV.s (SV.int IntKind.i64 (nO n)), AV.s (SV.int IntKind.u8 (nE n)), AV.s (SV.str (nY n)), AV.s (SV.str (nT n)), AV.s (SV.str (nS n)), AV.s (SV.bool (nB n)), AV.s (SV.ro (Con.typ cV (nV n))), AV.s (SV.ro (Con.strs (nZ n)))] (45 : Nat), AObj.own [AV.s (SV.str (pN (getP ps (iP x)))), AV.s (SV.ro (Con.typ cV (pV (getP ps (iP x))))), AV.s (SV.ro (Con.typ cN (pO (getP ps (iP x))))), AV.s (SV.ro (Con.typ cF (pF (getP ps (iP x)))))] (40 : Nat), AObj.vec (Con.ints IntKind.i64 (kidsF (esOf is) (iI x))) (3 : Nat)] (AV.s (SV.blit false)))))))) := by kernel_rfl
noncomputable def cTlD (ck nx : Int) (ps : Ps) (is : Is) (cs : Cs) (ws : Ws) (x : CL cI) : Cfg := ⟨sl 124 [(2, .ptr 0 0), (3, .ptr 1 0)], [obSt ck nx ps is cs ws, obIt x], hr Tryd.f34 7, {}⟩
theorem midTlD (S : Value → List Int → Prop) (ck nx : Int) (ps : Ps) (is : Is) (cs : Cs) (ws : Ws) (x : CL cI) : run P (tabTk S).sum Tryd.f34 nsTl (cTlD ck nx ps is cs ws x) =
  Tree.ite (iF x != (-1 : Int))
  (Tree.ite (decide (iF x < (0 : Int))) (Tree.ret [AObj.own [AV.s (SV.int IntKind.i64 ck), AV.s (SV.int IntKind.i64 nx), AV.s (SV.ro (Con.typ cP ps)), AV.s (SV.ro (Con.typ cI is)), AV.s (SV.ro (Con.typ cC cs)), AV.s (SV.ro (Con.typ cW ws))] (27 : Nat), AObj.own [AV.s (SV.int IntKind.i64 (iI x)), AV.s (SV.int IntKind.i64 (iU x)), AV.s (SV.int IntKind.u8 (iS x)), AV.s (SV.str (iP x)), AV.s (SV.int IntKind.i64 (iN x)), AV.s (SV.int IntKind.i64 (iF x)), AV.s (SV.int IntKind.u8 (iW x)), AV.s (SV.str (iC x))] (31 : Nat), AObj.own [AV.s (SV.str (pN (getP ps (iP x)))), AV.s (SV.ro (Con.typ cV (pV (getP ps (iP x))))), AV.s (SV.ro (Con.typ cN (pO (getP ps (iP x))))), AV.s (SV.ro (Con.typ cF (pF (getP ps (iP x)))))] (40 : Nat)] (AV.s (SV.blit false)))
    (Tree.ite (decide (iF x ≥ (↑(pF (getP ps (iP x))).length : Int))) (Tree.ret [AObj.own [AV.s (SV.int IntKind.i64 ck), AV.s (SV.int IntKind.i64 nx), AV.s (SV.ro (Con.typ cP ps)), AV.s (SV.ro (Con.typ cI is)), AV.s (SV.ro (Con.typ cC cs)), AV.s (SV.ro (Con.typ cW ws))] (27 : Nat), AObj.own [AV.s (SV.int IntKind.i64 (iI x)), AV.s (SV.int IntKind.i64 (iU x)), AV.s (SV.int IntKind.u8 (iS x)), AV.s (SV.str (iP x)), AV.s (SV.int IntKind.i64 (iN x)), AV.s (SV.int IntKind.i64 (iF x)), AV.s (SV.int IntKind.u8 (iW x)), AV.s (SV.str (iC x))] (31 : Nat), AObj.own [AV.s (SV.str (pN (getP ps (iP x)))), AV.s (SV.ro (Con.typ cV (pV (getP ps (iP x))))), AV.s (SV.ro (Con.typ cN (pO (getP ps (iP x))))), AV.s (SV.ro (Con.typ cF (pF (getP ps (iP x)))))] (40 : Nat)] (AV.s (SV.blit false)))
      (Tree.need ((0 : Int) ≤ iF x)
        (Tree.need (iF x < (↑(pF (getP ps (iP x))).length : Int))
          (Tree.ite (fB (el (pF (getP ps (iP x))) (iF x)) != iN x) (Tree.ret [AObj.own [AV.s (SV.int IntKind.i64 ck), AV.s (SV.int IntKind.i64 nx), AV.s (SV.ro (Con.typ cP ps)), AV.s (SV.ro (Con.typ cI is)), AV.s (SV.ro (Con.typ cC cs)), AV.s (SV.ro (Con.typ cW ws))] (27 : Nat), AObj.own [AV.s (SV.int IntKind.i64 (iI x)), AV.s (SV.int IntKind.i64 (iU x)), AV.s (SV.int IntKind.u8 (iS x)), AV.s (SV.str (iP x)), AV.s (SV.int IntKind.i64 (iN x)), AV.s (SV.int IntKind.i64 (iF x)), AV.s (SV.int IntKind.u8 (iW x)), AV.s (SV.str (iC x))] (31 : Nat), AObj.own [AV.s (SV.str (pN (getP ps (iP x)))), AV.s (SV.ro (Con.typ cV (pV (getP ps (iP x))))), AV.s (SV.ro (Con.typ cN (pO (getP ps (iP x))))), AV.s (SV.ro (Con.typ cF (pF (getP ps (iP x)))))] (40 : Nat)] (AV.s (SV.blit false)))
            (Tree.need (List.length is ≤ (1000000 : Nat))
              (Tree.ite ((↑(kidsF (esOf is) (iI x)).length : Int) == (0 : Int)) (Tree.ite (iW x != (3 : Int)) (Tree.ret [AObj.own [AV.s (SV.int IntKind.i64 ck), AV.s (SV.int IntKind.i64 nx), AV.s (SV.ro (Con.typ cP ps)), AV.s (SV.ro (Con.typ cI is)), AV.s (SV.ro (Con.typ cC cs)), AV.s (SV.ro (Con.typ cW ws))] (27 : Nat), AObj.own [AV.s (SV.int IntKind.i64 (iI x)), AV.s (SV.int IntKind.i64 (iU x)), AV.s (SV.int IntKind.u8 (iS x)), AV.s (SV.str (iP x)), AV.s (SV.int IntKind.i64 (iN x)), AV.s (SV.int IntKind.i64 (iF x)), AV.s (SV.int IntKind.u8 (iW x)), AV.s (SV.str (iC x))] (31 : Nat), AObj.own [AV.s (SV.str (pN (getP ps (iP x)))), AV.s (SV.ro (Con.typ cV (pV (getP ps (iP x))))), AV.s (SV.ro (Con.typ cN (pO (getP ps (iP x))))), AV.s (SV.ro (Con.typ cF (pF (getP ps (iP x)))))] (40 : Nat), AObj.vec (Con.ints IntKind.i64 (kidsF (esOf is) (iI x))) (3 : Nat)] (AV.s (SV.blit true))) (Tree.ite ((↑(kidsF (esOf is) (iI x)).length : Int) == (1 : Int)) (Tree.ret [AObj.own [AV.s (SV.int IntKind.i64 ck), AV.s (SV.int IntKind.i64 nx), AV.s (SV.ro (Con.typ cP ps)), AV.s (SV.ro (Con.typ cI is)), AV.s (SV.ro (Con.typ cC cs)), AV.s (SV.ro (Con.typ cW ws))] (27 : Nat), AObj.own [AV.s (SV.int IntKind.i64 (iI x)), AV.s (SV.int IntKind.i64 (iU x)), AV.s (SV.int IntKind.u8 (iS x)), AV.s (SV.str (iP x)), AV.s (SV.int IntKind.i64 (iN x)), AV.s (SV.int IntKind.i64 (iF x)), AV.s (SV.int IntKind.u8 (iW x)), AV.s (SV.str (iC x))] (31 : Nat), AObj.own [AV.s (SV.str (pN (getP ps (iP x)))), AV.s (SV.ro (Con.typ cV (pV (getP ps (iP x))))), AV.s (SV.ro (Con.typ cN (pO (getP ps (iP x))))), AV.s (SV.ro (Con.typ cF (pF (getP ps (iP x)))))] (40 : Nat), AObj.vec (Con.ints IntKind.i64 (kidsF (esOf is) (iI x))) (3 : Nat)] (AV.s (SV.bool (iW x == (3 : Int))))) (Tree.ret [AObj.own [AV.s (SV.int IntKind.i64 ck), AV.s (SV.int IntKind.i64 nx), AV.s (SV.ro (Con.typ cP ps)), AV.s (SV.ro (Con.typ cI is)), AV.s (SV.ro (Con.typ cC cs)), AV.s (SV.ro (Con.typ cW ws))] (27 : Nat), AObj.own [AV.s (SV.int IntKind.i64 (iI x)), AV.s (SV.int IntKind.i64 (iU x)), AV.s (SV.int IntKind.u8 (iS x)), AV.s (SV.str (iP x)), AV.s (SV.int IntKind.i64 (iN x)), AV.s (SV.int IntKind.i64 (iF x)), AV.s (SV.int IntKind.u8 (iW x)), AV.s (SV.str (iC x))] (31 : Nat), AObj.own [AV.s (SV.str (pN (getP ps (iP x)))), AV.s (SV.ro (Con.typ cV (pV (getP ps (iP x))))), AV.s (SV.ro (Con.typ cN (pO (getP ps (iP x))))), AV.s (SV.ro (Con.typ cF (pF (getP ps (iP x)))))] (40 : Nat), AObj.vec (Con.ints IntKind.i64 (kidsF (esOf is) (iI x))) (3 : Nat)] (AV.s (SV.blit false)))))
                (Tree.ite ((↑(kidsF (esOf is) (iI x)).length : Int) == (1 : Int)) (Tree.ret [AObj.own [AV.s (SV.int IntKind.i64 ck), AV.s (SV.int IntKind.i64 nx), AV.s (SV.ro (Con.typ cP ps)), AV.s (SV.ro (Con.typ cI is)), AV.s (SV.ro (Con.typ cC cs)), AV.s (SV.ro (Con.typ cW ws))] (27 : Nat), AObj.own [AV.s (SV.int IntKind.i64 (iI x)), AV.s (SV.int IntKind.i64 (iU x)), AV.s (SV.int IntKind.u8 (iS x)), AV.s (SV.str (iP x)), AV.s (SV.int IntKind.i64 (iN x)), AV.s (SV.int IntKind.i64 (iF x)), AV.s (SV.int IntKind.u8 (iW x)), AV.s (SV.str (iC x))] (31 : Nat), AObj.own [AV.s (SV.str (pN (getP ps (iP x)))), AV.s (SV.ro (Con.typ cV (pV (getP ps (iP x))))), AV.s (SV.ro (Con.typ cN (pO (getP ps (iP x))))), AV.s (SV.ro (Con.typ cF (pF (getP ps (iP x)))))] (40 : Nat), AObj.vec (Con.ints IntKind.i64 (kidsF (esOf is) (iI x))) (3 : Nat)] (AV.s (SV.bool (iW x == (3 : Int))))) (Tree.ret [AObj.own [AV.s (SV.int IntKind.i64 ck), AV.s (SV.int IntKind.i64 nx), AV.s (SV.ro (Con.typ cP ps)), AV.s (SV.ro (Con.typ cI is)), AV.s (SV.ro (Con.typ cC cs)), AV.s (SV.ro (Con.typ cW ws))] (27 : Nat), AObj.own [AV.s (SV.int IntKind.i64 (iI x)), AV.s (SV.int IntKind.i64 (iU x)), AV.s (SV.int IntKind.u8 (iS x)), AV.s (SV.str (iP x)), AV.s (SV.int IntKind.i64 (iN x)), AV.s (SV.int IntKind.i64 (iF x)), AV.s (SV.int IntKind.u8 (iW x)), AV.s (SV.str (iC x))] (31 : Nat), AObj.own [AV.s (SV.str (pN (getP ps (iP x)))), AV.s (SV.ro (Con.typ cV (pV (getP ps (iP x))))), AV.s (SV.ro (Con.typ cN (pO (getP ps (iP x))))), AV.s (SV.ro (Con.typ cF (pF (getP ps (iP x)))))] (40 : Nat), AObj.vec (Con.ints IntKind.i64 (kidsF (esOf is) (iI x))) (3 : Nat)] (AV.s (SV.blit false)))))))))))
  (Tree.need (List.length is ≤ (1000000 : Nat))
    (Tree.ite ((↑(kidsF (esOf is) (iI x)).length : Int) == (0 : Int)) (Tree.ite (iW x != (3 : Int)) (Tree.ret [AObj.own [AV.s (SV.int IntKind.i64 ck), AV.s (SV.int IntKind.i64 nx), AV.s (SV.ro (Con.typ cP ps)), AV.s (SV.ro (Con.typ cI is)), AV.s (SV.ro (Con.typ cC cs)), AV.s (SV.ro (Con.typ cW ws))] (27 : Nat), AObj.own [AV.s (SV.int IntKind.i64 (iI x)), AV.s (SV.int IntKind.i64 (iU x)), AV.s (SV.int IntKind.u8 (iS x)), AV.s (SV.str (iP x)), AV.s (SV.int IntKind.i64 (iN x)), AV.s (SV.int IntKind.i64 (iF x)), AV.s (SV.int IntKind.u8 (iW x)), AV.s (SV.str (iC x))] (31 : Nat), AObj.own [AV.s (SV.str (pN (getP ps (iP x)))), AV.s (SV.ro (Con.typ cV (pV (getP ps (iP x))))), AV.s (SV.ro (Con.typ cN (pO (getP ps (iP x))))), AV.s (SV.ro (Con.typ cF (pF (getP ps (iP x)))))] (40 : Nat), AObj.vec (Con.ints IntKind.i64 (kidsF (esOf is) (iI x))) (3 : Nat)] (AV.s (SV.blit true))) (Tree.ite ((↑(kidsF (esOf is) (iI x)).length : Int) == (1 : Int)) (Tree.ret [AObj.own [AV.s (SV.int IntKind.i64 ck), AV.s (SV.int IntKind.i64 nx), AV.s (SV.ro (Con.typ cP ps)), AV.s (SV.ro (Con.typ cI is)), AV.s (SV.ro (Con.typ cC cs)), AV.s (SV.ro (Con.typ cW ws))] (27 : Nat), AObj.own [AV.s (SV.int IntKind.i64 (iI x)), AV.s (SV.int IntKind.i64 (iU x)), AV.s (SV.int IntKind.u8 (iS x)), AV.s (SV.str (iP x)), AV.s (SV.int IntKind.i64 (iN x)), AV.s (SV.int IntKind.i64 (iF x)), AV.s (SV.int IntKind.u8 (iW x)), AV.s (SV.str (iC x))] (31 : Nat), AObj.own [AV.s (SV.str (pN (getP ps (iP x)))), AV.s (SV.ro (Con.typ cV (pV (getP ps (iP x))))), AV.s (SV.ro (Con.typ cN (pO (getP ps (iP x))))), AV.s (SV.ro (Con.typ cF (pF (getP ps (iP x)))))] (40 : Nat), AObj.vec (Con.ints IntKind.i64 (kidsF (esOf is) (iI x))) (3 : Nat)] (AV.s (SV.bool (iW x == (3 : Int))))) (Tree.ret [AObj.own [AV.s (SV.int IntKind.i64 ck), AV.s (SV.int IntKind.i64 nx), AV.s (SV.ro (Con.typ cP ps)), AV.s (SV.ro (Con.typ cI is)), AV.s (SV.ro (Con.typ cC cs)), AV.s (SV.ro (Con.typ cW ws))] (27 : Nat), AObj.own [AV.s (SV.int IntKind.i64 (iI x)), AV.s (SV.int IntKind.i64 (iU x)), AV.s (SV.int IntKind.u8 (iS x)), AV.s (SV.str (iP x)), AV.s (SV.int IntKind.i64 (iN x)), AV.s (SV.int IntKind.i64 (iF x)), AV.s (SV.int IntKind.u8 (iW x)), AV.s (SV.str (iC x))] (31 : Nat), AObj.own [AV.s (SV.str (pN (getP ps (iP x)))), AV.s (SV.ro (Con.typ cV (pV (getP ps (iP x))))), AV.s (SV.ro (Con.typ cN (pO (getP ps (iP x))))), AV.s (SV.ro (Con.typ cF (pF (getP ps (iP x)))))] (40 : Nat), AObj.vec (Con.ints IntKind.i64 (kidsF (esOf is) (iI x))) (3 : Nat)] (AV.s (SV.blit false)))))
      (Tree.ite ((↑(kidsF (esOf is) (iI x)).length : Int) == (1 : Int)) (Tree.ret [AObj.own [AV.s (SV.int IntKind.i64 ck), AV.s (SV.int IntKind.i64 nx), AV.s (SV.ro (Con.typ cP ps)), AV.s (SV.ro (Con.typ cI is)), AV.s (SV.ro (Con.typ cC cs)), AV.s (SV.ro (Con.typ cW ws))] (27 : Nat), AObj.own [AV.s (SV.int IntKind.i64 (iI x)), AV.s (SV.int IntKind.i64 (iU x)), AV.s (SV.int IntKind.u8 (iS x)), AV.s (SV.str (iP x)), AV.s (SV.int IntKind.i64 (iN x)), AV.s (SV.int IntKind.i64 (iF x)), AV.s (SV.int IntKind.u8 (iW x)), AV.s (SV.str (iC x))] (31 : Nat), AObj.own [AV.s (SV.str (pN (getP ps (iP x)))), AV.s (SV.ro (Con.typ cV (pV (getP ps (iP x))))), AV.s (SV.ro (Con.typ cN (pO (getP ps (iP x))))), AV.s (SV.ro (Con.typ cF (pF (getP ps (iP x)))))] (40 : Nat), AObj.vec (Con.ints IntKind.i64 (kidsF (esOf is) (iI x))) (3 : Nat)] (AV.s (SV.bool (iW x == (3 : Int))))) (Tree.ret [AObj.own [AV.s (SV.int IntKind.i64 ck), AV.s (SV.int IntKind.i64 nx), AV.s (SV.ro (Con.typ cP ps)), AV.s (SV.ro (Con.typ cI is)), AV.s (SV.ro (Con.typ cC cs)), AV.s (SV.ro (Con.typ cW ws))] (27 : Nat), AObj.own [AV.s (SV.int IntKind.i64 (iI x)), AV.s (SV.int IntKind.i64 (iU x)), AV.s (SV.int IntKind.u8 (iS x)), AV.s (SV.str (iP x)), AV.s (SV.int IntKind.i64 (iN x)), AV.s (SV.int IntKind.i64 (iF x)), AV.s (SV.int IntKind.u8 (iW x)), AV.s (SV.str (iC x))] (31 : Nat), AObj.own [AV.s (SV.str (pN (getP ps (iP x)))), AV.s (SV.ro (Con.typ cV (pV (getP ps (iP x))))), AV.s (SV.ro (Con.typ cN (pO (getP ps (iP x))))), AV.s (SV.ro (Con.typ cF (pF (getP ps (iP x)))))] (40 : Nat), AObj.vec (Con.ints IntKind.i64 (kidsF (esOf is) (iI x))) (3 : Nat)] (AV.s (SV.blit false)))))) := by kernel_rfl
end Ds

namespace Ds
open Go Go.Sx Go.Proofs Lf
def scopeF (ps : Ps) (is : Is) (x : CL cI) : Bool :=
  (iF x == -1) && (iW x == 0) && decide (iC x = ByteArray.empty) && !decide (depthF is (iI x) > 12) && ((iN x == -1) || (hasN ps (iP x) (iN x) && scnF (nK (ndF ps (iP x) (iN x))))) &&
  (if iU x = 0 then iN x == -1
   else if gS is (iU x) = 1 then hasN ps (iP x) (iN x) && (nK (ndF ps (iP x) (iN x)) == 13) && decide (gP is (iU x) = iP x) && (nI (ndF ps (iP x) (iN x)) == gN is (iU x))
   else hasN ps (gP is (iU x)) (gN is (iU x)) && (gW is (iU x) == 3) &&
     (if iN x = -1 then (nK (ndF ps (gP is (iU x)) (gN is (iU x))) == 14) && decide (nY (ndF ps (gP is (iU x)) (gN is (iU x))) = iP x)
      else decide (gP is (iU x) = iP x) && (gN is (iU x) == iN x)))
def kidsN (is : Is) (x : CL cI) : Int := ((kidsF (esOf is) (iI x)).length : Int)
def tokT (ps : Ps) (is : Is) (x : CL cI) : Bool :=
  ((iF x == -1) || (!decide (iF x < 0) && !decide (iF x ≥ ((pF (getP ps (iP x))).length : Int)) && (fB (el (pF (getP ps (iP x))) (iF x)) == iN x))) &&
  (((kidsN is x == 0) && (iW x != 3)) || ((kidsN is x == 1) && (iW x == 3)))
def tokenF (ps : Ps) (is : Is) (x : CL cI) : Bool :=
  (gS is (iU x) == 1) && decide (gP is (iU x) = iP x) && hasN ps (iP x) (iN x) && (nI (ndF ps (iP x) (iN x)) == gN is (iU x)) && ((!decide (iC x = ByteArray.empty)) == (iW x == 6)) &&
  ((iW x == 1) || (kindsF (iW x)).contains (nK (ndF ps (iP x) (iN x)))) && tokT ps is x
abbrev gKi : Nat := 0
abbrev tKi : TypeId := 109
theorem ends_is {L : List AObj} {b c : Bool} (h : b = c) : Ends [tBool] (b, ()) L (.s (.bool c)) := by subst h; exact rfl
theorem ends_il {L : List AObj} {b c : Bool} (h : b = c) : Ends [tBool] (b, ()) L (.s (.blit c)) := by subst h; exact rfl
theorem sc0_ok {Z : Glob} : FnOk P Z 62 [tU8] [tBool] (fun _ => []) (fun (k, ()) => (scnF k, ())) := by
  refine fnOk_of_safe Tryd.func62 (by kernel_rfl) (by kernel_rfl) ?_
  rintro ⟨(k : Int), ⟨⟩⟩ _ _ X hX hz
  show Safe P 62 X (Ends [tBool] (scnF k, ())) _
  refine go hz hX tabAc_ok Tryd.func62 (trSc0 k) ?_
  exact ends_eq _ rfl (by kernel_rfl)
theorem tabSc_ok {Z : Glob} : tabSc.Ok P Z := Tab.Ok.cons node_ok.sumR (Tab.Ok.cons depth_ok.sum (Tab.Ok.cons sc0_ok.sum (Tab.Ok.cons find_ok.sum Tab.Ok.nil)))
theorem scope_ok {Z : Glob} : FnOk P Z 33 [tSt, tIt] [tBool] (fun _ => []) (fun ((_, _, ps, is, _, _, ()), x, ()) => (scopeF ps is x, ())) := by
  refine fnOk_of_safe Tryd.func33 (by kernel_rfl) (by kernel_rfl) ?_
  rintro ⟨⟨(ck : Int), (nx : Int), (ps : Ps), (is : Is), (cs : Cs), (ws : Ws), ⟨⟩⟩, (x : CL cI), ⟨⟩⟩ _ _ X hX hz
  show Safe P 33 X (Ends [tBool] (scopeF ps is x, ())) _
  have mid : ∀ n b, scopeF ps is x = (if gS is (iU x) = 1 then b && (nK n == 13) && decide (gP is (iU x) = iP x) && (nI n == gN is (iU x))
   else hasN ps (gP is (iU x)) (gN is (iU x)) && (gW is (iU x) == 3) &&
     (if iN x = -1 then (nK (ndF ps (gP is (iU x)) (gN is (iU x))) == 14) && decide (nY (ndF ps (gP is (iU x)) (gN is (iU x))) = iP x)
      else decide (gP is (iU x) = iP x) && (gN is (iU x) == iN x))) → Safe P 33 X (Ends [tBool] (scopeF ps is x, ())) (cSc ck nx ps is cs ws x n b) := by
    intro n b he
    rw [he]
    clear he
    refine go hz hX tabSc_ok Tryd.func33 (midSc ck nx ps is cs ws x n b) ?_
    generalize hasN ps (gP is (iU x)) (gN is (iU x)) = hb
    generalize ndF ps (gP is (iU x)) (gN is (iU x)) = md
    repeat' (with_reducible (first | refine h_eq ?_ | refine h_need ?_ ?_ | refine h_dec (fun _ => ?_) (fun _ => ?_) | refine h_beq (fun _ => ?_) (fun _ => ?_) | refine h_bne (fun _ => ?_) (fun _ => ?_) | refine h_tt ?_ | refine h_ff ?_ | refine h_not ?_ | refine h_ite (fun _ => ?_) (fun _ => ?_) | refine h_both (fun _ => ?_) (fun _ => ?_) | refine h_ret ?_ | refine h_at ?_))
    all_goals first | exact ends_is (by simp [*]) | exact ends_il (by simp [*]) | exact ends_is (by simp_all) | exact ends_il (by simp_all)
  refine go hz hX tabSc_ok Tryd.func33 (trSc ck nx ps is cs ws x) ?_
  repeat' (with_reducible (first | refine h_eq ?_ | refine h_need ?_ ?_ | refine h_dec (fun _ => ?_) (fun _ => ?_) | refine h_beq (fun _ => ?_) (fun _ => ?_) | refine h_bne (fun _ => ?_) (fun _ => ?_) | refine h_tt ?_ | refine h_ff ?_ | refine h_not ?_ | refine h_ite (fun _ => ?_) (fun _ => ?_) | refine h_both (fun _ => ?_) (fun _ => ?_) | refine h_ret ?_ | refine h_at ?_))
  all_goals first
    | exact mid _ _ (by unfold scopeF; simp [*])
    | exact ends_is (by unfold scopeF; simp [*])
    | exact ends_il (by unfold scopeF; simp [*])
    | skip
theorem tabTk_ok {Z : Glob} (KV : MapVar P Z gKi tKi kindsF) : (tabTk (fun v zs => ∃ n, v = KV.at_ n ∧ zs = kindsF n)).Ok P Z :=
  Tab.Ok.cons node_ok.sumR (Tab.Ok.cons find_ok.sum (Tab.Ok.cons (sumIf_ok (sumKV_ok KV h8_ok) h8_ok.sum) (Tab.Ok.cons def_ok.sumR (Tab.Ok.cons kids_ok.sum Tab.Ok.nil))))
theorem token_ok {Z : Glob} (KV : MapVar P Z gKi tKi kindsF) : FnOk P Z 34 [tSt, tIt] [tBool] (fun ((_, _, _, is, _, _, ()), _, ()) => [(is : Is).length ≤ 1000000]) (fun ((_, _, ps, is, _, _, ()), x, ()) => (tokenF ps is x, ())) := by
  refine fnOk_of_safe Tryd.func34 (by kernel_rfl) (by kernel_rfl) ?_
  rintro ⟨⟨(ck : Int), (nx : Int), (ps : Ps), (is : Is), (cs : Cs), (ws : Ws), ⟨⟩⟩, (x : CL cI), ⟨⟩⟩ _ ⟨(hl : is.length ≤ 1000000), _⟩ X hX hz
  show Safe P 34 X (Ends [tBool] (tokenF ps is x, ())) _
  have tailD : tokenF ps is x = tokT ps is x → Safe P 34 X (Ends [tBool] (tokenF ps is x, ())) (cTlD ck nx ps is cs ws x) := fun he => by
    rw [he]
    refine go hz hX (tabTk_ok KV) Tryd.func34 (midTlD _ ck nx ps is cs ws x) ?_
    unfold tokT kidsN
    clear he
    generalize ((kidsF (esOf is) (iI x)).length : Int) = L
    generalize el (pF (getP ps (iP x))) (iF x) = fl
    generalize ((pF (getP ps (iP x))).length : Int) = fn
    repeat' (with_reducible (first | refine h_eq ?_ | refine h_need ?_ ?_ | refine h_dec (fun _ => ?_) (fun _ => ?_) | refine h_beq (fun _ => ?_) (fun _ => ?_) | refine h_bne (fun _ => ?_) (fun _ => ?_) | refine h_tt ?_ | refine h_ff ?_ | refine h_not ?_ | refine h_ite (fun _ => ?_) (fun _ => ?_) | refine h_both (fun _ => ?_) (fun _ => ?_) | refine h_ret ?_ | refine h_at ?_))
    all_goals first | omega | exact ends_is (by simp [*]) | exact ends_il (by simp [*]) | exact ends_is (by simp_all) | exact ends_il (by simp_all)
  have tailC : iW x ≠ 1 → ∀ n v zs, (∃ k, v = KV.at_ k ∧ zs = kindsF k) → tokenF ps is x = (zs.contains (nK n) && tokT ps is x) → Safe P 34 X (Ends [tBool] (tokenF ps is x, ())) (cTlC2 ck nx ps is cs ws x n KV.m v zs) := fun hw n v zs hv he => by
    rw [he]
    refine go hz hX (tabTk_ok KV) Tryd.func34 (midTlC _ ck nx ps is cs ws x n KV.m v zs) ⟨hv, ?_⟩
    unfold tokT kidsN
    clear he hv
    generalize ((kidsF (esOf is) (iI x)).length : Int) = L
    generalize el (pF (getP ps (iP x))) (iF x) = fl
    generalize ((pF (getP ps (iP x))).length : Int) = fn
    generalize zs.contains (nK n) = b
    repeat' (with_reducible (first | refine h_eq ?_ | refine h_need ?_ ?_ | refine h_dec (fun _ => ?_) (fun _ => ?_) | refine h_beq (fun _ => ?_) (fun _ => ?_) | refine h_bne (fun _ => ?_) (fun _ => ?_) | refine h_tt ?_ | refine h_ff ?_ | refine h_not ?_ | refine h_ite (fun _ => ?_) (fun _ => ?_) | refine h_both (fun _ => ?_) (fun _ => ?_) | refine h_ret ?_ | refine h_at ?_))
    all_goals first | omega | exact ends_is (by simp [*]) | exact ends_il (by simp [*]) | exact ends_is (by simp_all) | exact ends_il (by simp_all)
  have tailB : iW x ≠ 1 → ∀ n, tokenF ps is x = ((kindsF (iW x)).contains (nK n) && tokT ps is x) → Safe P 34 X (Ends [tBool] (tokenF ps is x, ())) (cTlB ck nx ps is cs ws x n) := fun hw n he => by
    refine slot_blit_safe (t := 58) (b := true) rfl ?_
    refine gload_safe KV hz (d := 59) (by kernel_rfl) (by kernel_rfl) (by kernel_rfl) ?_
    refine go hz hX (tabTk_ok KV) Tryd.func34 (midTlB _ ck nx ps is cs ws x n KV.m) ?_
    refine slot_blit_safe (t := 58) (b := true) rfl ?_
    refine glook_safe KV hz (y := 59) (z := 61) (d := 62) (n := iW x) (by kernel_rfl) (by kernel_rfl) (by kernel_rfl) rfl rfl ?_
    exact tailC hw n _ _ ⟨iW x, rfl, rfl⟩ he
  have midA : ∀ n, tokenF ps is x = (((iW x == 1) || (kindsF (iW x)).contains (nK n)) && tokT ps is x) → Safe P 34 X (Ends [tBool] (tokenF ps is x, ())) (cTlA ck nx ps is cs ws x n) := fun n he => by
    refine go hz hX (tabTk_ok KV) Tryd.func34 (midTlA _ ck nx ps is cs ws x n) ⟨fun h => ?_, fun h => ?_⟩
    · have hw : iW x ≠ 1 := by simpa using h
      exact tailB hw n (by rw [he, show (iW x == 1) = false from beq_eq_false_iff_ne.2 hw, Bool.false_or])
    · have hw : iW x = 1 := by simpa using h
      exact tailD (by rw [he, show (iW x == 1) = true from beq_iff_eq.2 hw, Bool.true_or, Bool.true_and])
  refine go hz hX (tabTk_ok KV) Tryd.func34 (trTl _ ck nx ps is cs ws x) ?_
  repeat' (with_reducible (first | refine h_eq ?_ | refine h_need ?_ ?_ | refine h_dec (fun _ => ?_) (fun _ => ?_) | refine h_beq (fun _ => ?_) (fun _ => ?_) | refine h_bne (fun _ => ?_) (fun _ => ?_) | refine h_tt ?_ | refine h_ff ?_ | refine h_not ?_ | refine h_ite (fun _ => ?_) (fun _ => ?_) | refine h_both (fun _ => ?_) (fun _ => ?_) | refine h_ret ?_ | refine h_at ?_))
  all_goals first
    | exact midA _ (by unfold tokenF; simp [*])
    | exact midA _ (by unfold tokenF; simp_all)
    | exact ends_is (by unfold tokenF; simp [*])
    | exact ends_il (by unfold tokenF; simp [*])
    | exact ends_il (by unfold tokenF; simp_all)
end Ds

namespace Ds
open Go Go.Sx Go.Proofs Lf
abbrev fCf : FuncId := 31
abbrev inSd : List FuncId := [fCf, fIx, 32]
def nsSd : List (Nat × Norm) := [(5, ⟨[], [1, 3, 14, 15, 16], 0, []⟩), ((fIx + 1) * 100000 + 2, ⟨[], [0, 1, 7, 8, 29, 31, 42, 43, 44, 65], 0, []⟩), (14, ⟨[], [1, 48, 49, 50], 0, []⟩)]
abbrev sumScp := sumOf [tSt, tIt] [tBool] (fun _ => []) (fun ((_, _, ps, is, _, _, ()), x, ()) => (scopeF ps is x, ()))
abbrev sumTok := sumOf [tSt, tIt] [tBool] (fun ((_, _, _, is, _, _, ()), _, ()) => [(is : Is).length ≤ 1000000]) (fun ((_, _, ps, is, _, _, ()), x, ()) => (tokenF ps is x, ()))
def tabSd : Tab := [(14, sumDf), (33, sumScp), (34, sumTok)]
theorem trSd (ck nx : Int) (ps : Ps) (is : Is) (cs : Cs) (ws : Ws) : run P tabSd.sum Tryd.f12 nsSd (start Tryd.f12 [avSt ck nx ps is cs ws] []) inSd =
  Tree.ite (decide (nx < (0 : Int))) (Tree.ret [AObj.own [AV.s (SV.int IntKind.i64 ck), AV.s (SV.int IntKind.i64 nx), AV.s (SV.ro (Con.typ cP ps)), AV.s (SV.ro (Con.typ cI is)), AV.s (SV.ro (Con.typ cC cs)), AV.s (SV.ro (Con.typ cW ws))] (27 : Nat)] (AV.s (SV.blit false))) (Tree.at (Cfg.mk (sl (82 : Nat) [((1 : Nat), AV.ptr (0 : Nat) (0 : Nat)), ((3 : Nat), AV.s (SV.int IntKind.i64 (0 : Int))), ((14 : Nat), AV.s (SV.ro (Con.typ cI is))), ((15 : Nat), AV.s (SV.int IntKind.i64 (↑(List.length is) : Int))), ((16 : Nat), AV.s (SV.int IntKind.i64 (0 : Int)))]) [AObj.own [AV.s (SV.int IntKind.i64 ck), AV.s (SV.int IntKind.i64 nx), AV.s (SV.ro (Con.typ cP ps)), AV.s (SV.ro (Con.typ cI is)), AV.s (SV.ro (Con.typ cC cs)), AV.s (SV.ro (Con.typ cW ws))] (27 : Nat)] (hd Tryd.f12 (5 : Nat)) (Stk.mk none false (0 : Nat) [] (0 : Nat)))) := by kernel_rfl
noncomputable def cSd (ck nx : Int) (ps : Ps) (is : Is) (cs : Cs) (ws : Ws) (last i : Int) : Cfg := ⟨sl 82 [(1, .ptr 0 0), (3, avI last), (14, .s (.ro (.typ cI is))), (15, avI (is.length : Int)), (16, avI i)], [obSt ck nx ps is cs ws], hd Tryd.f12 5, {}⟩
theorem loopSd (ck nx : Int) (ps : Ps) (is : Is) (cs : Cs) (ws : Ws) (last i : Int) : run P tabSd.sum Tryd.f12 nsSd (cSd ck nx ps is cs ws last i) inSd =
  Tree.ite (decide (i < (↑(List.length is) : Int))) (Tree.need ((0 : Int) ≤ i) (Tree.need (i < (↑(List.length is) : Int)) (Tree.ite (decide (iI (el is i) ≤ last)) (Tree.ret [AObj.own [AV.s (SV.int IntKind.i64 ck), AV.s (SV.int IntKind.i64 nx), AV.s (SV.ro (Con.typ cP ps)), AV.s (SV.ro (Con.typ cI is)), AV.s (SV.ro (Con.typ cC cs)), AV.s (SV.ro (Con.typ cW ws))] (27 : Nat), AObj.own [AV.s (SV.int IntKind.i64 (iI (el is i))), AV.s (SV.int IntKind.i64 (iU (el is i))), AV.s (SV.int IntKind.u8 (iS (el is i))), AV.s (SV.str (iP (el is i))), AV.s (SV.int IntKind.i64 (iN (el is i))), AV.s (SV.int IntKind.i64 (iF (el is i))), AV.s (SV.int IntKind.u8 (iW (el is i))), AV.s (SV.str (iC (el is i)))] (31 : Nat)] (AV.s (SV.blit false))) (Tree.ite (decide (iI (el is i) > nx)) (Tree.ret [AObj.own [AV.s (SV.int IntKind.i64 ck), AV.s (SV.int IntKind.i64 nx), AV.s (SV.ro (Con.typ cP ps)), AV.s (SV.ro (Con.typ cI is)), AV.s (SV.ro (Con.typ cC cs)), AV.s (SV.ro (Con.typ cW ws))] (27 : Nat), AObj.own [AV.s (SV.int IntKind.i64 (iI (el is i))), AV.s (SV.int IntKind.i64 (iU (el is i))), AV.s (SV.int IntKind.u8 (iS (el is i))), AV.s (SV.str (iP (el is i))), AV.s (SV.int IntKind.i64 (iN (el is i))), AV.s (SV.int IntKind.i64 (iF (el is i))), AV.s (SV.int IntKind.u8 (iW (el is i))), AV.s (SV.str (iC (el is i)))] (31 : Nat)] (AV.s (SV.blit false))) (Tree.ite (iU (el is i) != (0 : Int)) (Tree.need ((0 : Int) ≤ (0 : Int)) (Tree.need ((0 : Int) ≤ i) (Tree.need (i ≤ (↑(List.length is) : Int)) (Tree.at (Cfg.mk (sl (110 : Nat) [((0 : Nat), AV.s (SV.ro (Con.typ cI (List.drop (Int.toNat (0 : Int)) (List.take i.toNat is))))), ((1 : Nat), AV.fn (32 : Nat) [AV.ptr (0 : Nat) (0 : Nat)]), ((7 : Nat), AV.s (SV.int IntKind.i64 (↑(List.drop (Int.toNat (0 : Int)) (List.take i.toNat is)).length : Int))), ((8 : Nat), AV.s (SV.int IntKind.i64 (0 : Int))), ((29 : Nat), AV.ptr (1 : Nat) (0 : Nat)), ((31 : Nat), AV.s (SV.int IntKind.i64 (iI (el is i)))), ((42 : Nat), AV.s (SV.ro (Con.typ cI is))), ((43 : Nat), AV.s (SV.int IntKind.i64 (↑(List.length is) : Int))), ((44 : Nat), AV.s (SV.int IntKind.i64 i)), ((65 : Nat), AV.s (SV.bool true))]) [AObj.own [AV.s (SV.int IntKind.i64 (iI (el is i))), AV.s (SV.int IntKind.i64 (iU (el is i))), AV.s (SV.int IntKind.u8 (iS (el is i))), AV.s (SV.str (iP (el is i))), AV.s (SV.int IntKind.i64 (iN (el is i))), AV.s (SV.int IntKind.i64 (iF (el is i))), AV.s (SV.int IntKind.u8 (iW (el is i))), AV.s (SV.str (iC (el is i)))] (31 : Nat), AObj.own [AV.s (SV.int IntKind.i64 ck), AV.s (SV.int IntKind.i64 nx), AV.s (SV.ro (Con.typ cP ps)), AV.s (SV.ro (Con.typ cI is)), AV.s (SV.ro (Con.typ cC cs)), AV.s (SV.ro (Con.typ cW ws))] (27 : Nat)] (hd Tryd.f60 (2 : Nat)) (Stk.mk (some (60 : Nat)) false (0 : Nat) [inCall Tryd.f31 (some (31 : Nat)) (1 : Nat) (2 : Nat) false (0 : Nat), inCall Tryd.f12 none (10 : Nat) (9 : Nat) false (0 : Nat)] (0 : Nat))))))) (Tree.need (inI64 (i + (1 : Int))) (Tree.at (Cfg.mk (sl (82 : Nat) [((1 : Nat), AV.ptr (0 : Nat) (0 : Nat)), ((3 : Nat), AV.s (SV.int IntKind.i64 (iI (el is i)))), ((14 : Nat), AV.s (SV.ro (Con.typ cI is))), ((15 : Nat), AV.s (SV.int IntKind.i64 (↑(List.length is) : Int))), ((16 : Nat), AV.s (SV.int IntKind.i64 (i + (1 : Int))))]) [AObj.own [AV.s (SV.int IntKind.i64 ck), AV.s (SV.int IntKind.i64 nx), AV.s (SV.ro (Con.typ cP ps)), AV.s (SV.ro (Con.typ cI is)), AV.s (SV.ro (Con.typ cC cs)), AV.s (SV.ro (Con.typ cW ws))] (27 : Nat)] (hd Tryd.f12 (5 : Nat)) (Stk.mk none false (0 : Nat) [] (0 : Nat)))))))))) (Tree.at (Cfg.mk (sl (82 : Nat) [((1 : Nat), AV.ptr (0 : Nat) (0 : Nat)), ((48 : Nat), AV.s (SV.ro (Con.typ cI is))), ((49 : Nat), AV.s (SV.int IntKind.i64 (↑(List.length is) : Int))), ((50 : Nat), AV.s (SV.int IntKind.i64 (0 : Int)))]) [AObj.own [AV.s (SV.int IntKind.i64 ck), AV.s (SV.int IntKind.i64 nx), AV.s (SV.ro (Con.typ cP ps)), AV.s (SV.ro (Con.typ cI is)), AV.s (SV.ro (Con.typ cC cs)), AV.s (SV.ro (Con.typ cW ws))] (27 : Nat)] (hd Tryd.f12 (14 : Nat)) (Stk.mk none false (0 : Nat) [] (0 : Nat)))) := by kernel_rfl
noncomputable def cSe (ck nx : Int) (ps : Ps) (is : Is) (cs : Cs) (ws : Ws) (i : Int) : Cfg := ⟨sl 82 [(1, .ptr 0 0), (48, .s (.ro (.typ cI is))), (49, avI (is.length : Int)), (50, avI i)], [obSt ck nx ps is cs ws], hd Tryd.f12 14, {}⟩
theorem loopSe (ck nx : Int) (ps : Ps) (is : Is) (cs : Cs) (ws : Ws) (i : Int) : run P tabSd.sum Tryd.f12 nsSd (cSe ck nx ps is cs ws i) inSd =
  Tree.ite (decide (i < (↑(List.length is) : Int)))
  (Tree.need ((0 : Int) ≤ i)
    (Tree.need (i < (↑(List.length is) : Int))
      (Tree.ite (!hasP ps (iP (el is i))) (Tree.ret [AObj.own [AV.s (SV.int IntKind.i64 ck), AV.s (SV.int IntKind.i64 nx), AV.s (SV.ro (Con.typ cP ps)), AV.s (SV.ro (Con.typ cI is)), AV.s (SV.ro (Con.typ cC cs)), AV.s (SV.ro (Con.typ cW ws))] (27 : Nat), AObj.own [AV.s (SV.int IntKind.i64 (iI (el is i))), AV.s (SV.int IntKind.i64 (iU (el is i))), AV.s (SV.int IntKind.u8 (iS (el is i))), AV.s (SV.str (iP (el is i))), AV.s (SV.int IntKind.i64 (iN (el is i))), AV.s (SV.int IntKind.i64 (iF (el is i))), AV.s (SV.int IntKind.u8 (iW (el is i))), AV.s (SV.str (iC (el is i)))] (31 : Nat), AObj.own [AV.s (SV.str (pN (getP ps (iP (el is i))))), AV.s (SV.ro (Con.typ cV (pV (getP ps (iP (el is i)))))), AV.s (SV.ro (Con.typ cN (pO (getP ps (iP (el is i)))))), AV.s (SV.ro (Con.typ cF (pF (getP ps (iP (el is i))))))] (40 : Nat)] (AV.s (SV.blit false)))
        (Tree.ite (iS (el is i) == (1 : Int)) (Tree.ite (!scopeF ps is (iI (el is i), iU (el is i), iS (el is i), iP (el is i), iN (el is i), iF (el is i), iW (el is i), iC (el is i), ())) (Tree.ret [AObj.own [AV.s (SV.int IntKind.i64 ck), AV.s (SV.int IntKind.i64 nx), AV.s (SV.ro (Con.typ cP ps)), AV.s (SV.ro (Con.typ cI is)), AV.s (SV.ro (Con.typ cC cs)), AV.s (SV.ro (Con.typ cW ws))] (27 : Nat), AObj.own [AV.s (SV.int IntKind.i64 (iI (el is i))), AV.s (SV.int IntKind.i64 (iU (el is i))), AV.s (SV.int IntKind.u8 (iS (el is i))), AV.s (SV.str (iP (el is i))), AV.s (SV.int IntKind.i64 (iN (el is i))), AV.s (SV.int IntKind.i64 (iF (el is i))), AV.s (SV.int IntKind.u8 (iW (el is i))), AV.s (SV.str (iC (el is i)))] (31 : Nat), AObj.own [AV.s (SV.str (pN (getP ps (iP (el is i))))), AV.s (SV.ro (Con.typ cV (pV (getP ps (iP (el is i)))))), AV.s (SV.ro (Con.typ cN (pO (getP ps (iP (el is i)))))), AV.s (SV.ro (Con.typ cF (pF (getP ps (iP (el is i))))))] (40 : Nat)] (AV.s (SV.blit false))) (Tree.need (inI64 (i + (1 : Int))) (Tree.at (Cfg.mk (sl (82 : Nat) [((1 : Nat), AV.ptr (0 : Nat) (0 : Nat)), ((48 : Nat), AV.s (SV.ro (Con.typ cI is))), ((49 : Nat), AV.s (SV.int IntKind.i64 (↑(List.length is) : Int))), ((50 : Nat), AV.s (SV.int IntKind.i64 (i + (1 : Int))))]) [AObj.own [AV.s (SV.int IntKind.i64 ck), AV.s (SV.int IntKind.i64 nx), AV.s (SV.ro (Con.typ cP ps)), AV.s (SV.ro (Con.typ cI is)), AV.s (SV.ro (Con.typ cC cs)), AV.s (SV.ro (Con.typ cW ws))] (27 : Nat)] (hd Tryd.f12 (14 : Nat)) (Stk.mk none false (0 : Nat) [] (0 : Nat)))))) (Tree.ite (iS (el is i) == (2 : Int)) (Tree.need (List.length is ≤ (1000000 : Nat)) (Tree.ite (!tokenF ps is (iI (el is i), iU (el is i), iS (el is i), iP (el is i), iN (el is i), iF (el is i), iW (el is i), iC (el is i), ())) (Tree.ret [AObj.own [AV.s (SV.int IntKind.i64 ck), AV.s (SV.int IntKind.i64 nx), AV.s (SV.ro (Con.typ cP ps)), AV.s (SV.ro (Con.typ cI is)), AV.s (SV.ro (Con.typ cC cs)), AV.s (SV.ro (Con.typ cW ws))] (27 : Nat), AObj.own [AV.s (SV.int IntKind.i64 (iI (el is i))), AV.s (SV.int IntKind.i64 (iU (el is i))), AV.s (SV.int IntKind.u8 (iS (el is i))), AV.s (SV.str (iP (el is i))), AV.s (SV.int IntKind.i64 (iN (el is i))), AV.s (SV.int IntKind.i64 (iF (el is i))), AV.s (SV.int IntKind.u8 (iW (el is i))), AV.s (SV.str (iC (el is i)))] (31 : Nat), AObj.own [AV.s (SV.str (pN (getP ps (iP (el is i))))), AV.s (SV.ro (Con.typ cV (pV (getP ps (iP (el is i)))))), AV.s (SV.ro (Con.typ cN (pO (getP ps (iP (el is i)))))), AV.s (SV.ro (Con.typ cF (pF (getP ps (iP (el is i))))))] (40 : Nat)] (AV.s (SV.blit false))) (Tree.need (inI64 (i + (1 : Int))) (Tree.at (Cfg.mk (sl (82 : Nat) [((1 : Nat), AV.ptr (0 : Nat) (0 : Nat)), ((48 : Nat), AV.s (SV.ro (Con.typ cI is))), ((49 : Nat), AV.s (SV.int IntKind.i64 (↑(List.length is) : Int))), ((50 : Nat), AV.s (SV.int IntKind.i64 (i + (1 : Int))))]) [AObj.own [AV.s (SV.int IntKind.i64 ck), AV.s (SV.int IntKind.i64 nx), AV.s (SV.ro (Con.typ cP ps)), AV.s (SV.ro (Con.typ cI is)), AV.s (SV.ro (Con.typ cC cs)), AV.s (SV.ro (Con.typ cW ws))] (27 : Nat)] (hd Tryd.f12 (14 : Nat)) (Stk.mk none false (0 : Nat) [] (0 : Nat))))))) (Tree.ret [AObj.own [AV.s (SV.int IntKind.i64 ck), AV.s (SV.int IntKind.i64 nx), AV.s (SV.ro (Con.typ cP ps)), AV.s (SV.ro (Con.typ cI is)), AV.s (SV.ro (Con.typ cC cs)), AV.s (SV.ro (Con.typ cW ws))] (27 : Nat), AObj.own [AV.s (SV.int IntKind.i64 (iI (el is i))), AV.s (SV.int IntKind.i64 (iU (el is i))), AV.s (SV.int IntKind.u8 (iS (el is i))), AV.s (SV.str (iP (el is i))), AV.s (SV.int IntKind.i64 (iN (el is i))), AV.s (SV.int IntKind.i64 (iF (el is i))), AV.s (SV.int IntKind.u8 (iW (el is i))), AV.s (SV.str (iC (el is i)))] (31 : Nat), AObj.own [AV.s (SV.str (pN (getP ps (iP (el is i))))), AV.s (SV.ro (Con.typ cV (pV (getP ps (iP (el is i)))))), AV.s (SV.ro (Con.typ cN (pO (getP ps (iP (el is i)))))), AV.s (SV.ro (Con.typ cF (pF (getP ps (iP (el is i))))))] (40 : Nat)] (AV.s (SV.blit false))))))))
  (Tree.ret [AObj.own [AV.s (SV.int IntKind.i64 ck), AV.s (SV.int IntKind.i64 nx), AV.s (SV.ro (Con.typ cP ps)), AV.s (SV.ro (Con.typ cI is)), AV.s (SV.ro (Con.typ cC cs)), AV.s (SV.ro (Con.typ cW ws))] (27 : Nat)] (AV.s (SV.bool (decide ((↑(List.length is) : Int) ≤ (160 : Int)))))) := by kernel_rfl
end Ds

namespace Ds
open Go Go.Sx Go.Proofs Lf
noncomputable def cSi (b : AV) (ck nx : Int) (ps : Ps) (is : Is) (cs : Cs) (ws : Ws) (l : Is) (x : CL cI) (last i k : Int) : Cfg := ⟨sl 110 [(0, .s (.ro (.typ cI l))), (1, .fn 32 [.ptr 0 0]), (7, avI (l.length : Int)), (8, avI k), (29, .ptr 1 0), (31, avI last), (42, .s (.ro (.typ cI is))), (43, avI (is.length : Int)), (44, avI i), (65, b)], [obIt x, obSt ck nx ps is cs ws], hd Tryd.f60 2, ⟨some fIx, false, 0, [inCall Tryd.f31 (some fCf) 1 2 false 0, inCall Tryd.f12 none 10 9 false 0], 0⟩⟩
theorem loopSi (ck nx : Int) (ps : Ps) (is : Is) (cs : Cs) (ws : Ws) (l : Is) (x : CL cI) (last i k : Int) : run P tabSd.sum Tryd.f12 nsSd (cSi (.s (.blit true)) ck nx ps is cs ws l x last i k) inSd =
  Tree.ite (decide (k < (↑(List.length l) : Int))) (Tree.need ((0 : Int) ≤ k) (Tree.need (k < (↑(List.length l) : Int)) (Tree.ite (iI (el l k) == iU x) (Tree.ite (!decide (k ≥ (0 : Int))) (Tree.ret [AObj.own [AV.s (SV.int IntKind.i64 (iI x)), AV.s (SV.int IntKind.i64 (iU x)), AV.s (SV.int IntKind.u8 (iS x)), AV.s (SV.str (iP x)), AV.s (SV.int IntKind.i64 (iN x)), AV.s (SV.int IntKind.i64 (iF x)), AV.s (SV.int IntKind.u8 (iW x)), AV.s (SV.str (iC x))] (31 : Nat), AObj.own [AV.s (SV.int IntKind.i64 ck), AV.s (SV.int IntKind.i64 nx), AV.s (SV.ro (Con.typ cP ps)), AV.s (SV.ro (Con.typ cI is)), AV.s (SV.ro (Con.typ cC cs)), AV.s (SV.ro (Con.typ cW ws))] (27 : Nat), AObj.own [AV.s (SV.int IntKind.i64 (iI (el l k))), AV.s (SV.int IntKind.i64 (iU (el l k))), AV.s (SV.int IntKind.u8 (iS (el l k))), AV.s (SV.str (iP (el l k))), AV.s (SV.int IntKind.i64 (iN (el l k))), AV.s (SV.int IntKind.i64 (iF (el l k))), AV.s (SV.int IntKind.u8 (iW (el l k))), AV.s (SV.str (iC (el l k)))] (31 : Nat)] (AV.s (SV.blit false))) (Tree.need (inI64 (i + (1 : Int))) (Tree.at (Cfg.mk (sl (82 : Nat) [((1 : Nat), AV.ptr (0 : Nat) (0 : Nat)), ((3 : Nat), AV.s (SV.int IntKind.i64 last)), ((14 : Nat), AV.s (SV.ro (Con.typ cI is))), ((15 : Nat), AV.s (SV.int IntKind.i64 (↑(List.length is) : Int))), ((16 : Nat), AV.s (SV.int IntKind.i64 (i + (1 : Int))))]) [AObj.own [AV.s (SV.int IntKind.i64 ck), AV.s (SV.int IntKind.i64 nx), AV.s (SV.ro (Con.typ cP ps)), AV.s (SV.ro (Con.typ cI is)), AV.s (SV.ro (Con.typ cC cs)), AV.s (SV.ro (Con.typ cW ws))] (27 : Nat)] (hd Tryd.f12 (5 : Nat)) (Stk.mk none false (0 : Nat) [] (0 : Nat)))))) (Tree.need (inI64 (k + (1 : Int))) (Tree.at (Cfg.mk (sl (110 : Nat) [((0 : Nat), AV.s (SV.ro (Con.typ cI l))), ((1 : Nat), AV.fn (32 : Nat) [AV.ptr (0 : Nat) (0 : Nat)]), ((7 : Nat), AV.s (SV.int IntKind.i64 (↑(List.length l) : Int))), ((8 : Nat), AV.s (SV.int IntKind.i64 (k + (1 : Int)))), ((29 : Nat), AV.ptr (1 : Nat) (0 : Nat)), ((31 : Nat), AV.s (SV.int IntKind.i64 last)), ((42 : Nat), AV.s (SV.ro (Con.typ cI is))), ((43 : Nat), AV.s (SV.int IntKind.i64 (↑(List.length is) : Int))), ((44 : Nat), AV.s (SV.int IntKind.i64 i)), ((65 : Nat), AV.s (SV.bool true))]) [AObj.own [AV.s (SV.int IntKind.i64 (iI x)), AV.s (SV.int IntKind.i64 (iU x)), AV.s (SV.int IntKind.u8 (iS x)), AV.s (SV.str (iP x)), AV.s (SV.int IntKind.i64 (iN x)), AV.s (SV.int IntKind.i64 (iF x)), AV.s (SV.int IntKind.u8 (iW x)), AV.s (SV.str (iC x))] (31 : Nat), AObj.own [AV.s (SV.int IntKind.i64 ck), AV.s (SV.int IntKind.i64 nx), AV.s (SV.ro (Con.typ cP ps)), AV.s (SV.ro (Con.typ cI is)), AV.s (SV.ro (Con.typ cC cs)), AV.s (SV.ro (Con.typ cW ws))] (27 : Nat)] (hd Tryd.f60 (2 : Nat)) (Stk.mk (some (60 : Nat)) false (0 : Nat) [inCall Tryd.f31 (some (31 : Nat)) (1 : Nat) (2 : Nat) false (0 : Nat), inCall Tryd.f12 none (10 : Nat) (9 : Nat) false (0 : Nat)] (0 : Nat)))))))) (Tree.ret [AObj.own [AV.s (SV.int IntKind.i64 (iI x)), AV.s (SV.int IntKind.i64 (iU x)), AV.s (SV.int IntKind.u8 (iS x)), AV.s (SV.str (iP x)), AV.s (SV.int IntKind.i64 (iN x)), AV.s (SV.int IntKind.i64 (iF x)), AV.s (SV.int IntKind.u8 (iW x)), AV.s (SV.str (iC x))] (31 : Nat), AObj.own [AV.s (SV.int IntKind.i64 ck), AV.s (SV.int IntKind.i64 nx), AV.s (SV.ro (Con.typ cP ps)), AV.s (SV.ro (Con.typ cI is)), AV.s (SV.ro (Con.typ cC cs)), AV.s (SV.ro (Con.typ cW ws))] (27 : Nat)] (AV.s (SV.blit false))) := by kernel_rfl
end Ds

namespace Ds
open Go Go.Sx Go.Proofs Lf
def idsG (nx : Int) : Is → Is → Int → Bool
  | _, [], _ => true
  | pre, x :: r, last => !decide (iI x ≤ last) && !decide (iI x > nx) && ((iU x == 0) || hasI pre (iU x)) && idsG nx (pre ++ [x]) r (iI x)
def okI (ps : Ps) (is : Is) (x : CL cI) : Bool := hasP ps (iP x) && (if iS x = 1 then scopeF ps is x else if iS x = 2 then tokenF ps is x else false)
def soundB (ps : Ps) (is : Is) : Bool := is.all (okI ps is) && decide ((is.length : Int) ≤ 160)
def soundF (nx : Int) (ps : Ps) (is : Is) : Bool := !decide (nx < 0) && idsG nx [] is 0 && soundB ps is
theorem has_iff' {is : Is} {a : Int} : hasI is a = true ↔ ∃ y ∈ is, iI y = a := by
  rcases place_range is a with ⟨e, h⟩ | ⟨h1, h2, h3, h4⟩
  · refine ⟨fun hh => ?_, fun ⟨y, hy, e2⟩ => absurd e2 (h y hy)⟩
    have := of_decide_eq_true hh; omega
  · exact ⟨fun _ => ⟨_, List.getElem_mem h3, h4⟩, fun _ => decide_eq_true h1⟩
theorem has_no {is : Is} {a : Int} : hasI is a = false ↔ ∀ y ∈ is, iI y ≠ a := by
  rw [← Bool.not_eq_true, has_iff']
  exact ⟨fun h y hy e => h ⟨y, hy, e⟩, fun h ⟨y, hy, e⟩ => h y hy e⟩
theorem ok_scp {ps : Ps} {is : Is} {x : CL cI} (h1 : hasP ps (iP x) = true) (h2 : iS x = 1) (h3 : scopeF ps is x = true) : okI ps is x = true := by
  unfold okI; rw [if_pos h2, h1, h3]; rfl
theorem ok_scpN {ps : Ps} {is : Is} {x : CL cI} (h2 : iS x = 1) (h3 : scopeF ps is x = false) : okI ps is x = false := by
  unfold okI; rw [if_pos h2, h3, Bool.and_false]
theorem ok_tok {ps : Ps} {is : Is} {x : CL cI} (h1 : hasP ps (iP x) = true) (h2 : iS x = 2) (h3 : tokenF ps is x = true) : okI ps is x = true := by
  unfold okI; rw [if_neg (by omega), if_pos h2, h1, h3]; rfl
theorem ok_tokN {ps : Ps} {is : Is} {x : CL cI} (h2 : iS x = 2) (h3 : tokenF ps is x = false) : okI ps is x = false := by
  unfold okI; rw [if_neg (by omega), if_pos h2, h3, Bool.and_false]
theorem ok_noP {ps : Ps} {is : Is} {x : CL cI} (h1 : hasP ps (iP x) = false) : okI ps is x = false := by
  unfold okI; rw [h1, Bool.false_and]
theorem ok_noI {ps : Ps} {is : Is} {x : CL cI} (h1 : iS x ≠ 1) (h2 : iS x ≠ 2) : okI ps is x = false := by
  unfold okI; rw [if_neg h1, if_neg h2, Bool.and_false]
theorem tabSd_ok {Z : Glob} (KV : MapVar P Z gKi tKi kindsF) : tabSd.Ok P Z := Tab.Ok.cons def_ok.sumR (Tab.Ok.cons scope_ok.sum (Tab.Ok.cons (token_ok KV).sum Tab.Ok.nil))
theorem sound_ok {Z : Glob} (KV : MapVar P Z gKi tKi kindsF) : FnOk P Z 12 [tSt] [tBool] (fun ((_, _, _, is, _, _, ()), ()) => [(is : Is).length ≤ 1000000]) (fun ((_, nx, ps, is, _, _, ()), ()) => (soundF nx ps is, ())) := by
  refine fnOk_of_safe Tryd.func12 (by kernel_rfl) (by kernel_rfl) ?_
  rintro ⟨⟨(ck : Int), (nx : Int), (ps : Ps), (is : Is), (cs : Cs), (ws : Ws), ⟨⟩⟩, ⟨⟩⟩ _ ⟨(hl : is.length ≤ 1000000), _⟩ X hX hz
  show Safe P 12 X (Ends [tBool] (soundF nx ps is, ())) _
  have loop2 : ∀ (j k : Nat), k + j = is.length → soundF nx ps is = ((is.drop k).all (okI ps is) && decide ((is.length : Int) ≤ 160)) → Safe P 12 X (Ends [tBool] (soundF nx ps is, ())) (cSe ck nx ps is cs ws (k : Int)) := by
    intro j
    induction j with
    | zero =>
      intro k hk he
      rw [List.drop_eq_nil_of_le (by omega), List.all_nil, Bool.true_and] at he
      refine go hz hX (tabSd_ok KV) Tryd.func12 (loopSe ck nx ps is cs ws k) ⟨fun h => absurd (of_decide_eq_true h) (by omega), fun _ => ?_⟩
      exact ends_is he
    | succ j ih =>
      intro k hk he
      have hlt : k < is.length := by omega
      rw [List.drop_eq_getElem_cons hlt, List.all_cons] at he
      refine go hz hX (tabSd_ok KV) Tryd.func12 (loopSe ck nx ps is cs ws k) ?_
      rw [el_lt hlt]
      generalize is[k] = x at he
      have next : okI ps is x = true → Safe P 12 X (Ends [tBool] (soundF nx ps is, ())) (cSe ck nx ps is cs ws ((k : Int) + 1)) := fun h => by
        rw [h, Bool.true_and] at he
        exact ih (k + 1) (by omega) he
      have stop : okI ps is x = false → soundF nx ps is = false := fun h => by rw [he, h]; rfl
      clear ih he
      repeat' (with_reducible (first | refine h_eq ?_ | refine h_need ?_ ?_ | refine h_dec (fun _ => ?_) (fun _ => ?_) | refine h_beq (fun _ => ?_) (fun _ => ?_) | refine h_bne (fun _ => ?_) (fun _ => ?_) | refine h_tt ?_ | refine h_ff ?_ | refine h_not ?_ | refine h_ite (fun _ => ?_) (fun _ => ?_) | refine h_both (fun _ => ?_) (fun _ => ?_) | refine h_ret ?_ | refine h_at ?_))
      all_goals first
        | omega
        | exact ⟨by omega, by omega⟩
        | exact next (ok_scp (by assumption) (by assumption) (by assumption))
        | exact next (ok_tok (by assumption) (by assumption) (by assumption))
        | exact ends_il (stop (ok_scpN (by assumption) (by assumption)))
        | exact ends_il (stop (ok_tokN (by assumption) (by assumption)))
        | exact ends_il (stop (ok_noP (by assumption)))
        | exact ends_il (stop (ok_noI (by assumption) (by assumption)))
        | skip
  have loop1 : ∀ (j k : Nat) (last : Int), k + j = is.length → soundF nx ps is = (idsG nx (is.take k) (is.drop k) last && soundB ps is) → Safe P 12 X (Ends [tBool] (soundF nx ps is, ())) (cSd ck nx ps is cs ws last (k : Int)) := by
    intro j
    induction j with
    | zero =>
      intro k last hk he
      rw [List.drop_eq_nil_of_le (by omega)] at he
      refine go hz hX (tabSd_ok KV) Tryd.func12 (loopSd ck nx ps is cs ws last k) ⟨fun h => absurd (of_decide_eq_true h) (by omega), fun _ => ?_⟩
      exact loop2 is.length 0 (by omega) (by rw [he]; rfl)
    | succ j ih =>
      intro k last hk he
      have hlt : k < is.length := by omega
      rw [List.drop_eq_getElem_cons hlt] at he
      have e0 : idsG nx (is.take k) (is[k] :: is.drop (k + 1)) last = (!decide (iI is[k] ≤ last) && !decide (iI is[k] > nx) && ((iU is[k] == 0) || hasI (is.take k) (iU is[k])) && idsG nx (is.take (k + 1)) (is.drop (k + 1)) (iI is[k])) := by
        rw [List.take_add_one, List.getElem?_eq_getElem hlt]; rfl
      rw [e0] at he
      have inner : ∀ (x : CL cI) (l : Is), x = is[k] → l = is.take k → (!decide (iI x ≤ last)) = true → (!decide (iI x > nx)) = true → (iU x == 0) = false → ∀ (m i : Nat) (b : AV), i + m = l.length → b = .s (.bool true) →
          (∀ q (h1 : q < i) (h2 : q < l.length), iI l[q] ≠ iU x) → Safe P 12 X (Ends [tBool] (soundF nx ps is, ())) (cSi b ck nx ps is cs ws l x (iI x) (k : Int) (i : Int)) := by
        intro x l hx hel h1 h2 h3 m
        have hll : l.length ≤ 1000000 := by rw [hel, List.length_take]; omega
        have he' : soundF nx ps is = ((hasI l (iU x) && idsG nx (is.take (k + 1)) (is.drop (k + 1)) (iI x)) && soundB ps is) := by
          rw [he, hx, hel]
          rw [hx] at h1 h2 h3
          rw [h1, h2, h3]; rfl
        induction m with
        | zero =>
          intro i b hm hb hi
          subst hb
          refine slot_blit_safe (t := 65) (b := true) rfl ?_
          refine go hz hX (tabSd_ok KV) Tryd.func12 (loopSi ck nx ps is cs ws l x (iI x) k i) ⟨fun h => absurd (of_decide_eq_true h) (by omega), fun _ => ?_⟩
          refine ends_il ?_
          rw [he', has_no.2 fun y hy => ?_]
          · rfl
          · obtain ⟨q, hq, rfl⟩ := List.mem_iff_getElem.1 hy
            exact hi q (by omega) hq
        | succ m im =>
          intro i b hm hb hi
          subst hb
          have hil : i < l.length := by omega
          refine slot_blit_safe (t := 65) (b := true) rfl ?_
          refine go hz hX (tabSd_ok KV) Tryd.func12 (loopSi ck nx ps is cs ws l x (iI x) k i) (yes_and (decide_eq_true (by omega)) ⟨by omega, by omega, ?_⟩)
          rw [el_lt hil]
          cases hq : (iI l[i] == iU x) with
          | true =>
            rw [has_iff'.2 ⟨_, List.getElem_mem hil, beq_iff_eq.1 hq⟩, Bool.true_and] at he'
            refine yes_and rfl (no_and (by rw [decide_eq_true (by omega)]; rfl) ⟨⟨by omega, by omega⟩, ?_⟩)
            exact ih (k + 1) (iI x) (by omega) he'
          | false =>
            refine no_and rfl ⟨⟨by omega, by omega⟩, ?_⟩
            refine im (i + 1) _ (by omega) rfl fun q h1 h2 => ?_
            by_cases e : q = i
            · subst e; exact fun hh => by rw [hh, beq_self_eq_true] at hq; cases hq
            · exact hi q (by omega) h2
      refine go hz hX (tabSd_ok KV) Tryd.func12 (loopSd ck nx ps is cs ws last k) ?_
      rw [el_lt hlt]
      have inn := inner _ _ rfl rfl
      have next := ih (k + 1) (iI is[k]) (by omega)
      clear ih inner e0
      generalize is[k] = x at *
      repeat' (with_reducible (first | refine h_eq ?_ | refine h_need ?_ ?_ | refine h_dec (fun _ => ?_) (fun _ => ?_) | refine h_beq (fun _ => ?_) (fun _ => ?_) | refine h_bne (fun _ => ?_) (fun _ => ?_) | refine h_tt ?_ | refine h_ff ?_ | refine h_not ?_ | refine h_ite (fun _ => ?_) (fun _ => ?_) | refine h_both (fun _ => ?_) (fun _ => ?_) | refine h_ret ?_ | refine h_at ?_))
      all_goals first
        | omega
        | exact ⟨by omega, by omega⟩
        | exact ends_il (by rw [he]; simp_all)
        | exact next (by rw [he, decide_eq_false (show ¬ iI x ≤ last by omega), decide_eq_false (show ¬ iI x > nx by omega), (by assumption : iU x = 0)]; rfl)
        | exact inn (by rw [decide_eq_false (show ¬ iI x ≤ last by omega)]; rfl) (by rw [decide_eq_false (show ¬ iI x > nx by omega)]; rfl) (beq_eq_false_iff_ne.2 (by assumption)) _ 0 _ (Nat.zero_add _) rfl (fun q h => absurd h (Nat.not_lt_zero _))
        | skip
  refine go hz hX (tabSd_ok KV) Tryd.func12 (trSd ck nx ps is cs ws) ⟨fun h => ?_, fun h => ?_⟩
  · refine ends_il ?_
    unfold soundF; rw [h]; rfl
  · refine loop1 is.length 0 0 (by omega) ?_
    unfold soundF; rw [h]; rfl
end Ds

namespace Ds
open Go Go.Sx Go.Proofs Lf
theorem kinds_rows : ∀ x ∈ ([(2, [3]), (3, [11, 12, 14]), (4, [6, 10]), (5, [8, 9]), (6, [7, 9, 2])] : List (Int × List Int)), kindsF x.1 = x.2 := by decide
theorem kinds_no (n : Int) (h : ∀ x ∈ ([(2, [3]), (3, [11, 12, 14]), (4, [6, 10]), (5, [8, 9]), (6, [7, 9, 2])] : List (Int × List Int)), x.1 ≠ n) : kindsF n = [] := by
  simp only [List.mem_cons, List.not_mem_nil, or_false, forall_eq_or_imp, forall_eq] at h
  unfold kindsF
  rw [if_neg (by omega), if_neg (by omega), if_neg (by omega), if_neg (by omega), if_neg (by omega)]
/-- IDs rise, and each Up stands ahead. -/
structure Trees (nx : Int) (is : Is) : Prop where
  pos : ∀ x ∈ is, 0 < iI x ∧ iI x ≤ nx
  ris : is.Pairwise (fun x y => iI x < iI y)
  up : ∀ x ∈ is, iU x = 0 ∨ ∃ y ∈ is, iI y = iU x ∧ iI y < iI x
theorem idsG_iff {nx : Int} : ∀ (r pre : Is) (last : Int), (∀ y ∈ pre, iI y ≤ last) →
    (idsG nx pre r last = true ↔ (∀ x ∈ r, last < iI x ∧ iI x ≤ nx) ∧ r.Pairwise (fun x y => iI x < iI y) ∧ ∀ x ∈ r, iU x = 0 ∨ ∃ y ∈ pre ++ r, iI y = iU x ∧ iI y < iI x)
  | [], pre, last, _ => by simp [idsG]
  | x :: r, pre, last, hp => by
    have hpre : iI x > last → ∀ y ∈ pre ++ [x], iI y ≤ iI x := fun hx y hy => by
      rcases List.mem_append.1 hy with h | h
      · have := hp y h; omega
      · rw [List.mem_singleton.1 h]; exact Int.le_refl _
    unfold idsG
    simp only [Bool.and_eq_true, Bool.not_eq_true', decide_eq_false_iff_not, Bool.or_eq_true, beq_iff_eq]
    constructor
    · rintro ⟨⟨⟨h1, h2⟩, h3⟩, h4⟩
      obtain ⟨g1, g2, g3⟩ := (idsG_iff r (pre ++ [x]) (iI x) (hpre (by omega))).1 h4
      refine ⟨fun y hy => ?_, List.pairwise_cons.2 ⟨fun y hy => (g1 y hy).1, g2⟩, fun y hy => ?_⟩
      · rcases List.mem_cons.1 hy with rfl | hy
        · omega
        · have := g1 y hy; omega
      · rcases List.mem_cons.1 hy with rfl | hy
        · rcases h3 with h3 | h3
          · exact .inl h3
          · obtain ⟨z, hz, e⟩ := has_iff'.1 h3
            have := hp z hz
            exact .inr ⟨z, List.mem_append.2 (.inl hz), e, by omega⟩
        · rcases g3 y hy with h | ⟨z, hz, e⟩
          · exact .inl h
          · rw [List.append_assoc] at hz
            exact .inr ⟨z, hz, e⟩
    · rintro ⟨g1, g2, g3⟩
      obtain ⟨g4, g5⟩ := List.pairwise_cons.1 g2
      have hx := g1 x (List.mem_cons_self ..)
      refine ⟨⟨⟨by omega, by omega⟩, ?_⟩, (idsG_iff r (pre ++ [x]) (iI x) (hpre (by omega))).2 ⟨fun y hy => ⟨g4 y hy, (g1 y (List.mem_cons_of_mem _ hy)).2⟩, g5, fun y hy => ?_⟩⟩
      · rcases g3 x (List.mem_cons_self ..) with h | ⟨z, hz, e, hlt⟩
        · exact .inl h
        · refine .inr (has_iff'.2 ⟨z, ?_, e⟩)
          rcases List.mem_append.1 hz with h | h
          · exact h
          · rcases List.mem_cons.1 h with rfl | h
            · omega
            · have := g4 z h; omega
      · rcases g3 y (List.mem_cons_of_mem _ hy) with h | ⟨z, hz, e⟩
        · exact .inl h
        · exact .inr ⟨z, by rw [List.append_assoc]; exact hz, e⟩
theorem trees_iff {nx : Int} {is : Is} : idsG nx [] is 0 = true ↔ Trees nx is := by
  rw [idsG_iff is [] 0 (fun y hy => by cases hy)]
  exact ⟨fun ⟨a, b, c⟩ => ⟨a, b, c⟩, fun h => ⟨h.pos, h.ris, h.up⟩⟩
structure Snd (nx : Int) (ps : Ps) (is : Is) : Prop where
  nx0 : 0 ≤ nx
  tr : Trees nx is
  ok : ∀ x ∈ is, okI ps is x = true
  len : is.length ≤ 160
theorem sound_iff {nx : Int} {ps : Ps} {is : Is} : soundF nx ps is = true ↔ Snd nx ps is := by
  unfold soundF soundB
  simp only [Bool.and_eq_true, Bool.not_eq_true', decide_eq_false_iff_not, List.all_eq_true, decide_eq_true_iff, trees_iff]
  exact ⟨fun ⟨⟨a, b⟩, c, d⟩ => ⟨by omega, b, c, by omega⟩, fun h => ⟨⟨by have := h.nx0; omega, h.tr⟩, h.ok, by have := h.len; omega⟩⟩
variable {nx : Int} {ps : Ps} {is is' : Is}
theorem Trees.inj (T : Trees nx is) {x y : CL cI} (hx : x ∈ is) (hy : y ∈ is) (e : iI x = iI y) : x = y := by
  obtain ⟨i, hi, rfl⟩ := List.mem_iff_getElem.1 hx
  obtain ⟨j, hj, rfl⟩ := List.mem_iff_getElem.1 hy
  have hp := List.pairwise_iff_getElem.1 T.ris
  rcases Nat.lt_trichotomy i j with h | h | h
  · have := hp i j hi hj h; omega
  · subst h; rfl
  · have := hp j i hj hi h; omega
theorem get_mem {id : Int} (h : hasI is id = true) : getI is id ∈ is ∧ iI (getI is id) = id := by
  obtain ⟨h1, h2⟩ := get_at' h
  exact ⟨List.mem_of_getElem? h1, h2⟩
theorem Trees.get (T : Trees nx is) {x : CL cI} (hx : x ∈ is) : hasI is (iI x) = true ∧ getI is (iI x) = x := by
  have h := has_iff'.2 ⟨x, hx, rfl⟩
  exact ⟨h, T.inj (get_mem h).1 hx (get_mem h).2⟩
theorem Trees.hi (T : Trees nx is) {id : Int} (h : nx < id) : hasI is id = false := has_no.2 fun y hy e => by have := (T.pos y hy).2; omega
theorem Trees.up_lt (T : Trees nx is) {id : Int} (h : hasI is id = true) : gU is id < id ∧ (gU is id = 0 ∨ hasI is (gU is id) = true) := by
  obtain ⟨h1, h2⟩ := get_mem h
  have h0 := (T.pos _ h1).1
  rcases T.up _ h1 with e | ⟨y, hy, e, hlt⟩
  · have e : gU is id = 0 := e
    exact ⟨by omega, .inl e⟩
  · have e : iI y = gU is id := e
    exact ⟨by omega, .inr (has_iff'.2 ⟨y, hy, e⟩)⟩
/-- how many stand up to one -/
def upTo (is : Is) (id : Int) : Nat := (is.filter fun x => decide (iI x ≤ id)).length
theorem upTo_le (is : Is) (id : Int) : upTo is id ≤ is.length := List.length_filter_le _ _
theorem filter_lt {α : Type} {p q : α → Bool} : ∀ {l : List α}, (∀ x ∈ l, p x = true → q x = true) → (∃ x ∈ l, p x = false ∧ q x = true) → (l.filter p).length < (l.filter q).length
  | [], _, ⟨x, hx, _⟩ => by cases hx
  | a :: l, hi, hx => by
    have h1 : ∀ x ∈ l, p x = true → q x = true := fun x hx => hi x (List.mem_cons_of_mem _ hx)
    have hle : (l.filter p).length ≤ (l.filter q).length := by
      rw [← List.countP_eq_length_filter, ← List.countP_eq_length_filter]
      exact List.countP_mono_left h1
    obtain ⟨x, hx, h2, h3⟩ := hx
    rcases List.mem_cons.1 hx with rfl | hx
    · rw [List.filter_cons, List.filter_cons, h2, h3]
      simp only [if_true, Bool.false_eq_true, if_false, List.length_cons]; omega
    · have ih := filter_lt h1 ⟨x, hx, h2, h3⟩
      have ha := hi a (List.mem_cons_self ..)
      rw [List.filter_cons, List.filter_cons]
      cases hp : p a with
      | true => rw [ha hp]; simp only [if_true, List.length_cons]; omega
      | false =>
        cases q a <;> simp only [Bool.false_eq_true, if_false, if_true, List.length_cons] <;> omega
theorem upTo_lt {a b : Int} (h : hasI is b = true) (hab : a < b) : upTo is a < upTo is b := by
  obtain ⟨y, hy, e⟩ := has_iff'.1 h
  exact filter_lt (fun x _ hx => by simp at hx ⊢; omega) ⟨y, hy, by simp; omega, by simp; omega⟩
theorem Trees.go (T : Trees nx is) : ∀ (n m : Nat) (id : Int) (s1 s2 : List Int), upTo is id < n → upTo is id < m → (∀ s ∈ s1, id < s) → (∀ s ∈ s2, id < s) → depthGo is n id s1 = depthGo is m id s2
  | 0, _, _, _, _, h, _, _, _ => by omega
  | _, 0, _, _, _, _, h, _, _ => by omega
  | n + 1, m + 1, id, s1, s2, hn, hm, h1, h2 => by
    rw [depthGo_succ is n id s1, depthGo_succ is m id s2]
    by_cases h : hasI is id = true
    · have g1 : id ∉ s1 := fun hh => by have := h1 id hh; omega
      have g2 : id ∉ s2 := fun hh => by have := h2 id hh; omega
      rw [if_pos (show hasI is id = true ∧ id ∉ s1 from ⟨h, g1⟩), if_pos (show hasI is id = true ∧ id ∉ s2 from ⟨h, g2⟩)]
      obtain ⟨hlt, _⟩ := T.up_lt h
      have hc := upTo_lt h hlt
      have hs : ∀ l : List Int, (∀ s ∈ l, id < s) → ∀ s ∈ l ++ [id], gU is id < s := fun l hl s hs => by
        rcases List.mem_append.1 hs with h | h
        · have := hl s h; omega
        · rw [List.mem_singleton.1 h]; exact hlt
      rw [T.go n m (gU is id) (s1 ++ [id]) (s2 ++ [id]) (by omega) (by omega) (hs _ h1) (hs _ h2)]
    · rw [if_neg (show ¬ (hasI is id = true ∧ id ∉ s1) from fun hh => h hh.1), if_neg (show ¬ (hasI is id = true ∧ id ∉ s2) from fun hh => h hh.1)]
theorem Trees.depth (T : Trees nx is) {id : Int} (h : hasI is id = true) : depthF is id = (if gS is id = 1 then 1 else 0) + depthF is (gU is id) := by
  obtain ⟨hlt, _⟩ := T.up_lt h
  have hc := upTo_lt h hlt
  have hle := upTo_le is id
  unfold depthF
  rw [depthGo_succ, if_pos ⟨h, by simp⟩, T.go is.length (is.length + 1) (gU is id) ([] ++ [id]) [] (by omega) (by omega) (fun s hs => by simp at hs; omega) (fun s hs => by cases hs)]
  split <;> simp
theorem depth_no {id : Int} (h : hasI is id = false) : depthF is id = 0 := by
  unfold depthF
  rw [depthGo_succ, if_neg (fun hh => by rw [h] at hh; cases hh.1)]; rfl
/-- Two forests that agree at what is closed upwards are as deep there. -/
theorem Trees.same (T : Trees nx is) {nx' : Int} (T' : Trees nx' is') {K : Int → Prop} (hK : ∀ id, K id → hasI is id = hasI is' id ∧ (hasI is id = true → getI is id = getI is' id ∧ K (gU is id))) :
    ∀ (n : Nat) (id : Int), id.toNat ≤ n → K id → depthF is id = depthF is' id
  | n, id, hn, hk => by
    obtain ⟨h1, h2⟩ := hK id hk
    by_cases h : hasI is id = true
    · obtain ⟨h3, h4⟩ := h2 h
      obtain ⟨hlt, _⟩ := T.up_lt h
      have h5 : hasI is' id = true := by rw [← h1]; exact h
      have hp : 0 < id := by have := (T.pos _ (get_mem h).1).1; rw [(get_mem h).2] at this; exact this
      have e1 : gS is id = gS is' id := congrArg iS h3
      have e2 : gU is id = gU is' id := congrArg iU h3
      match n, hn with
      | 0, hn => omega
      | n + 1, hn =>
        rw [T.depth h, T'.depth h5, ← e1, ← e2, T.same T' hK n (gU is id) (by omega) h4]
    · have h : hasI is id = false := by simpa using h
      rw [depth_no h, depth_no (by rw [← h1]; exact h)]
end Ds

namespace Ds
open Go Go.Sx Go.Proofs Lf
abbrev sumSd := sumOf [tSt] [tBool] (fun ((_, _, _, is, _, _, ()), ()) => [(is : Is).length ≤ 1000000]) (fun ((_, nx, ps, is, _, _, ()), ()) => (soundF nx ps is, ()))
end Ds

namespace Ds
open Go Go.Sx Go.Proofs Lf
variable {nx : Int} {ps : Ps} {is is' : Is}
variable {x : CL cI}
theorem Trees.add (T : Trees nx is) (h0 : 0 ≤ nx) (hi : iI x = nx + 1) (hu : iU x = 0 ∨ hasI is (iU x) = true) : Trees (nx + 1) (is ++ [x]) := by
  refine ⟨fun y hy => ?_, ?_, fun y hy => ?_⟩
  · rcases List.mem_append.1 hy with h | h
    · have := T.pos y h; omega
    · rw [List.mem_singleton.1 h]; omega
  · refine List.pairwise_append.2 ⟨T.ris, List.pairwise_singleton .., fun a ha b hb => ?_⟩
    rw [List.mem_singleton.1 hb]
    have := T.pos a ha; omega
  · rcases List.mem_append.1 hy with h | h
    · rcases T.up y h with e | ⟨z, hz, e⟩
      · exact .inl e
      · exact .inr ⟨z, List.mem_append.2 (.inl hz), e⟩
    · rw [List.mem_singleton.1 h]
      rcases hu with e | e
      · exact .inl e
      · obtain ⟨z, hz, e2⟩ := has_iff'.1 e
        have := T.pos z hz
        exact .inr ⟨z, List.mem_append.2 (.inl hz), e2, by omega⟩
end Ds

namespace Ds
open Go Go.Sx Go.Proofs Lf
end Ds

namespace Ds
open Go Go.Sx Go.Proofs Lf
variable {nx : Int} {ps : Ps} {is is' : Is} {x : CL cI}
variable {Z : Glob}
end Ds

namespace Ds
open Go Go.Sx Go.Proofs Lf
abbrev sumBlo := sumR [tSt, tInt] [tNs] (fun ((_, _, _, is, _, _, ()), _, ()) => [(is : Is).length ≤ 1000000]) (fun ((_, _, _, is, _, _, ()), id, ()) => (belowF (esOf is) id, ()))
end Ds

namespace Ds
open Go Go.Sx Go.Proofs Lf
theorem frzn_safe {X : Ctx} {K : List AObj → AV → Prop} {f : FuncId} {tmps : List AV} {L : List AObj} {todo : List Item} {stk : Stk} (hX : ∀ id, X.H id = none) (id : Nat) (N : Norm) {c : Cfg}
    (e : N.run ⟨(frzSt ⟨tmps, L⟩ id).tmps, (frzSt ⟨tmps, L⟩ id).H, todo, stk⟩ = some c) (h : Safe P f X K c) : Safe P f X K ⟨tmps, L, todo, stk⟩ :=
  frz_safe id rfl (Norm.safe (fun i _ => hX i) e h)
variable {nx : Int} {ps : Ps} {is is' : Is}
theorem Trees.kid (T : Trees nx is) {a b : Int} (h : b ∈ kidsF (esOf is) a) : a < b ∧ hasI is b = true ∧ gU is b = a := by
  obtain ⟨h1, h2⟩ := mem_kids.1 h
  obtain ⟨x, hx, e⟩ := List.mem_map.1 h1
  simp only [Prod.mk.injEq] at e
  obtain ⟨e1, e2⟩ := e
  obtain ⟨g1, g2⟩ := T.get hx
  rw [e1] at g1 g2
  have hU : gU is b = a := by unfold gU; rw [g2]; exact e2
  exact ⟨by rw [← hU]; exact (T.up_lt g1).1, g1, hU⟩
theorem Trees.reach_lt (T : Trees nx is) {a b : Int} (h : Reach (esOf is) a b) : a < b := by
  induction h with
  | kid h => exact (T.kid h).1
  | more _ h ih => have := (T.kid h).1; omega
theorem Trees.parent (T : Trees nx is) {a b c : Int} (h1 : c ∈ kidsF (esOf is) a) (h2 : c ∈ kidsF (esOf is) b) : a = b := by rw [← (T.kid h1).2.2, (T.kid h2).2.2]
theorem Trees.back (T : Trees nx is) {a b c : Int} (h : Reach (esOf is) a c) (hk : c ∈ kidsF (esOf is) b) : a = b ∨ Reach (esOf is) a b := by
  cases h with
  | kid h => exact .inl (T.parent h hk)
  | more h1 h2 => exact .inr (by rw [← T.parent h2 hk]; exact h1)
theorem Trees.chain (T : Trees nx is) {a b x : Int} (h : Reach (esOf is) a x) : Reach (esOf is) b x → a = b ∨ Reach (esOf is) a b ∨ Reach (esOf is) b a := by
  induction h with
  | kid h =>
    intro h2
    rcases T.back h2 h with e | e
    · exact .inl e.symm
    · exact .inr (.inr e)
  | more h1 h ih =>
    intro h2
    rcases T.back h2 h with e | e
    · subst e; exact .inr (.inl h1)
    · exact ih e
theorem Snd.kind (S : Snd nx ps is) {x : CL cI} (hx : x ∈ is) : (iS x = 1 ∧ scopeF ps is x = true) ∨ (iS x = 2 ∧ tokenF ps is x = true) := by
  have h := S.ok x hx
  unfold okI at h
  rw [Bool.and_eq_true] at h
  by_cases e1 : iS x = 1
  · rw [if_pos e1] at h; exact .inl ⟨e1, h.2⟩
  · rw [if_neg e1] at h
    by_cases e2 : iS x = 2
    · rw [if_pos e2] at h; exact .inr ⟨e2, h.2⟩
    · rw [if_neg e2] at h; cases h.2
end Ds

namespace Ds
open Go Go.Sx Go.Proofs Lf
variable {Z : Glob}
theorem getD_mem {l : List Int} {i : Nat} (h : i < l.length) : l.getD i 0 ∈ l := by rw [getD_lt h]; exact List.getElem_mem _
end Ds

namespace Ds
open Go Go.Sx Go.Proofs Lf
/-! Scopes -/
end Ds

namespace Ds
open Go Go.Sx Go.Proofs Lf
end Ds

namespace Ds
open Go Go.Sx Go.Proofs Lf
abbrev sumL22' := sumOf [tSt] [tBool] (fun _ => []) (fun ((_, _, ps, is, cs, ws, ()), ()) => (large22 ps is cs ws, ()))
end Ds
