/- Lemmas: Q5, Q6, Q7, Q8, Q9, Q10, Q11. -/
import Derived.Test.YtcbllmnbcboelaaPE

namespace Ds
open Go Go.Sx Go.Proofs Lf
def ndF (ps : Ps) (name : ByteArray) (n : Int) : CL cN := nodeAt (pO (getP ps name)) n
def hasN (ps : Ps) (name : ByteArray) (n : Int) : Bool := decide (0 ≤ n ∧ n < ((pO (getP ps name)).length : Int))
abbrev noT (x : CL cN) : Ty.V tNoR := (nN x, nK x, nI x, nO x, nE x, nY x, nT x, nS x, nB x, nV x, nZ x, ())
abbrev sumNo := sumR [tSt, tIt] [tNoR, tBool] (fun _ => []) (fun ((_, _, ps, _, _, _, ()), x, ()) => (noT (ndF ps (iP x) (iN x)), hasN ps (iP x) (iN x), ()))
abbrev sumAc := sumOf [tU8] [tBool] (fun _ => []) (fun (k, ()) => (actF k, ()))
abbrev sumBo := sumR [tPr, tInt] [tNs] (fun ((_, _, ns, _, ()), _, ()) => [(ns : List (CL cN)).length ≤ 1000000]) (fun ((_, _, ns, _, ()), n, ()) => (boundsF ns n, ()))
abbrev sumAs := sumOf [tPr, tInt] [tNs] (fun ((_, _, ns, _, ()), _, ()) => [(ns : List (CL cN)).length ≤ 1000000]) (fun ((_, _, ns, _, ()), n, ()) => (asidesF ns n, ()))
abbrev sumSo := sumOf [tPr, tInt] [tInt, tBool] (fun ((_, _, ns, _, ()), _, ()) => [(ns : List (CL cN)).length ≤ 1000000]) (fun ((_, _, ns, _, ()), n, ()) => (startF ns n, hasSt ns n, ()))
abbrev tPlc : Ty := .st [.int .i64, .int .i64, .int .u8, .str, .int .i64, .int .i64, .int .u8, .str, .str, .rrow (.typ cV) eV, .rrow (.typ cN) eN, .rrow (.typ cF) eF, .rrow (.ints .i64) 3]
def tabBd : Tab := [(15, sumDf), (97, sumNo), (98, sumAc), (99, sumBo)]
theorem trBd (ck nx : Int) (ps : Ps) (is : Is) (cs : Cs) (ws : Ws) (x : CL cI) : run P tabBd.sum Try.f71 [] (start Try.f71 [avSt ck nx ps is cs ws, avIt x] []) =
  Tree.ite (!hasN ps (iP (iI x, iU x, iS x, iP x, iN x, iF x, iW x, iC x, ())) (iN (iI x, iU x, iS x, iP x, iN x, iF x, iW x, iC x, ()))) (Tree.ret [AObj.own [AV.s (SV.int IntKind.i64 ck), AV.s (SV.int IntKind.i64 nx), AV.s (SV.ro (Con.typ cP ps)), AV.s (SV.ro (Con.typ cI is)), AV.s (SV.ro (Con.typ cC cs)), AV.s (SV.ro (Con.typ cW ws))] (27 : Nat), AObj.own [AV.s (SV.int IntKind.i64 (iI x)), AV.s (SV.int IntKind.i64 (iU x)), AV.s (SV.int IntKind.u8 (iS x)), AV.s (SV.str (iP x)), AV.s (SV.int IntKind.i64 (iN x)), AV.s (SV.int IntKind.i64 (iF x)), AV.s (SV.int IntKind.u8 (iW x)), AV.s (SV.str (iC x))] (43 : Nat), AObj.own [AV.s (SV.int IntKind.i64 (iI x)), AV.s (SV.int IntKind.i64 (iU x)), AV.s (SV.int IntKind.u8 (iS x)), AV.s (SV.str (iP x)), AV.s (SV.int IntKind.i64 (iN x)), AV.s (SV.int IntKind.i64 (iF x)), AV.s (SV.int IntKind.u8 (iW x)), AV.s (SV.str (iC x)), AV.s (SV.str (pN (getP ps (iP x)))), AV.s (SV.ro (Con.typ cV (pV (getP ps (iP x))))), AV.s (SV.ro (Con.typ cN (pO (getP ps (iP x))))), AV.s (SV.ro (Con.typ cF (pF (getP ps (iP x))))), AV.emp] (70 : Nat), AObj.own [AV.s (SV.str (pN (getP ps (iP x)))), AV.s (SV.ro (Con.typ cV (pV (getP ps (iP x))))), AV.s (SV.ro (Con.typ cN (pO (getP ps (iP x))))), AV.s (SV.ro (Con.typ cF (pF (getP ps (iP x)))))] (34 : Nat), AObj.own [AV.s (SV.str (nN (ndF ps (iP (iI x, iU x, iS x, iP x, iN x, iF x, iW x, iC x, ())) (iN (iI x, iU x, iS x, iP x, iN x, iF x, iW x, iC x, ()))))), AV.s (SV.int IntKind.u8 (nK (ndF ps (iP (iI x, iU x, iS x, iP x, iN x, iF x, iW x, iC x, ())) (iN (iI x, iU x, iS x, iP x, iN x, iF x, iW x, iC x, ()))))), AV.s (SV.int IntKind.i64 (nI (ndF ps (iP (iI x, iU x, iS x, iP x, iN x, iF x, iW x, iC x, ())) (iN (iI x, iU x, iS x, iP x, iN x, iF x, iW x, iC x, ()))))), AV.s (SV.int IntKind.i64 (nO (ndF ps (iP (iI x, iU x, iS x, iP x, iN x, iF x, iW x, iC x, ())) (iN (iI x, iU x, iS x, iP x, iN x, iF x, iW x, iC x, ()))))), AV.s (SV.int IntKind.u8 (nE (ndF ps (iP (iI x, iU x, iS x, iP x, iN x, iF x, iW x, iC x, ())) (iN (iI x, iU x, iS x, iP x, iN x, iF x, iW x, iC x, ()))))), AV.s (SV.str (nY (ndF ps (iP (iI x, iU x, iS x, iP x, iN x, iF x, iW x, iC x, ())) (iN (iI x, iU x, iS x, iP x, iN x, iF x, iW x, iC x, ()))))), AV.s (SV.str (nT (ndF ps (iP (iI x, iU x, iS x, iP x, iN x, iF x, iW x, iC x, ())) (iN (iI x, iU x, iS x, iP x, iN x, iF x, iW x, iC x, ()))))), AV.s (SV.str (nS (ndF ps (iP (iI x, iU x, iS x, iP x, iN x, iF x, iW x, iC x, ())) (iN (iI x, iU x, iS x, iP x, iN x, iF x, iW x, iC x, ()))))), AV.s (SV.bool (nB (ndF ps (iP (iI x, iU x, iS x, iP x, iN x, iF x, iW x, iC x, ())) (iN (iI x, iU x, iS x, iP x, iN x, iF x, iW x, iC x, ()))))), AV.s (SV.ro (Con.typ cV (nV (ndF ps (iP (iI x, iU x, iS x, iP x, iN x, iF x, iW x, iC x, ())) (iN (iI x, iU x, iS x, iP x, iN x, iF x, iW x, iC x, ())))))), AV.s (SV.ro (Con.strs (nZ (ndF ps (iP (iI x, iU x, iS x, iP x, iN x, iF x, iW x, iC x, ())) (iN (iI x, iU x, iS x, iP x, iN x, iF x, iW x, iC x, ()))))))] (37 : Nat)] (AV.agg [AV.s (SV.int IntKind.i64 (iI x)), AV.s (SV.int IntKind.i64 (iU x)), AV.s (SV.int IntKind.u8 (iS x)), AV.s (SV.str (iP x)), AV.s (SV.int IntKind.i64 (iN x)), AV.s (SV.int IntKind.i64 (iF x)), AV.s (SV.int IntKind.u8 (iW x)), AV.s (SV.str (iC x)), AV.s (SV.str (pN (getP ps (iP x)))), AV.s (SV.ro (Con.typ cV (pV (getP ps (iP x))))), AV.s (SV.ro (Con.typ cN (pO (getP ps (iP x))))), AV.s (SV.ro (Con.typ cF (pF (getP ps (iP x))))), AV.emp]))
  (Tree.ite (!actF (nK (ndF ps (iP (iI x, iU x, iS x, iP x, iN x, iF x, iW x, iC x, ())) (iN (iI x, iU x, iS x, iP x, iN x, iF x, iW x, iC x, ()))))) (Tree.ret [AObj.own [AV.s (SV.int IntKind.i64 ck), AV.s (SV.int IntKind.i64 nx), AV.s (SV.ro (Con.typ cP ps)), AV.s (SV.ro (Con.typ cI is)), AV.s (SV.ro (Con.typ cC cs)), AV.s (SV.ro (Con.typ cW ws))] (27 : Nat), AObj.own [AV.s (SV.int IntKind.i64 (iI x)), AV.s (SV.int IntKind.i64 (iU x)), AV.s (SV.int IntKind.u8 (iS x)), AV.s (SV.str (iP x)), AV.s (SV.int IntKind.i64 (iN x)), AV.s (SV.int IntKind.i64 (iF x)), AV.s (SV.int IntKind.u8 (iW x)), AV.s (SV.str (iC x))] (43 : Nat), AObj.own [AV.s (SV.int IntKind.i64 (iI x)), AV.s (SV.int IntKind.i64 (iU x)), AV.s (SV.int IntKind.u8 (iS x)), AV.s (SV.str (iP x)), AV.s (SV.int IntKind.i64 (iN x)), AV.s (SV.int IntKind.i64 (iF x)), AV.s (SV.int IntKind.u8 (iW x)), AV.s (SV.str (iC x)), AV.s (SV.str (pN (getP ps (iP x)))), AV.s (SV.ro (Con.typ cV (pV (getP ps (iP x))))), AV.s (SV.ro (Con.typ cN (pO (getP ps (iP x))))), AV.s (SV.ro (Con.typ cF (pF (getP ps (iP x))))), AV.emp] (70 : Nat), AObj.own [AV.s (SV.str (pN (getP ps (iP x)))), AV.s (SV.ro (Con.typ cV (pV (getP ps (iP x))))), AV.s (SV.ro (Con.typ cN (pO (getP ps (iP x))))), AV.s (SV.ro (Con.typ cF (pF (getP ps (iP x)))))] (34 : Nat), AObj.own [AV.s (SV.str (nN (ndF ps (iP (iI x, iU x, iS x, iP x, iN x, iF x, iW x, iC x, ())) (iN (iI x, iU x, iS x, iP x, iN x, iF x, iW x, iC x, ()))))), AV.s (SV.int IntKind.u8 (nK (ndF ps (iP (iI x, iU x, iS x, iP x, iN x, iF x, iW x, iC x, ())) (iN (iI x, iU x, iS x, iP x, iN x, iF x, iW x, iC x, ()))))), AV.s (SV.int IntKind.i64 (nI (ndF ps (iP (iI x, iU x, iS x, iP x, iN x, iF x, iW x, iC x, ())) (iN (iI x, iU x, iS x, iP x, iN x, iF x, iW x, iC x, ()))))), AV.s (SV.int IntKind.i64 (nO (ndF ps (iP (iI x, iU x, iS x, iP x, iN x, iF x, iW x, iC x, ())) (iN (iI x, iU x, iS x, iP x, iN x, iF x, iW x, iC x, ()))))), AV.s (SV.int IntKind.u8 (nE (ndF ps (iP (iI x, iU x, iS x, iP x, iN x, iF x, iW x, iC x, ())) (iN (iI x, iU x, iS x, iP x, iN x, iF x, iW x, iC x, ()))))), AV.s (SV.str (nY (ndF ps (iP (iI x, iU x, iS x, iP x, iN x, iF x, iW x, iC x, ())) (iN (iI x, iU x, iS x, iP x, iN x, iF x, iW x, iC x, ()))))), AV.s (SV.str (nT (ndF ps (iP (iI x, iU x, iS x, iP x, iN x, iF x, iW x, iC x, ())) (iN (iI x, iU x, iS x, iP x, iN x, iF x, iW x, iC x, ()))))), AV.s (SV.str (nS (ndF ps (iP (iI x, iU x, iS x, iP x, iN x, iF x, iW x, iC x, ())) (iN (iI x, iU x, iS x, iP x, iN x, iF x, iW x, iC x, ()))))), AV.s (SV.bool (nB (ndF ps (iP (iI x, iU x, iS x, iP x, iN x, iF x, iW x, iC x, ())) (iN (iI x, iU x, iS x, iP x, iN x, iF x, iW x, iC x, ()))))), AV.s (SV.ro (Con.typ cV (nV (ndF ps (iP (iI x, iU x, iS x, iP x, iN x, iF x, iW x, iC x, ())) (iN (iI x, iU x, iS x, iP x, iN x, iF x, iW x, iC x, ())))))), AV.s (SV.ro (Con.strs (nZ (ndF ps (iP (iI x, iU x, iS x, iP x, iN x, iF x, iW x, iC x, ())) (iN (iI x, iU x, iS x, iP x, iN x, iF x, iW x, iC x, ()))))))] (37 : Nat)] (AV.agg [AV.s (SV.int IntKind.i64 (iI x)), AV.s (SV.int IntKind.i64 (iU x)), AV.s (SV.int IntKind.u8 (iS x)), AV.s (SV.str (iP x)), AV.s (SV.int IntKind.i64 (iN x)), AV.s (SV.int IntKind.i64 (iF x)), AV.s (SV.int IntKind.u8 (iW x)), AV.s (SV.str (iC x)), AV.s (SV.str (pN (getP ps (iP x)))), AV.s (SV.ro (Con.typ cV (pV (getP ps (iP x))))), AV.s (SV.ro (Con.typ cN (pO (getP ps (iP x))))), AV.s (SV.ro (Con.typ cF (pF (getP ps (iP x))))), AV.emp]))
    (Tree.need ((pO (getP ps (iP x))).length ≤ (1000000 : Nat)) (Tree.ret [AObj.own [AV.s (SV.int IntKind.i64 ck), AV.s (SV.int IntKind.i64 nx), AV.s (SV.ro (Con.typ cP ps)), AV.s (SV.ro (Con.typ cI is)), AV.s (SV.ro (Con.typ cC cs)), AV.s (SV.ro (Con.typ cW ws))] (27 : Nat), AObj.own [AV.s (SV.int IntKind.i64 (iI x)), AV.s (SV.int IntKind.i64 (iU x)), AV.s (SV.int IntKind.u8 (iS x)), AV.s (SV.str (iP x)), AV.s (SV.int IntKind.i64 (iN x)), AV.s (SV.int IntKind.i64 (iF x)), AV.s (SV.int IntKind.u8 (iW x)), AV.s (SV.str (iC x))] (43 : Nat), AObj.own [AV.s (SV.int IntKind.i64 (iI x)), AV.s (SV.int IntKind.i64 (iU x)), AV.s (SV.int IntKind.u8 (iS x)), AV.s (SV.str (iP x)), AV.s (SV.int IntKind.i64 (iN x)), AV.s (SV.int IntKind.i64 (iF x)), AV.s (SV.int IntKind.u8 (iW x)), AV.s (SV.str (iC x)), AV.s (SV.str (pN (getP ps (iP x)))), AV.s (SV.ro (Con.typ cV (pV (getP ps (iP x))))), AV.s (SV.ro (Con.typ cN (pO (getP ps (iP x))))), AV.s (SV.ro (Con.typ cF (pF (getP ps (iP x))))), AV.vec (5 : Nat)] (70 : Nat), AObj.own [AV.s (SV.str (pN (getP ps (iP x)))), AV.s (SV.ro (Con.typ cV (pV (getP ps (iP x))))), AV.s (SV.ro (Con.typ cN (pO (getP ps (iP x))))), AV.s (SV.ro (Con.typ cF (pF (getP ps (iP x)))))] (34 : Nat), AObj.own [AV.s (SV.str (nN (ndF ps (iP (iI x, iU x, iS x, iP x, iN x, iF x, iW x, iC x, ())) (iN (iI x, iU x, iS x, iP x, iN x, iF x, iW x, iC x, ()))))), AV.s (SV.int IntKind.u8 (nK (ndF ps (iP (iI x, iU x, iS x, iP x, iN x, iF x, iW x, iC x, ())) (iN (iI x, iU x, iS x, iP x, iN x, iF x, iW x, iC x, ()))))), AV.s (SV.int IntKind.i64 (nI (ndF ps (iP (iI x, iU x, iS x, iP x, iN x, iF x, iW x, iC x, ())) (iN (iI x, iU x, iS x, iP x, iN x, iF x, iW x, iC x, ()))))), AV.s (SV.int IntKind.i64 (nO (ndF ps (iP (iI x, iU x, iS x, iP x, iN x, iF x, iW x, iC x, ())) (iN (iI x, iU x, iS x, iP x, iN x, iF x, iW x, iC x, ()))))), AV.s (SV.int IntKind.u8 (nE (ndF ps (iP (iI x, iU x, iS x, iP x, iN x, iF x, iW x, iC x, ())) (iN (iI x, iU x, iS x, iP x, iN x, iF x, iW x, iC x, ()))))), AV.s (SV.str (nY (ndF ps (iP (iI x, iU x, iS x, iP x, iN x, iF x, iW x, iC x, ())) (iN (iI x, iU x, iS x, iP x, iN x, iF x, iW x, iC x, ()))))), AV.s (SV.str (nT (ndF ps (iP (iI x, iU x, iS x, iP x, iN x, iF x, iW x, iC x, ())) (iN (iI x, iU x, iS x, iP x, iN x, iF x, iW x, iC x, ()))))), AV.s (SV.str (nS (ndF ps (iP (iI x, iU x, iS x, iP x, iN x, iF x, iW x, iC x, ())) (iN (iI x, iU x, iS x, iP x, iN x, iF x, iW x, iC x, ()))))), AV.s (SV.bool (nB (ndF ps (iP (iI x, iU x, iS x, iP x, iN x, iF x, iW x, iC x, ())) (iN (iI x, iU x, iS x, iP x, iN x, iF x, iW x, iC x, ()))))), AV.s (SV.ro (Con.typ cV (nV (ndF ps (iP (iI x, iU x, iS x, iP x, iN x, iF x, iW x, iC x, ())) (iN (iI x, iU x, iS x, iP x, iN x, iF x, iW x, iC x, ())))))), AV.s (SV.ro (Con.strs (nZ (ndF ps (iP (iI x, iU x, iS x, iP x, iN x, iF x, iW x, iC x, ())) (iN (iI x, iU x, iS x, iP x, iN x, iF x, iW x, iC x, ()))))))] (37 : Nat), AObj.vec (Con.ints IntKind.i64 (boundsF (pO (getP ps (iP x))) (iN x))) (3 : Nat)] (AV.agg [AV.s (SV.int IntKind.i64 (iI x)), AV.s (SV.int IntKind.i64 (iU x)), AV.s (SV.int IntKind.u8 (iS x)), AV.s (SV.str (iP x)), AV.s (SV.int IntKind.i64 (iN x)), AV.s (SV.int IntKind.i64 (iF x)), AV.s (SV.int IntKind.u8 (iW x)), AV.s (SV.str (iC x)), AV.s (SV.str (pN (getP ps (iP x)))), AV.s (SV.ro (Con.typ cV (pV (getP ps (iP x))))), AV.s (SV.ro (Con.typ cN (pO (getP ps (iP x))))), AV.s (SV.ro (Con.typ cF (pF (getP ps (iP x))))), AV.vec (5 : Nat)])))) := by kernel_rfl
abbrev ePl : TypeId := 70
def tabAd : Tab := [(15, sumDf), (100, sumAs), (101, sumSo)]
def nsAd : List (Nat × Norm) := [(7, ⟨[], [4, 5, 28, 29, 30], 0, [(1, 12, false, .ints .i64 [], 3)]⟩)]
theorem trAd (ck nx : Int) (ps : Ps) (is : Is) (cs : Cs) (ws : Ws) (x : CL cI) : run P tabAd.sum Try.f72 nsAd (start Try.f72 [avSt ck nx ps is cs ws, avIt x] []) =
  Tree.ite (!hasP ps (iP x)) (Tree.ret [AObj.own [AV.s (SV.int IntKind.i64 ck), AV.s (SV.int IntKind.i64 nx), AV.s (SV.ro (Con.typ cP ps)), AV.s (SV.ro (Con.typ cI is)), AV.s (SV.ro (Con.typ cC cs)), AV.s (SV.ro (Con.typ cW ws))] (27 : Nat), AObj.own [AV.s (SV.int IntKind.i64 (iI x)), AV.s (SV.int IntKind.i64 (iU x)), AV.s (SV.int IntKind.u8 (iS x)), AV.s (SV.str (iP x)), AV.s (SV.int IntKind.i64 (iN x)), AV.s (SV.int IntKind.i64 (iF x)), AV.s (SV.int IntKind.u8 (iW x)), AV.s (SV.str (iC x))] (43 : Nat), AObj.own [AV.s (SV.int IntKind.i64 (iI x)), AV.s (SV.int IntKind.i64 (iU x)), AV.s (SV.int IntKind.u8 (iS x)), AV.s (SV.str (iP x)), AV.s (SV.int IntKind.i64 (iN x)), AV.s (SV.int IntKind.i64 (iF x)), AV.s (SV.int IntKind.u8 (iW x)), AV.s (SV.str (iC x)), AV.s (SV.str (pN (getP ps (iP x)))), AV.s (SV.ro (Con.typ cV (pV (getP ps (iP x))))), AV.s (SV.ro (Con.typ cN (pO (getP ps (iP x))))), AV.s (SV.ro (Con.typ cF (pF (getP ps (iP x))))), AV.emp] (70 : Nat), AObj.own [AV.s (SV.int IntKind.i64 (iI x)), AV.s (SV.int IntKind.i64 (iU x)), AV.s (SV.int IntKind.u8 (iS x)), AV.s (SV.str (iP x)), AV.s (SV.int IntKind.i64 (iN x)), AV.s (SV.int IntKind.i64 (iF x)), AV.s (SV.int IntKind.u8 (iW x)), AV.s (SV.str (iC x)), AV.s (SV.str (pN (getP ps (iP x)))), AV.s (SV.ro (Con.typ cV (pV (getP ps (iP x))))), AV.s (SV.ro (Con.typ cN (pO (getP ps (iP x))))), AV.s (SV.ro (Con.typ cF (pF (getP ps (iP x))))), AV.emp] (70 : Nat)] (AV.agg [AV.s (SV.int IntKind.i64 (iI x)), AV.s (SV.int IntKind.i64 (iU x)), AV.s (SV.int IntKind.u8 (iS x)), AV.s (SV.str (iP x)), AV.s (SV.int IntKind.i64 (iN x)), AV.s (SV.int IntKind.i64 (iF x)), AV.s (SV.int IntKind.u8 (iW x)), AV.s (SV.str (iC x)), AV.s (SV.str (pN (getP ps (iP x)))), AV.s (SV.ro (Con.typ cV (pV (getP ps (iP x))))), AV.s (SV.ro (Con.typ cN (pO (getP ps (iP x))))), AV.s (SV.ro (Con.typ cF (pF (getP ps (iP x))))), AV.emp])) (Tree.need ((pO (getP ps (iP x))).length ≤ (1000000 : Nat)) (Tree.at (Cfg.mk (sl (50 : Nat) [((4 : Nat), AV.ptr (0 : Nat) (0 : Nat)), ((5 : Nat), AV.ptr (1 : Nat) (0 : Nat)), ((28 : Nat), AV.vec (2 : Nat)), ((29 : Nat), AV.s (SV.int IntKind.i64 (↑(asidesF (pO (getP ps (iP x))) (iN x)).length : Int))), ((30 : Nat), AV.s (SV.int IntKind.i64 (0 : Int)))]) [AObj.own [AV.s (SV.int IntKind.i64 (0 : Int)), AV.s (SV.int IntKind.i64 (0 : Int)), AV.s (SV.int IntKind.u8 (0 : Int)), AV.s (SV.str ByteArray.empty), AV.s (SV.int IntKind.i64 (0 : Int)), AV.s (SV.int IntKind.i64 (0 : Int)), AV.s (SV.int IntKind.u8 (0 : Int)), AV.s (SV.str ByteArray.empty), AV.s (SV.str ByteArray.empty), AV.emp, AV.emp, AV.emp, AV.emp] (70 : Nat), AObj.own [AV.s (SV.int IntKind.i64 (iI x)), AV.s (SV.int IntKind.i64 (iU x)), AV.s (SV.int IntKind.u8 (iS x)), AV.s (SV.str (iP x)), AV.s (SV.int IntKind.i64 (iN x)), AV.s (SV.int IntKind.i64 (iF x)), AV.s (SV.int IntKind.u8 (iW x)), AV.s (SV.str (iC x)), AV.s (SV.str (pN (getP ps (iP x)))), AV.s (SV.ro (Con.typ cV (pV (getP ps (iP x))))), AV.s (SV.ro (Con.typ cN (pO (getP ps (iP x))))), AV.s (SV.ro (Con.typ cF (pF (getP ps (iP x))))), AV.vec (3 : Nat)] (70 : Nat), AObj.vec (Con.ints IntKind.i64 (asidesF (pO (getP ps (iP x))) (iN x))) (3 : Nat), AObj.vec (Con.ints IntKind.i64 []) (3 : Nat)] (hd Try.f72 (7 : Nat)) (Stk.mk none false (0 : Nat) [] (0 : Nat))))) := by kernel_rfl
theorem tabNo_ok {Z : Glob} : tabNo.Ok P Z := Tab.Ok.cons def_ok.sumR Tab.Ok.nil
theorem no_proc {ps : Ps} {name : ByteArray} (h : hasP ps name = false) : getP ps name = CL.d cP := by
  refine (df_end ?_).1
  have h1 : ¬ 0 ≤ defP ps name := of_decide_eq_false h
  rcases idxF_spec (p := pDf name) (l := ps) with ⟨h2, _⟩ | ⟨i, h2, _⟩
  · exact h2
  · exact absurd (show 0 ≤ defP ps name by unfold defP; omega) h1
theorem node_ok {Z : Glob} : FnOk P Z 97 [tSt, tIt] [tNoR, tBool] (fun _ => []) (fun ((_, _, ps, _, _, _, ()), x, ()) => (noT (ndF ps (iP x) (iN x)), hasN ps (iP x) (iN x), ())) := by
  refine fnOk_of_safe Try.func97 (by kernel_rfl) (by kernel_rfl) ?_
  rintro ⟨⟨(ck : Int), (nx : Int), (ps : Ps), (is : Is), (cs : Cs), (ws : Ws), ⟨⟩⟩, (x : CL cI), ⟨⟩⟩ _ _ X hX hz
  show Safe P 97 X (Ends [tNoR, tBool] (noT (ndF ps (iP x) (iN x)), hasN ps (iP x) (iN x), ())) _
  have nil : ∀ (h : ¬ (0 ≤ iN x ∧ iN x < ((pO (getP ps (iP x))).length : Int))), ndF ps (iP x) (iN x) = CL.d cN ∧ hasN ps (iP x) (iN x) = false := fun h => ⟨by unfold ndF nodeAt; rw [if_neg h], decide_eq_false h⟩
  refine go hz hX tabNo_ok Try.func97 (trNo ck nx ps is cs ws x) ⟨fun h => ?_, fun h => ⟨fun h2 => ?_, fun h2 => ⟨fun h3 => ?_, fun h3 => ⟨by have := of_decide_eq_false h2; omega, by have := of_decide_eq_false h3; omega, ?_⟩⟩⟩⟩
  · obtain ⟨e1, e2⟩ := nil (by rw [no_proc (by simpa using h)]; rintro ⟨_, h5⟩; have h6 : ((pO (CL.d cP)).length : Int) = 0 := rfl; omega)
    rw [e1, e2]; exact ends_eq _ rfl (by kernel_rfl)
  · obtain ⟨e1, e2⟩ := nil (by have := of_decide_eq_true h2; omega)
    rw [e1, e2]; exact ends_eq _ rfl (by kernel_rfl)
  · obtain ⟨e1, e2⟩ := nil (by have := of_decide_eq_true h3; omega)
    rw [e1, e2]; exact ends_eq _ rfl (by kernel_rfl)
  · have h4 : 0 ≤ iN x ∧ iN x < ((pO (getP ps (iP x))).length : Int) := ⟨by have := of_decide_eq_false h2; omega, by have := of_decide_eq_false h3; omega⟩
    have e1 : ndF ps (iP x) (iN x) = el (pO (getP ps (iP x))) (iN x) := by unfold ndF nodeAt; rw [if_pos h4]
    have e2 : hasN ps (iP x) (iN x) = true := decide_eq_true h4
    rw [e1, e2]
    exact ends_eq _ rfl (by kernel_rfl)
end Ds

namespace Ds
open Go Go.Sx Go.Proofs Lf
noncomputable def cAd (x : CL cI) (p : CL cP) (l acc : List Int) (i : Int) : Cfg := ⟨sl 50 [(4, .ptr 0 0), (5, .ptr 1 0), (28, .vec 2), (29, avI (l.length : Int)), (30, avI i)], [.own [avI 0, avI 0, avU 0, .s (.str ByteArray.empty), avI 0, avI 0, avU 0, .s (.str ByteArray.empty), .s (.str ByteArray.empty), .emp, .emp, .emp, .emp] ePl, .own [avI (iI x), avI (iU x), avU (iS x), .s (.str (iP x)), avI (iN x), avI (iF x), avU (iW x), .s (.str (iC x)), .s (.str (pN p)), .s (.ro (.typ cV (pV p))), .s (.ro (.typ cN (pO p))), .s (.ro (.typ cF (pF p))), .vec 3] ePl, .vec (.ints .i64 l) 3, .vec (.ints .i64 acc) 3], hd Try.f72 7, {}⟩
theorem loopAd (x : CL cI) (p : CL cP) (l acc : List Int) (i : Int) : run P tabAd.sum Try.f72 nsAd (cAd x p l acc i) =
  Tree.ite (decide (i < (↑l.length : Int))) (Tree.need ((0 : Int) ≤ i) (Tree.need (i < (↑l.length : Int)) (Tree.need ((pO p).length ≤ (1000000 : Nat)) (Tree.ite (hasSt (pO p) (l.getD i.toNat (0 : Int))) (Tree.need ((acc.length + (1 : Nat)) * (8 : Nat) ≤ (140737488355328 : Nat)) (Tree.need (inI64 (i + (1 : Int))) (Tree.at (Cfg.mk (sl (50 : Nat) [((4 : Nat), AV.ptr (0 : Nat) (0 : Nat)), ((5 : Nat), AV.ptr (1 : Nat) (0 : Nat)), ((28 : Nat), AV.vec (2 : Nat)), ((29 : Nat), AV.s (SV.int IntKind.i64 (↑l.length : Int))), ((30 : Nat), AV.s (SV.int IntKind.i64 (i + (1 : Int))))]) [AObj.own [AV.s (SV.int IntKind.i64 (0 : Int)), AV.s (SV.int IntKind.i64 (0 : Int)), AV.s (SV.int IntKind.u8 (0 : Int)), AV.s (SV.str ByteArray.empty), AV.s (SV.int IntKind.i64 (0 : Int)), AV.s (SV.int IntKind.i64 (0 : Int)), AV.s (SV.int IntKind.u8 (0 : Int)), AV.s (SV.str ByteArray.empty), AV.s (SV.str ByteArray.empty), AV.emp, AV.emp, AV.emp, AV.emp] (70 : Nat), AObj.own [AV.s (SV.int IntKind.i64 (iI x)), AV.s (SV.int IntKind.i64 (iU x)), AV.s (SV.int IntKind.u8 (iS x)), AV.s (SV.str (iP x)), AV.s (SV.int IntKind.i64 (iN x)), AV.s (SV.int IntKind.i64 (iF x)), AV.s (SV.int IntKind.u8 (iW x)), AV.s (SV.str (iC x)), AV.s (SV.str (pN p)), AV.s (SV.ro (Con.typ cV (pV p))), AV.s (SV.ro (Con.typ cN (pO p))), AV.s (SV.ro (Con.typ cF (pF p))), AV.vec (3 : Nat)] (70 : Nat), AObj.vec (Con.ints IntKind.i64 l) (3 : Nat), AObj.vec (Con.ints IntKind.i64 (acc ++ [startF (pO p) (l.getD i.toNat (0 : Int))])) (3 : Nat)] (hd Try.f72 (7 : Nat)) (Stk.mk none false (0 : Nat) [] (0 : Nat)))))) (Tree.need (inI64 (i + (1 : Int))) (Tree.at (Cfg.mk (sl (50 : Nat) [((4 : Nat), AV.ptr (0 : Nat) (0 : Nat)), ((5 : Nat), AV.ptr (1 : Nat) (0 : Nat)), ((28 : Nat), AV.vec (2 : Nat)), ((29 : Nat), AV.s (SV.int IntKind.i64 (↑l.length : Int))), ((30 : Nat), AV.s (SV.int IntKind.i64 (i + (1 : Int))))]) [AObj.own [AV.s (SV.int IntKind.i64 (0 : Int)), AV.s (SV.int IntKind.i64 (0 : Int)), AV.s (SV.int IntKind.u8 (0 : Int)), AV.s (SV.str ByteArray.empty), AV.s (SV.int IntKind.i64 (0 : Int)), AV.s (SV.int IntKind.i64 (0 : Int)), AV.s (SV.int IntKind.u8 (0 : Int)), AV.s (SV.str ByteArray.empty), AV.s (SV.str ByteArray.empty), AV.emp, AV.emp, AV.emp, AV.emp] (70 : Nat), AObj.own [AV.s (SV.int IntKind.i64 (iI x)), AV.s (SV.int IntKind.i64 (iU x)), AV.s (SV.int IntKind.u8 (iS x)), AV.s (SV.str (iP x)), AV.s (SV.int IntKind.i64 (iN x)), AV.s (SV.int IntKind.i64 (iF x)), AV.s (SV.int IntKind.u8 (iW x)), AV.s (SV.str (iC x)), AV.s (SV.str (pN p)), AV.s (SV.ro (Con.typ cV (pV p))), AV.s (SV.ro (Con.typ cN (pO p))), AV.s (SV.ro (Con.typ cF (pF p))), AV.vec (3 : Nat)] (70 : Nat), AObj.vec (Con.ints IntKind.i64 l) (3 : Nat), AObj.vec (Con.ints IntKind.i64 acc) (3 : Nat)] (hd Try.f72 (7 : Nat)) (Stk.mk none false (0 : Nat) [] (0 : Nat)))))))))
  (Tree.ret [AObj.own [AV.s (SV.int IntKind.i64 (iI x)), AV.s (SV.int IntKind.i64 (iU x)), AV.s (SV.int IntKind.u8 (iS x)), AV.s (SV.str (iP x)), AV.s (SV.int IntKind.i64 (iN x)), AV.s (SV.int IntKind.i64 (iF x)), AV.s (SV.int IntKind.u8 (iW x)), AV.s (SV.str (iC x)), AV.s (SV.str (pN p)), AV.s (SV.ro (Con.typ cV (pV p))), AV.s (SV.ro (Con.typ cN (pO p))), AV.s (SV.ro (Con.typ cF (pF p))), AV.vec (3 : Nat)] (70 : Nat), AObj.own [AV.s (SV.int IntKind.i64 (iI x)), AV.s (SV.int IntKind.i64 (iU x)), AV.s (SV.int IntKind.u8 (iS x)), AV.s (SV.str (iP x)), AV.s (SV.int IntKind.i64 (iN x)), AV.s (SV.int IntKind.i64 (iF x)), AV.s (SV.int IntKind.u8 (iW x)), AV.s (SV.str (iC x)), AV.s (SV.str (pN p)), AV.s (SV.ro (Con.typ cV (pV p))), AV.s (SV.ro (Con.typ cN (pO p))), AV.s (SV.ro (Con.typ cF (pF p))), AV.vec (3 : Nat)] (70 : Nat), AObj.vec (Con.ints IntKind.i64 l) (3 : Nat), AObj.vec (Con.ints IntKind.i64 acc) (3 : Nat)] (AV.agg [AV.s (SV.int IntKind.i64 (iI x)), AV.s (SV.int IntKind.i64 (iU x)), AV.s (SV.int IntKind.u8 (iS x)), AV.s (SV.str (iP x)), AV.s (SV.int IntKind.i64 (iN x)), AV.s (SV.int IntKind.i64 (iF x)), AV.s (SV.int IntKind.u8 (iW x)), AV.s (SV.str (iC x)), AV.s (SV.str (pN p)), AV.s (SV.ro (Con.typ cV (pV p))), AV.s (SV.ro (Con.typ cN (pO p))), AV.s (SV.ro (Con.typ cF (pF p))), AV.vec (3 : Nat)])) := by kernel_rfl
def asL (ns : List (CL cN)) (n : Int) : List Int := ((asidesF ns n).filter (hasSt ns)).map (startF ns)
def boL (ps : Ps) (name : ByteArray) (n : Int) : List Int := if hasN ps name n = true ∧ actF (nK (ndF ps name n)) = true then boundsF (pO (getP ps name)) n else []
abbrev plT (x : CL cI) (p : CL cP) (l : List Int) : Ty.V tPlc := (iI x, iU x, iS x, iP x, iN x, iF x, iW x, iC x, pN p, pV p, pO p, pF p, l, ())
abbrev preNs : AL [tSt, tIt] → List Prop := fun ((_, _, ps, _, _, _, ()), x, ()) => [(pO (getP ps (iP x))).length ≤ 1000000]
abbrev sumBd := sumR [tSt, tIt] [tPlc] preNs (fun ((_, _, ps, _, _, _, ()), x, ()) => (plT x (getP ps (iP x)) (boL ps (iP x) (iN x)), ()))
abbrev sumAd := sumR [tSt, tIt] [tPlc] preNs (fun ((_, _, ps, _, _, _, ()), x, ()) => (plT x (getP ps (iP x)) (asL (pO (getP ps (iP x))) (iN x)), ()))
abbrev sumCh := sumOf [tPr, tNs, tU8, tStr] [tInt, tBool] (fun _ => []) (fun ((_, _, ns, _, ()), l, ev, key, ()) => ((chooseF ns l ev key).1, (chooseF ns l ev key).2, ()))
def tabRf : Tab := [(14, sumFi), (71, sumBd), (72, sumAd), (44, sumCh)]
abbrev fS1 : FuncId := 77
abbrev inRf : List FuncId := [43, 70, 48, fS1]
theorem tabBd_ok {Z : Glob} : tabBd.Ok P Z := Tab.Ok.cons def_ok.sumR (Tab.Ok.cons node_ok.sumR (Tab.Ok.cons act_ok.sum (Tab.Ok.cons bo_ok.sumR Tab.Ok.nil)))
theorem tabAd_ok {Z : Glob} : tabAd.Ok P Z := Tab.Ok.cons def_ok.sumR (Tab.Ok.cons as_ok.sum (Tab.Ok.cons so_ok.sum Tab.Ok.nil))
theorem bds_ok {Z : Glob} : FnOk P Z 71 [tSt, tIt] [tPlc] preNs (fun ((_, _, ps, _, _, _, ()), x, ()) => (plT x (getP ps (iP x)) (boL ps (iP x) (iN x)), ())) := by
  refine fnOk_of_safe Try.func71 (by kernel_rfl) (by kernel_rfl) ?_
  rintro ⟨⟨(ck : Int), (nx : Int), (ps : Ps), (is : Is), (cs : Cs), (ws : Ws), ⟨⟩⟩, (x : CL cI), ⟨⟩⟩ _ ⟨hl, _⟩ X hX hz
  show Safe P 71 X (Ends [tPlc] (plT x (getP ps (iP x)) (boL ps (iP x) (iN x)), ())) _
  refine go hz hX tabBd_ok Try.func71 (trBd ck nx ps is cs ws x) ⟨fun h => ?_, fun h => ⟨fun h2 => ?_, fun h2 => ⟨hl, ?_⟩⟩⟩
  · have e : boL ps (iP x) (iN x) = [] := by unfold boL; rw [if_neg]; intro hh; rw [hh.1] at h; cases h
    rw [e]; exact ends_eq _ rfl (by kernel_rfl)
  · have e : boL ps (iP x) (iN x) = [] := by unfold boL; rw [if_neg]; intro hh; rw [hh.2] at h2; cases h2
    rw [e]; exact ends_eq _ rfl (by kernel_rfl)
  · have e : boL ps (iP x) (iN x) = boundsF (pO (getP ps (iP x))) (iN x) := by unfold boL; rw [if_pos ⟨by simpa using h, by simpa using h2⟩]
    rw [e]; exact ends_eq _ rfl (by kernel_rfl)
theorem asd_ok {Z : Glob} : FnOk P Z 72 [tSt, tIt] [tPlc] preNs (fun ((_, _, ps, _, _, _, ()), x, ()) => (plT x (getP ps (iP x)) (asL (pO (getP ps (iP x))) (iN x)), ())) := by
  refine fnOk_of_safe Try.func72 (by kernel_rfl) (by kernel_rfl) ?_
  rintro ⟨⟨(ck : Int), (nx : Int), (ps : Ps), (is : Is), (cs : Cs), (ws : Ws), ⟨⟩⟩, (x : CL cI), ⟨⟩⟩ _ ⟨(hl : (pO (getP ps (iP x))).length ≤ 1000000), _⟩ X hX hz
  show Safe P 72 X (Ends [tPlc] (plT x (getP ps (iP x)) (asL (pO (getP ps (iP x))) (iN x)), ())) _
  refine go hz hX tabAd_ok Try.func72 (trAd ck nx ps is cs ws x) ⟨fun h => ?_, fun h => ⟨hl, ?_⟩⟩
  · have e : getP ps (iP x) = CL.d cP := no_proc (by simpa using h)
    rw [e]
    exact ends_eq _ rfl (by kernel_rfl)
  generalize getP ps (iP x) = p at *
  have hal : (asidesF (pO p) (iN x)).length ≤ 1000000 := Nat.le_trans (idxs_len _ _) hl
  have loop : ∀ (j k : Nat), k + j = (asidesF (pO p) (iN x)).length → Safe P 72 X (Ends [tPlc] (plT x p (asL (pO p) (iN x)), ())) (cAd x p (asidesF (pO p) (iN x)) ((((asidesF (pO p) (iN x)).take k).filter (hasSt (pO p))).map (startF (pO p))) (k : Int)) := by
    intro j
    induction j with
    | zero =>
      intro k hk
      rw [List.take_of_length_le (by omega)]
      refine go hz hX tabAd_ok Try.func72 (loopAd x p _ _ k) (no_and (decide_eq_false (by omega)) ?_)
      exact ends_eq _ rfl (by kernel_rfl)
    | succ j ih =>
      intro k hk
      have hlt : k < (asidesF (pO p) (iN x)).length := by omega
      have next := ih (k + 1) (by omega)
      rw [List.take_add_one, List.getElem?_eq_getElem hlt, Option.toList_some, List.filter_append, List.map_append] at next
      have hacc : ((((asidesF (pO p) (iN x)).take k).filter (hasSt (pO p))).map (startF (pO p))).length ≤ k := by
        rw [List.length_map]; exact Nat.le_trans (List.length_filter_le _ _) (by rw [List.length_take]; omega)
      refine go hz hX tabAd_ok Try.func72 (loopAd x p _ _ k) (yes_and (decide_eq_true (by omega)) ⟨by omega, by omega, hl, ?_⟩)
      rw [Int.toNat_natCast, getD_lt hlt]
      generalize ((((asidesF (pO p) (iN x)).take k).filter (hasSt (pO p))).map (startF (pO p))) = acc at *
      cases hs : hasSt (pO p) (asidesF (pO p) (iN x))[k] with
      | true =>
        rw [List.filter_cons_of_pos hs] at next
        exact yes_and rfl ⟨by omega, ⟨by omega, by omega⟩, next⟩
      | false =>
        rw [List.filter_cons_of_neg (by rw [hs]; simp)] at next
        simp only [List.filter_nil, List.map_nil, List.append_nil] at next
        exact no_and rfl ⟨⟨by omega, by omega⟩, next⟩
  exact loop _ 0 (Nat.zero_add _)
end Ds

namespace Ds
open Go Go.Sx Go.Proofs Lf
def nsRg : List (Nat × Norm) := [((fS1 + 1) * 100000 + 5, ⟨[], [0, 1, 5, 6, 7, 8, 84, 86, 150, 151, 158, 159, 160, 161, 193, 194], 0, []⟩), ((fS1 + 1) * 100000 + 8, ⟨[], [0, 1, 6, 7, 84, 86, 150, 151, 158, 159, 160, 161, 193, 194], 0, []⟩)]
noncomputable abbrev kRf : Stk := ⟨some fS1, false, 0, [inRange Try.f70 (some 70) 6 1, inRange Try.f13 none 5 1], 0⟩
abbrev obRf (ck nx : Int) (ps : Ps) (is : Is) (cs : Cs) (ws : Ws) (ev : Int) (key : ByteArray) (x : CL cI) (m : Mp) : List AObj := [.dead, obSt ck nx ps is cs ws, .map kM m, obIt x, obSt ck nx ps is cs ws, .own [.tag 12] 102, .dead, .own [avU ev] 5, .own [.s (.str key)] 9, .own [avI 0, avI 0] 39, .own [.s (.bool false)] 4, .dead, .dead]
noncomputable def cRf (ck nx : Int) (ps : Ps) (is : Is) (cs : Cs) (ws : Ws) (ev : Int) (key : ByteArray) (b own : Bool) (x : CL cI) (m : Mp) : Cfg := ⟨sl 195 [(0, .tag 0), (1, .ptr 1 0), (5, .s (.bool b)), (6, .mapv 2), (7, .ptr 3 0), (8, .s (.bool own)), (84, .ptr 4 0), (86, .ptr 5 0), (150, .tag 6), (151, .tag 0), (158, .ptr 7 0), (159, .ptr 8 0), (160, .ptr 9 0), (161, .ptr 10 0), (193, .tag 11), (194, .tag 12)], obRf ck nx ps is cs ws ev key x m, hd Try.f77 5, kRf⟩
noncomputable def cRg (ck nx : Int) (ps : Ps) (is : Is) (cs : Cs) (ws : Ws) (ev : Int) (key : ByteArray) (x : CL cI) (m : Mp) : Cfg := ⟨sl 195 [(0, .tag 0), (1, .ptr 1 0), (6, .mapv 2), (7, .ptr 3 0), (84, .ptr 4 0), (86, .ptr 5 0), (150, .tag 6), (151, .tag 0), (158, .ptr 7 0), (159, .ptr 8 0), (160, .ptr 9 0), (161, .ptr 10 0), (193, .tag 11), (194, .tag 12)], obRf ck nx ps is cs ws ev key x m, hr Try.f77 8, kRf⟩
theorem trRg (ck nx : Int) (ps : Ps) (is : Is) (cs : Cs) (ws : Ws) (id ev : Int) (key : ByteArray) : run P tabRf.sum Try.f13 nsRg (start Try.f13 [avSt ck nx ps is cs ws, avI id, avU ev, .s (.str key)] []) inRf =
  Tree.ite (ev != (4 : Int))
  (Tree.ite (ev != (5 : Int)) (Tree.ret [AObj.own [AV.s (SV.int IntKind.i64 ck), AV.s (SV.int IntKind.i64 nx), AV.s (SV.ro (Con.typ cP ps)), AV.s (SV.ro (Con.typ cI is)), AV.s (SV.ro (Con.typ cC cs)), AV.s (SV.ro (Con.typ cW ws))] (27 : Nat), AObj.own [AV.s (SV.int IntKind.u8 ev)] (5 : Nat), AObj.own [AV.s (SV.str key)] (9 : Nat), AObj.own [AV.s (SV.ilit IntKind.i64 (0 : Int)), AV.s (SV.ilit IntKind.i64 (0 : Int))] (39 : Nat), AObj.own [AV.s (SV.blit false)] (4 : Nat)] (AV.tup [AV.agg [AV.s (SV.ilit IntKind.i64 (0 : Int)), AV.s (SV.ilit IntKind.i64 (0 : Int))], AV.s (SV.blit false)]))
    (Tree.ite (!hasI is id) (Tree.ret [AObj.own [AV.s (SV.int IntKind.i64 ck), AV.s (SV.int IntKind.i64 nx), AV.s (SV.ro (Con.typ cP ps)), AV.s (SV.ro (Con.typ cI is)), AV.s (SV.ro (Con.typ cC cs)), AV.s (SV.ro (Con.typ cW ws))] (27 : Nat), AObj.own [AV.s (SV.int IntKind.u8 ev)] (5 : Nat), AObj.own [AV.s (SV.str key)] (9 : Nat), AObj.own [AV.s (SV.ilit IntKind.i64 (0 : Int)), AV.s (SV.ilit IntKind.i64 (0 : Int))] (39 : Nat), AObj.own [AV.s (SV.blit false)] (4 : Nat), AObj.own [AV.s (SV.int IntKind.i64 ck), AV.s (SV.int IntKind.i64 nx), AV.s (SV.ro (Con.typ cP ps)), AV.s (SV.ro (Con.typ cI is)), AV.s (SV.ro (Con.typ cC cs)), AV.s (SV.ro (Con.typ cW ws))] (27 : Nat), AObj.own [AV.s (SV.int IntKind.i64 id)] (3 : Nat), AObj.dead, AObj.dead, AObj.own [AV.tag (8 : Nat)] (102 : Nat), AObj.own [AV.s (SV.int IntKind.i64 (gI is id)), AV.s (SV.int IntKind.i64 (gU is id)), AV.s (SV.int IntKind.u8 (gS is id)), AV.s (SV.str (gP is id)), AV.s (SV.int IntKind.i64 (gN is id)), AV.s (SV.int IntKind.i64 (gF is id)), AV.s (SV.int IntKind.u8 (gW is id)), AV.s (SV.str (gC is id))] (43 : Nat)] (AV.tup [AV.agg [AV.s (SV.ilit IntKind.i64 (0 : Int)), AV.s (SV.ilit IntKind.i64 (0 : Int))], AV.s (SV.blit false)]))
      (Tree.ite (gS is id != (2 : Int)) (Tree.ret [AObj.own [AV.s (SV.int IntKind.i64 ck), AV.s (SV.int IntKind.i64 nx), AV.s (SV.ro (Con.typ cP ps)), AV.s (SV.ro (Con.typ cI is)), AV.s (SV.ro (Con.typ cC cs)), AV.s (SV.ro (Con.typ cW ws))] (27 : Nat), AObj.own [AV.s (SV.int IntKind.u8 ev)] (5 : Nat), AObj.own [AV.s (SV.str key)] (9 : Nat), AObj.own [AV.s (SV.ilit IntKind.i64 (0 : Int)), AV.s (SV.ilit IntKind.i64 (0 : Int))] (39 : Nat), AObj.own [AV.s (SV.blit false)] (4 : Nat), AObj.own [AV.s (SV.int IntKind.i64 ck), AV.s (SV.int IntKind.i64 nx), AV.s (SV.ro (Con.typ cP ps)), AV.s (SV.ro (Con.typ cI is)), AV.s (SV.ro (Con.typ cC cs)), AV.s (SV.ro (Con.typ cW ws))] (27 : Nat), AObj.own [AV.s (SV.int IntKind.i64 id)] (3 : Nat), AObj.dead, AObj.dead, AObj.own [AV.tag (8 : Nat)] (102 : Nat), AObj.own [AV.s (SV.int IntKind.i64 (gI is id)), AV.s (SV.int IntKind.i64 (gU is id)), AV.s (SV.int IntKind.u8 (gS is id)), AV.s (SV.str (gP is id)), AV.s (SV.int IntKind.i64 (gN is id)), AV.s (SV.int IntKind.i64 (gF is id)), AV.s (SV.int IntKind.u8 (gW is id)), AV.s (SV.str (gC is id))] (43 : Nat)] (AV.tup [AV.agg [AV.s (SV.ilit IntKind.i64 (0 : Int)), AV.s (SV.ilit IntKind.i64 (0 : Int))], AV.s (SV.blit false)]))
        (Tree.need ((pO (getP ps (gP is id))).length ≤ (1000000 : Nat))
          (Tree.ite (chooseF (pO (getP ps (gP is id))) (boL ps (gP is id) (gN is id)) ev key).snd (Tree.ret [AObj.own [AV.s (SV.int IntKind.i64 ck), AV.s (SV.int IntKind.i64 nx), AV.s (SV.ro (Con.typ cP ps)), AV.s (SV.ro (Con.typ cI is)), AV.s (SV.ro (Con.typ cC cs)), AV.s (SV.ro (Con.typ cW ws))] (27 : Nat), AObj.own [AV.s (SV.int IntKind.u8 ev)] (5 : Nat), AObj.own [AV.s (SV.str key)] (9 : Nat), AObj.own [AV.s (SV.int IntKind.i64 (gI is id)), AV.s (SV.int IntKind.i64 (chooseF (pO (getP ps (gP is id))) (boL ps (gP is id) (gN is id)) ev key).fst)] (39 : Nat), AObj.own [AV.s (SV.blit true)] (4 : Nat), AObj.own [AV.s (SV.int IntKind.i64 ck), AV.s (SV.int IntKind.i64 nx), AV.s (SV.ro (Con.typ cP ps)), AV.s (SV.ro (Con.typ cI is)), AV.s (SV.ro (Con.typ cC cs)), AV.s (SV.ro (Con.typ cW ws))] (27 : Nat), AObj.own [AV.s (SV.int IntKind.i64 id)] (3 : Nat), AObj.dead, AObj.dead, AObj.own [AV.tag (8 : Nat)] (102 : Nat), AObj.own [AV.s (SV.int IntKind.i64 (gI is id)), AV.s (SV.int IntKind.i64 (gU is id)), AV.s (SV.int IntKind.u8 (gS is id)), AV.s (SV.str (gP is id)), AV.s (SV.int IntKind.i64 (gN is id)), AV.s (SV.int IntKind.i64 (gF is id)), AV.s (SV.int IntKind.u8 (gW is id)), AV.s (SV.str (gC is id))] (43 : Nat), AObj.own [AV.s (SV.int IntKind.i64 (gI is id)), AV.s (SV.int IntKind.i64 (gU is id)), AV.s (SV.int IntKind.u8 (gS is id)), AV.s (SV.str (gP is id)), AV.s (SV.int IntKind.i64 (gN is id)), AV.s (SV.int IntKind.i64 (gF is id)), AV.s (SV.int IntKind.u8 (gW is id)), AV.s (SV.str (gC is id)), AV.s (SV.str (pN (getP ps (gP is id)))), AV.s (SV.ro (Con.typ cV (pV (getP ps (gP is id))))), AV.s (SV.ro (Con.typ cN (pO (getP ps (gP is id))))), AV.s (SV.ro (Con.typ cF (pF (getP ps (gP is id))))), AV.s (SV.ro (Con.ints IntKind.i64 (boL ps (gP is id) (gN is id))))] (70 : Nat)] (AV.tup [AV.agg [AV.s (SV.int IntKind.i64 (gI is id)), AV.s (SV.int IntKind.i64 (chooseF (pO (getP ps (gP is id))) (boL ps (gP is id) (gN is id)) ev key).fst)], AV.s (SV.blit true)]))
            (Tree.ite (!hasI is id) (Tree.ret [AObj.own [AV.s (SV.int IntKind.i64 ck), AV.s (SV.int IntKind.i64 nx), AV.s (SV.ro (Con.typ cP ps)), AV.s (SV.ro (Con.typ cI is)), AV.s (SV.ro (Con.typ cC cs)), AV.s (SV.ro (Con.typ cW ws))] (27 : Nat), AObj.own [AV.s (SV.int IntKind.u8 ev)] (5 : Nat), AObj.own [AV.s (SV.str key)] (9 : Nat), AObj.own [AV.s (SV.ilit IntKind.i64 (0 : Int)), AV.s (SV.ilit IntKind.i64 (0 : Int))] (39 : Nat), AObj.own [AV.s (SV.blit false)] (4 : Nat), AObj.own [AV.s (SV.int IntKind.i64 ck), AV.s (SV.int IntKind.i64 nx), AV.s (SV.ro (Con.typ cP ps)), AV.s (SV.ro (Con.typ cI is)), AV.s (SV.ro (Con.typ cC cs)), AV.s (SV.ro (Con.typ cW ws))] (27 : Nat), AObj.own [AV.s (SV.int IntKind.i64 id)] (3 : Nat), AObj.dead, AObj.dead, AObj.own [AV.tag (8 : Nat)] (102 : Nat), AObj.own [AV.s (SV.int IntKind.i64 (gI is id)), AV.s (SV.int IntKind.i64 (gU is id)), AV.s (SV.int IntKind.u8 (gS is id)), AV.s (SV.str (gP is id)), AV.s (SV.int IntKind.i64 (gN is id)), AV.s (SV.int IntKind.i64 (gF is id)), AV.s (SV.int IntKind.u8 (gW is id)), AV.s (SV.str (gC is id))] (43 : Nat), AObj.own [AV.s (SV.int IntKind.i64 (gI is id)), AV.s (SV.int IntKind.i64 (gU is id)), AV.s (SV.int IntKind.u8 (gS is id)), AV.s (SV.str (gP is id)), AV.s (SV.int IntKind.i64 (gN is id)), AV.s (SV.int IntKind.i64 (gF is id)), AV.s (SV.int IntKind.u8 (gW is id)), AV.s (SV.str (gC is id)), AV.s (SV.str (pN (getP ps (gP is id)))), AV.s (SV.ro (Con.typ cV (pV (getP ps (gP is id))))), AV.s (SV.ro (Con.typ cN (pO (getP ps (gP is id))))), AV.s (SV.ro (Con.typ cF (pF (getP ps (gP is id))))), AV.s (SV.ro (Con.ints IntKind.i64 (boL ps (gP is id) (gN is id))))] (70 : Nat), AObj.own [AV.s (SV.int IntKind.i64 ck), AV.s (SV.int IntKind.i64 nx), AV.s (SV.ro (Con.typ cP ps)), AV.s (SV.ro (Con.typ cI is)), AV.s (SV.ro (Con.typ cC cs)), AV.s (SV.ro (Con.typ cW ws))] (27 : Nat), AObj.own [AV.s (SV.int IntKind.i64 id)] (3 : Nat), AObj.dead, AObj.dead, AObj.own [AV.s (SV.int IntKind.i64 (gI is id)), AV.s (SV.int IntKind.i64 (gU is id)), AV.s (SV.int IntKind.u8 (gS is id)), AV.s (SV.str (gP is id)), AV.s (SV.int IntKind.i64 (gN is id)), AV.s (SV.int IntKind.i64 (gF is id)), AV.s (SV.int IntKind.u8 (gW is id)), AV.s (SV.str (gC is id))] (43 : Nat)] (AV.tup [AV.agg [AV.s (SV.ilit IntKind.i64 (0 : Int)), AV.s (SV.ilit IntKind.i64 (0 : Int))], AV.s (SV.blit false)]))
              (Tree.ite (gS is id != (2 : Int)) (Tree.ret [AObj.own [AV.s (SV.int IntKind.i64 ck), AV.s (SV.int IntKind.i64 nx), AV.s (SV.ro (Con.typ cP ps)), AV.s (SV.ro (Con.typ cI is)), AV.s (SV.ro (Con.typ cC cs)), AV.s (SV.ro (Con.typ cW ws))] (27 : Nat), AObj.own [AV.s (SV.int IntKind.u8 ev)] (5 : Nat), AObj.own [AV.s (SV.str key)] (9 : Nat), AObj.own [AV.s (SV.ilit IntKind.i64 (0 : Int)), AV.s (SV.ilit IntKind.i64 (0 : Int))] (39 : Nat), AObj.own [AV.s (SV.blit false)] (4 : Nat), AObj.own [AV.s (SV.int IntKind.i64 ck), AV.s (SV.int IntKind.i64 nx), AV.s (SV.ro (Con.typ cP ps)), AV.s (SV.ro (Con.typ cI is)), AV.s (SV.ro (Con.typ cC cs)), AV.s (SV.ro (Con.typ cW ws))] (27 : Nat), AObj.own [AV.s (SV.int IntKind.i64 id)] (3 : Nat), AObj.dead, AObj.dead, AObj.own [AV.tag (8 : Nat)] (102 : Nat), AObj.own [AV.s (SV.int IntKind.i64 (gI is id)), AV.s (SV.int IntKind.i64 (gU is id)), AV.s (SV.int IntKind.u8 (gS is id)), AV.s (SV.str (gP is id)), AV.s (SV.int IntKind.i64 (gN is id)), AV.s (SV.int IntKind.i64 (gF is id)), AV.s (SV.int IntKind.u8 (gW is id)), AV.s (SV.str (gC is id))] (43 : Nat), AObj.own [AV.s (SV.int IntKind.i64 (gI is id)), AV.s (SV.int IntKind.i64 (gU is id)), AV.s (SV.int IntKind.u8 (gS is id)), AV.s (SV.str (gP is id)), AV.s (SV.int IntKind.i64 (gN is id)), AV.s (SV.int IntKind.i64 (gF is id)), AV.s (SV.int IntKind.u8 (gW is id)), AV.s (SV.str (gC is id)), AV.s (SV.str (pN (getP ps (gP is id)))), AV.s (SV.ro (Con.typ cV (pV (getP ps (gP is id))))), AV.s (SV.ro (Con.typ cN (pO (getP ps (gP is id))))), AV.s (SV.ro (Con.typ cF (pF (getP ps (gP is id))))), AV.s (SV.ro (Con.ints IntKind.i64 (boL ps (gP is id) (gN is id))))] (70 : Nat), AObj.own [AV.s (SV.int IntKind.i64 ck), AV.s (SV.int IntKind.i64 nx), AV.s (SV.ro (Con.typ cP ps)), AV.s (SV.ro (Con.typ cI is)), AV.s (SV.ro (Con.typ cC cs)), AV.s (SV.ro (Con.typ cW ws))] (27 : Nat), AObj.own [AV.s (SV.int IntKind.i64 id)] (3 : Nat), AObj.dead, AObj.dead, AObj.own [AV.s (SV.int IntKind.i64 (gI is id)), AV.s (SV.int IntKind.i64 (gU is id)), AV.s (SV.int IntKind.u8 (gS is id)), AV.s (SV.str (gP is id)), AV.s (SV.int IntKind.i64 (gN is id)), AV.s (SV.int IntKind.i64 (gF is id)), AV.s (SV.int IntKind.u8 (gW is id)), AV.s (SV.str (gC is id))] (43 : Nat)] (AV.tup [AV.agg [AV.s (SV.ilit IntKind.i64 (0 : Int)), AV.s (SV.ilit IntKind.i64 (0 : Int))], AV.s (SV.blit false)]))
                (Tree.at (Cfg.mk (sl (195 : Nat) [((0 : Nat), AV.tag (0 : Nat)), ((1 : Nat), AV.ptr (1 : Nat) (0 : Nat)), ((5 : Nat), AV.s (SV.bool (hasI is (gU is id)))), ((6 : Nat), AV.mapv (2 : Nat)), ((7 : Nat), AV.ptr (3 : Nat) (0 : Nat)), ((8 : Nat), AV.s (SV.bool false)), ((84 : Nat), AV.ptr (4 : Nat) (0 : Nat)), ((86 : Nat), AV.ptr (5 : Nat) (0 : Nat)), ((150 : Nat), AV.tag (6 : Nat)), ((151 : Nat), AV.tag (0 : Nat)), ((158 : Nat), AV.ptr (7 : Nat) (0 : Nat)), ((159 : Nat), AV.ptr (8 : Nat) (0 : Nat)), ((160 : Nat), AV.ptr (9 : Nat) (0 : Nat)), ((161 : Nat), AV.ptr (10 : Nat) (0 : Nat)), ((193 : Nat), AV.tag (11 : Nat)), ((194 : Nat), AV.tag (12 : Nat))]) [AObj.dead, AObj.own [AV.s (SV.int IntKind.i64 ck), AV.s (SV.int IntKind.i64 nx), AV.s (SV.ro (Con.typ cP ps)), AV.s (SV.ro (Con.typ cI is)), AV.s (SV.ro (Con.typ cC cs)), AV.s (SV.ro (Con.typ cW ws))] (27 : Nat), AObj.map (CK.int IntKind.i64) [], AObj.own [AV.s (SV.int IntKind.i64 (gI is (gU is id))), AV.s (SV.int IntKind.i64 (gU is (gU is id))), AV.s (SV.int IntKind.u8 (gS is (gU is id))), AV.s (SV.str (gP is (gU is id))), AV.s (SV.int IntKind.i64 (gN is (gU is id))), AV.s (SV.int IntKind.i64 (gF is (gU is id))), AV.s (SV.int IntKind.u8 (gW is (gU is id))), AV.s (SV.str (gC is (gU is id)))] (43 : Nat), AObj.own [AV.s (SV.int IntKind.i64 ck), AV.s (SV.int IntKind.i64 nx), AV.s (SV.ro (Con.typ cP ps)), AV.s (SV.ro (Con.typ cI is)), AV.s (SV.ro (Con.typ cC cs)), AV.s (SV.ro (Con.typ cW ws))] (27 : Nat), AObj.own [AV.tag (12 : Nat)] (102 : Nat), AObj.dead, AObj.own [AV.s (SV.int IntKind.u8 ev)] (5 : Nat), AObj.own [AV.s (SV.str key)] (9 : Nat), AObj.own [AV.s (SV.int IntKind.i64 (0 : Int)), AV.s (SV.int IntKind.i64 (0 : Int))] (39 : Nat), AObj.own [AV.s (SV.bool false)] (4 : Nat), AObj.dead, AObj.dead] (hd Try.f77 (5 : Nat)) (Stk.mk (some (77 : Nat)) false (0 : Nat) [inRange Try.f70 (some (70 : Nat)) (6 : Nat) (1 : Nat), inRange Try.f13 none (5 : Nat) (1 : Nat)] (0 : Nat)))))))))))
  (Tree.ite (!hasI is id) (Tree.ret [AObj.own [AV.s (SV.int IntKind.i64 ck), AV.s (SV.int IntKind.i64 nx), AV.s (SV.ro (Con.typ cP ps)), AV.s (SV.ro (Con.typ cI is)), AV.s (SV.ro (Con.typ cC cs)), AV.s (SV.ro (Con.typ cW ws))] (27 : Nat), AObj.own [AV.s (SV.int IntKind.u8 ev)] (5 : Nat), AObj.own [AV.s (SV.str key)] (9 : Nat), AObj.own [AV.s (SV.ilit IntKind.i64 (0 : Int)), AV.s (SV.ilit IntKind.i64 (0 : Int))] (39 : Nat), AObj.own [AV.s (SV.blit false)] (4 : Nat), AObj.own [AV.s (SV.int IntKind.i64 ck), AV.s (SV.int IntKind.i64 nx), AV.s (SV.ro (Con.typ cP ps)), AV.s (SV.ro (Con.typ cI is)), AV.s (SV.ro (Con.typ cC cs)), AV.s (SV.ro (Con.typ cW ws))] (27 : Nat), AObj.own [AV.s (SV.int IntKind.i64 id)] (3 : Nat), AObj.dead, AObj.dead, AObj.own [AV.tag (8 : Nat)] (102 : Nat), AObj.own [AV.s (SV.int IntKind.i64 (gI is id)), AV.s (SV.int IntKind.i64 (gU is id)), AV.s (SV.int IntKind.u8 (gS is id)), AV.s (SV.str (gP is id)), AV.s (SV.int IntKind.i64 (gN is id)), AV.s (SV.int IntKind.i64 (gF is id)), AV.s (SV.int IntKind.u8 (gW is id)), AV.s (SV.str (gC is id))] (43 : Nat)] (AV.tup [AV.agg [AV.s (SV.ilit IntKind.i64 (0 : Int)), AV.s (SV.ilit IntKind.i64 (0 : Int))], AV.s (SV.blit false)]))
    (Tree.ite (gS is id != (2 : Int)) (Tree.ret [AObj.own [AV.s (SV.int IntKind.i64 ck), AV.s (SV.int IntKind.i64 nx), AV.s (SV.ro (Con.typ cP ps)), AV.s (SV.ro (Con.typ cI is)), AV.s (SV.ro (Con.typ cC cs)), AV.s (SV.ro (Con.typ cW ws))] (27 : Nat), AObj.own [AV.s (SV.int IntKind.u8 ev)] (5 : Nat), AObj.own [AV.s (SV.str key)] (9 : Nat), AObj.own [AV.s (SV.ilit IntKind.i64 (0 : Int)), AV.s (SV.ilit IntKind.i64 (0 : Int))] (39 : Nat), AObj.own [AV.s (SV.blit false)] (4 : Nat), AObj.own [AV.s (SV.int IntKind.i64 ck), AV.s (SV.int IntKind.i64 nx), AV.s (SV.ro (Con.typ cP ps)), AV.s (SV.ro (Con.typ cI is)), AV.s (SV.ro (Con.typ cC cs)), AV.s (SV.ro (Con.typ cW ws))] (27 : Nat), AObj.own [AV.s (SV.int IntKind.i64 id)] (3 : Nat), AObj.dead, AObj.dead, AObj.own [AV.tag (8 : Nat)] (102 : Nat), AObj.own [AV.s (SV.int IntKind.i64 (gI is id)), AV.s (SV.int IntKind.i64 (gU is id)), AV.s (SV.int IntKind.u8 (gS is id)), AV.s (SV.str (gP is id)), AV.s (SV.int IntKind.i64 (gN is id)), AV.s (SV.int IntKind.i64 (gF is id)), AV.s (SV.int IntKind.u8 (gW is id)), AV.s (SV.str (gC is id))] (43 : Nat)] (AV.tup [AV.agg [AV.s (SV.ilit IntKind.i64 (0 : Int)), AV.s (SV.ilit IntKind.i64 (0 : Int))], AV.s (SV.blit false)]))
      (Tree.need ((pO (getP ps (gP is id))).length ≤ (1000000 : Nat))
        (Tree.ite (chooseF (pO (getP ps (gP is id))) (boL ps (gP is id) (gN is id)) ev key).snd (Tree.ret [AObj.own [AV.s (SV.int IntKind.i64 ck), AV.s (SV.int IntKind.i64 nx), AV.s (SV.ro (Con.typ cP ps)), AV.s (SV.ro (Con.typ cI is)), AV.s (SV.ro (Con.typ cC cs)), AV.s (SV.ro (Con.typ cW ws))] (27 : Nat), AObj.own [AV.s (SV.int IntKind.u8 ev)] (5 : Nat), AObj.own [AV.s (SV.str key)] (9 : Nat), AObj.own [AV.s (SV.int IntKind.i64 (gI is id)), AV.s (SV.int IntKind.i64 (chooseF (pO (getP ps (gP is id))) (boL ps (gP is id) (gN is id)) ev key).fst)] (39 : Nat), AObj.own [AV.s (SV.blit true)] (4 : Nat), AObj.own [AV.s (SV.int IntKind.i64 ck), AV.s (SV.int IntKind.i64 nx), AV.s (SV.ro (Con.typ cP ps)), AV.s (SV.ro (Con.typ cI is)), AV.s (SV.ro (Con.typ cC cs)), AV.s (SV.ro (Con.typ cW ws))] (27 : Nat), AObj.own [AV.s (SV.int IntKind.i64 id)] (3 : Nat), AObj.dead, AObj.dead, AObj.own [AV.tag (8 : Nat)] (102 : Nat), AObj.own [AV.s (SV.int IntKind.i64 (gI is id)), AV.s (SV.int IntKind.i64 (gU is id)), AV.s (SV.int IntKind.u8 (gS is id)), AV.s (SV.str (gP is id)), AV.s (SV.int IntKind.i64 (gN is id)), AV.s (SV.int IntKind.i64 (gF is id)), AV.s (SV.int IntKind.u8 (gW is id)), AV.s (SV.str (gC is id))] (43 : Nat), AObj.own [AV.s (SV.int IntKind.i64 (gI is id)), AV.s (SV.int IntKind.i64 (gU is id)), AV.s (SV.int IntKind.u8 (gS is id)), AV.s (SV.str (gP is id)), AV.s (SV.int IntKind.i64 (gN is id)), AV.s (SV.int IntKind.i64 (gF is id)), AV.s (SV.int IntKind.u8 (gW is id)), AV.s (SV.str (gC is id)), AV.s (SV.str (pN (getP ps (gP is id)))), AV.s (SV.ro (Con.typ cV (pV (getP ps (gP is id))))), AV.s (SV.ro (Con.typ cN (pO (getP ps (gP is id))))), AV.s (SV.ro (Con.typ cF (pF (getP ps (gP is id))))), AV.s (SV.ro (Con.ints IntKind.i64 (boL ps (gP is id) (gN is id))))] (70 : Nat)] (AV.tup [AV.agg [AV.s (SV.int IntKind.i64 (gI is id)), AV.s (SV.int IntKind.i64 (chooseF (pO (getP ps (gP is id))) (boL ps (gP is id) (gN is id)) ev key).fst)], AV.s (SV.blit true)]))
          (Tree.ite (!hasI is id) (Tree.ret [AObj.own [AV.s (SV.int IntKind.i64 ck), AV.s (SV.int IntKind.i64 nx), AV.s (SV.ro (Con.typ cP ps)), AV.s (SV.ro (Con.typ cI is)), AV.s (SV.ro (Con.typ cC cs)), AV.s (SV.ro (Con.typ cW ws))] (27 : Nat), AObj.own [AV.s (SV.int IntKind.u8 ev)] (5 : Nat), AObj.own [AV.s (SV.str key)] (9 : Nat), AObj.own [AV.s (SV.ilit IntKind.i64 (0 : Int)), AV.s (SV.ilit IntKind.i64 (0 : Int))] (39 : Nat), AObj.own [AV.s (SV.blit false)] (4 : Nat), AObj.own [AV.s (SV.int IntKind.i64 ck), AV.s (SV.int IntKind.i64 nx), AV.s (SV.ro (Con.typ cP ps)), AV.s (SV.ro (Con.typ cI is)), AV.s (SV.ro (Con.typ cC cs)), AV.s (SV.ro (Con.typ cW ws))] (27 : Nat), AObj.own [AV.s (SV.int IntKind.i64 id)] (3 : Nat), AObj.dead, AObj.dead, AObj.own [AV.tag (8 : Nat)] (102 : Nat), AObj.own [AV.s (SV.int IntKind.i64 (gI is id)), AV.s (SV.int IntKind.i64 (gU is id)), AV.s (SV.int IntKind.u8 (gS is id)), AV.s (SV.str (gP is id)), AV.s (SV.int IntKind.i64 (gN is id)), AV.s (SV.int IntKind.i64 (gF is id)), AV.s (SV.int IntKind.u8 (gW is id)), AV.s (SV.str (gC is id))] (43 : Nat), AObj.own [AV.s (SV.int IntKind.i64 (gI is id)), AV.s (SV.int IntKind.i64 (gU is id)), AV.s (SV.int IntKind.u8 (gS is id)), AV.s (SV.str (gP is id)), AV.s (SV.int IntKind.i64 (gN is id)), AV.s (SV.int IntKind.i64 (gF is id)), AV.s (SV.int IntKind.u8 (gW is id)), AV.s (SV.str (gC is id)), AV.s (SV.str (pN (getP ps (gP is id)))), AV.s (SV.ro (Con.typ cV (pV (getP ps (gP is id))))), AV.s (SV.ro (Con.typ cN (pO (getP ps (gP is id))))), AV.s (SV.ro (Con.typ cF (pF (getP ps (gP is id))))), AV.s (SV.ro (Con.ints IntKind.i64 (boL ps (gP is id) (gN is id))))] (70 : Nat), AObj.own [AV.s (SV.int IntKind.i64 ck), AV.s (SV.int IntKind.i64 nx), AV.s (SV.ro (Con.typ cP ps)), AV.s (SV.ro (Con.typ cI is)), AV.s (SV.ro (Con.typ cC cs)), AV.s (SV.ro (Con.typ cW ws))] (27 : Nat), AObj.own [AV.s (SV.int IntKind.i64 id)] (3 : Nat), AObj.dead, AObj.dead, AObj.own [AV.s (SV.int IntKind.i64 (gI is id)), AV.s (SV.int IntKind.i64 (gU is id)), AV.s (SV.int IntKind.u8 (gS is id)), AV.s (SV.str (gP is id)), AV.s (SV.int IntKind.i64 (gN is id)), AV.s (SV.int IntKind.i64 (gF is id)), AV.s (SV.int IntKind.u8 (gW is id)), AV.s (SV.str (gC is id))] (43 : Nat)] (AV.tup [AV.agg [AV.s (SV.ilit IntKind.i64 (0 : Int)), AV.s (SV.ilit IntKind.i64 (0 : Int))], AV.s (SV.blit false)]))
            (Tree.ite (gS is id != (2 : Int)) (Tree.ret [AObj.own [AV.s (SV.int IntKind.i64 ck), AV.s (SV.int IntKind.i64 nx), AV.s (SV.ro (Con.typ cP ps)), AV.s (SV.ro (Con.typ cI is)), AV.s (SV.ro (Con.typ cC cs)), AV.s (SV.ro (Con.typ cW ws))] (27 : Nat), AObj.own [AV.s (SV.int IntKind.u8 ev)] (5 : Nat), AObj.own [AV.s (SV.str key)] (9 : Nat), AObj.own [AV.s (SV.ilit IntKind.i64 (0 : Int)), AV.s (SV.ilit IntKind.i64 (0 : Int))] (39 : Nat), AObj.own [AV.s (SV.blit false)] (4 : Nat), AObj.own [AV.s (SV.int IntKind.i64 ck), AV.s (SV.int IntKind.i64 nx), AV.s (SV.ro (Con.typ cP ps)), AV.s (SV.ro (Con.typ cI is)), AV.s (SV.ro (Con.typ cC cs)), AV.s (SV.ro (Con.typ cW ws))] (27 : Nat), AObj.own [AV.s (SV.int IntKind.i64 id)] (3 : Nat), AObj.dead, AObj.dead, AObj.own [AV.tag (8 : Nat)] (102 : Nat), AObj.own [AV.s (SV.int IntKind.i64 (gI is id)), AV.s (SV.int IntKind.i64 (gU is id)), AV.s (SV.int IntKind.u8 (gS is id)), AV.s (SV.str (gP is id)), AV.s (SV.int IntKind.i64 (gN is id)), AV.s (SV.int IntKind.i64 (gF is id)), AV.s (SV.int IntKind.u8 (gW is id)), AV.s (SV.str (gC is id))] (43 : Nat), AObj.own [AV.s (SV.int IntKind.i64 (gI is id)), AV.s (SV.int IntKind.i64 (gU is id)), AV.s (SV.int IntKind.u8 (gS is id)), AV.s (SV.str (gP is id)), AV.s (SV.int IntKind.i64 (gN is id)), AV.s (SV.int IntKind.i64 (gF is id)), AV.s (SV.int IntKind.u8 (gW is id)), AV.s (SV.str (gC is id)), AV.s (SV.str (pN (getP ps (gP is id)))), AV.s (SV.ro (Con.typ cV (pV (getP ps (gP is id))))), AV.s (SV.ro (Con.typ cN (pO (getP ps (gP is id))))), AV.s (SV.ro (Con.typ cF (pF (getP ps (gP is id))))), AV.s (SV.ro (Con.ints IntKind.i64 (boL ps (gP is id) (gN is id))))] (70 : Nat), AObj.own [AV.s (SV.int IntKind.i64 ck), AV.s (SV.int IntKind.i64 nx), AV.s (SV.ro (Con.typ cP ps)), AV.s (SV.ro (Con.typ cI is)), AV.s (SV.ro (Con.typ cC cs)), AV.s (SV.ro (Con.typ cW ws))] (27 : Nat), AObj.own [AV.s (SV.int IntKind.i64 id)] (3 : Nat), AObj.dead, AObj.dead, AObj.own [AV.s (SV.int IntKind.i64 (gI is id)), AV.s (SV.int IntKind.i64 (gU is id)), AV.s (SV.int IntKind.u8 (gS is id)), AV.s (SV.str (gP is id)), AV.s (SV.int IntKind.i64 (gN is id)), AV.s (SV.int IntKind.i64 (gF is id)), AV.s (SV.int IntKind.u8 (gW is id)), AV.s (SV.str (gC is id))] (43 : Nat)] (AV.tup [AV.agg [AV.s (SV.ilit IntKind.i64 (0 : Int)), AV.s (SV.ilit IntKind.i64 (0 : Int))], AV.s (SV.blit false)]))
              (Tree.at (Cfg.mk (sl (195 : Nat) [((0 : Nat), AV.tag (0 : Nat)), ((1 : Nat), AV.ptr (1 : Nat) (0 : Nat)), ((5 : Nat), AV.s (SV.bool (hasI is (gU is id)))), ((6 : Nat), AV.mapv (2 : Nat)), ((7 : Nat), AV.ptr (3 : Nat) (0 : Nat)), ((8 : Nat), AV.s (SV.bool false)), ((84 : Nat), AV.ptr (4 : Nat) (0 : Nat)), ((86 : Nat), AV.ptr (5 : Nat) (0 : Nat)), ((150 : Nat), AV.tag (6 : Nat)), ((151 : Nat), AV.tag (0 : Nat)), ((158 : Nat), AV.ptr (7 : Nat) (0 : Nat)), ((159 : Nat), AV.ptr (8 : Nat) (0 : Nat)), ((160 : Nat), AV.ptr (9 : Nat) (0 : Nat)), ((161 : Nat), AV.ptr (10 : Nat) (0 : Nat)), ((193 : Nat), AV.tag (11 : Nat)), ((194 : Nat), AV.tag (12 : Nat))]) [AObj.dead, AObj.own [AV.s (SV.int IntKind.i64 ck), AV.s (SV.int IntKind.i64 nx), AV.s (SV.ro (Con.typ cP ps)), AV.s (SV.ro (Con.typ cI is)), AV.s (SV.ro (Con.typ cC cs)), AV.s (SV.ro (Con.typ cW ws))] (27 : Nat), AObj.map (CK.int IntKind.i64) [], AObj.own [AV.s (SV.int IntKind.i64 (gI is (gU is id))), AV.s (SV.int IntKind.i64 (gU is (gU is id))), AV.s (SV.int IntKind.u8 (gS is (gU is id))), AV.s (SV.str (gP is (gU is id))), AV.s (SV.int IntKind.i64 (gN is (gU is id))), AV.s (SV.int IntKind.i64 (gF is (gU is id))), AV.s (SV.int IntKind.u8 (gW is (gU is id))), AV.s (SV.str (gC is (gU is id)))] (43 : Nat), AObj.own [AV.s (SV.int IntKind.i64 ck), AV.s (SV.int IntKind.i64 nx), AV.s (SV.ro (Con.typ cP ps)), AV.s (SV.ro (Con.typ cI is)), AV.s (SV.ro (Con.typ cC cs)), AV.s (SV.ro (Con.typ cW ws))] (27 : Nat), AObj.own [AV.tag (12 : Nat)] (102 : Nat), AObj.dead, AObj.own [AV.s (SV.int IntKind.u8 ev)] (5 : Nat), AObj.own [AV.s (SV.str key)] (9 : Nat), AObj.own [AV.s (SV.int IntKind.i64 (0 : Int)), AV.s (SV.int IntKind.i64 (0 : Int))] (39 : Nat), AObj.own [AV.s (SV.bool false)] (4 : Nat), AObj.dead, AObj.dead] (hd Try.f77 (5 : Nat)) (Stk.mk (some (77 : Nat)) false (0 : Nat) [inRange Try.f70 (some (70 : Nat)) (6 : Nat) (1 : Nat), inRange Try.f13 none (5 : Nat) (1 : Nat)] (0 : Nat)))))))))) := by kernel_rfl
theorem loopRf (ck nx : Int) (ps : Ps) (is : Is) (cs : Cs) (ws : Ws) (ev : Int) (key : ByteArray) (b own : Bool) (x : CL cI) (m : Mp) : run P tabRf.sum Try.f13 nsRg (cRf ck nx ps is cs ws ev key b own x m) inRf =
  Tree.ite b
  (Tree.ite (iS x == (1 : Int))
    (Tree.ite ((mget m (iI x)).getD (CK.int IntKind.i64).d == (0 : Int))
      (Tree.need (inI64 ((mget m (iI x)).getD (CK.int IntKind.i64).d + (1 : Int)))
        (Tree.ite (!own)
          (Tree.need ((pO (getP ps (iP x))).length ≤ (1000000 : Nat))
            (Tree.ite (chooseF (pO (getP ps (iP x))) (asL (pO (getP ps (iP x))) (iN x)) ev key).snd (Tree.ret [AObj.dead, AObj.own [AV.s (SV.int IntKind.i64 ck), AV.s (SV.int IntKind.i64 nx), AV.s (SV.ro (Con.typ cP ps)), AV.s (SV.ro (Con.typ cI is)), AV.s (SV.ro (Con.typ cC cs)), AV.s (SV.ro (Con.typ cW ws))] (27 : Nat), AObj.map (CK.int IntKind.i64) (mput m (iI x) ((mget m (iI x)).getD (CK.int IntKind.i64).d + (1 : Int))), AObj.own [AV.s (SV.int IntKind.i64 (iI x)), AV.s (SV.int IntKind.i64 (iU x)), AV.s (SV.int IntKind.u8 (iS x)), AV.s (SV.str (iP x)), AV.s (SV.int IntKind.i64 (iN x)), AV.s (SV.int IntKind.i64 (iF x)), AV.s (SV.int IntKind.u8 (iW x)), AV.s (SV.str (iC x))] (43 : Nat), AObj.own [AV.s (SV.int IntKind.i64 ck), AV.s (SV.int IntKind.i64 nx), AV.s (SV.ro (Con.typ cP ps)), AV.s (SV.ro (Con.typ cI is)), AV.s (SV.ro (Con.typ cC cs)), AV.s (SV.ro (Con.typ cW ws))] (27 : Nat), AObj.own [AV.tag (12 : Nat)] (102 : Nat), AObj.dead, AObj.own [AV.s (SV.int IntKind.u8 ev)] (5 : Nat), AObj.own [AV.s (SV.str key)] (9 : Nat), AObj.own [AV.s (SV.int IntKind.i64 (iI x)), AV.s (SV.int IntKind.i64 (chooseF (pO (getP ps (iP x))) (asL (pO (getP ps (iP x))) (iN x)) ev key).fst)] (39 : Nat), AObj.own [AV.s (SV.blit true)] (4 : Nat), AObj.dead, AObj.dead, AObj.own [AV.s (SV.int IntKind.i64 (iI x)), AV.s (SV.int IntKind.i64 (iU x)), AV.s (SV.int IntKind.u8 (iS x)), AV.s (SV.str (iP x)), AV.s (SV.int IntKind.i64 (iN x)), AV.s (SV.int IntKind.i64 (iF x)), AV.s (SV.int IntKind.u8 (iW x)), AV.s (SV.str (iC x))] (43 : Nat), AObj.own [AV.s (SV.int IntKind.i64 (iI x)), AV.s (SV.int IntKind.i64 (iU x)), AV.s (SV.int IntKind.u8 (iS x)), AV.s (SV.str (iP x)), AV.s (SV.int IntKind.i64 (iN x)), AV.s (SV.int IntKind.i64 (iF x)), AV.s (SV.int IntKind.u8 (iW x)), AV.s (SV.str (iC x)), AV.s (SV.str (pN (getP ps (iP x)))), AV.s (SV.ro (Con.typ cV (pV (getP ps (iP x))))), AV.s (SV.ro (Con.typ cN (pO (getP ps (iP x))))), AV.s (SV.ro (Con.typ cF (pF (getP ps (iP x))))), AV.s (SV.ro (Con.ints IntKind.i64 (asL (pO (getP ps (iP x))) (iN x))))] (70 : Nat)] (AV.tup [AV.agg [AV.s (SV.int IntKind.i64 (iI x)), AV.s (SV.int IntKind.i64 (chooseF (pO (getP ps (iP x))) (asL (pO (getP ps (iP x))) (iN x)) ev key).fst)], AV.s (SV.blit true)]))
              (Tree.ite (hasI is (iU x))
                (Tree.ite (gS is (iU x) == (2 : Int))
                  (Tree.need ((pO (getP ps (gP is (iU x)))).length ≤ (1000000 : Nat))
                    (Tree.ite (chooseF (pO (getP ps (gP is (iU x)))) (boL ps (gP is (iU x)) (gN is (iU x))) ev key).snd (Tree.ret [AObj.dead, AObj.own [AV.s (SV.int IntKind.i64 ck), AV.s (SV.int IntKind.i64 nx), AV.s (SV.ro (Con.typ cP ps)), AV.s (SV.ro (Con.typ cI is)), AV.s (SV.ro (Con.typ cC cs)), AV.s (SV.ro (Con.typ cW ws))] (27 : Nat), AObj.map (CK.int IntKind.i64) (mput m (iI x) ((mget m (iI x)).getD (CK.int IntKind.i64).d + (1 : Int))), AObj.own [AV.s (SV.int IntKind.i64 (iI x)), AV.s (SV.int IntKind.i64 (iU x)), AV.s (SV.int IntKind.u8 (iS x)), AV.s (SV.str (iP x)), AV.s (SV.int IntKind.i64 (iN x)), AV.s (SV.int IntKind.i64 (iF x)), AV.s (SV.int IntKind.u8 (iW x)), AV.s (SV.str (iC x))] (43 : Nat), AObj.own [AV.s (SV.int IntKind.i64 ck), AV.s (SV.int IntKind.i64 nx), AV.s (SV.ro (Con.typ cP ps)), AV.s (SV.ro (Con.typ cI is)), AV.s (SV.ro (Con.typ cC cs)), AV.s (SV.ro (Con.typ cW ws))] (27 : Nat), AObj.own [AV.tag (12 : Nat)] (102 : Nat), AObj.dead, AObj.own [AV.s (SV.int IntKind.u8 ev)] (5 : Nat), AObj.own [AV.s (SV.str key)] (9 : Nat), AObj.own [AV.s (SV.int IntKind.i64 (gI is (iU x))), AV.s (SV.int IntKind.i64 (chooseF (pO (getP ps (gP is (iU x)))) (boL ps (gP is (iU x)) (gN is (iU x))) ev key).fst)] (39 : Nat), AObj.own [AV.s (SV.blit true)] (4 : Nat), AObj.dead, AObj.dead, AObj.own [AV.s (SV.int IntKind.i64 (iI x)), AV.s (SV.int IntKind.i64 (iU x)), AV.s (SV.int IntKind.u8 (iS x)), AV.s (SV.str (iP x)), AV.s (SV.int IntKind.i64 (iN x)), AV.s (SV.int IntKind.i64 (iF x)), AV.s (SV.int IntKind.u8 (iW x)), AV.s (SV.str (iC x))] (43 : Nat), AObj.own [AV.s (SV.int IntKind.i64 (iI x)), AV.s (SV.int IntKind.i64 (iU x)), AV.s (SV.int IntKind.u8 (iS x)), AV.s (SV.str (iP x)), AV.s (SV.int IntKind.i64 (iN x)), AV.s (SV.int IntKind.i64 (iF x)), AV.s (SV.int IntKind.u8 (iW x)), AV.s (SV.str (iC x)), AV.s (SV.str (pN (getP ps (iP x)))), AV.s (SV.ro (Con.typ cV (pV (getP ps (iP x))))), AV.s (SV.ro (Con.typ cN (pO (getP ps (iP x))))), AV.s (SV.ro (Con.typ cF (pF (getP ps (iP x))))), AV.s (SV.ro (Con.ints IntKind.i64 (asL (pO (getP ps (iP x))) (iN x))))] (70 : Nat), AObj.own [AV.s (SV.int IntKind.i64 (gI is (iU x))), AV.s (SV.int IntKind.i64 (gU is (iU x))), AV.s (SV.int IntKind.u8 (gS is (iU x))), AV.s (SV.str (gP is (iU x))), AV.s (SV.int IntKind.i64 (gN is (iU x))), AV.s (SV.int IntKind.i64 (gF is (iU x))), AV.s (SV.int IntKind.u8 (gW is (iU x))), AV.s (SV.str (gC is (iU x)))] (43 : Nat), AObj.own [AV.s (SV.int IntKind.i64 (gI is (iU x))), AV.s (SV.int IntKind.i64 (gU is (iU x))), AV.s (SV.int IntKind.u8 (gS is (iU x))), AV.s (SV.str (gP is (iU x))), AV.s (SV.int IntKind.i64 (gN is (iU x))), AV.s (SV.int IntKind.i64 (gF is (iU x))), AV.s (SV.int IntKind.u8 (gW is (iU x))), AV.s (SV.str (gC is (iU x))), AV.s (SV.str (pN (getP ps (gP is (iU x))))), AV.s (SV.ro (Con.typ cV (pV (getP ps (gP is (iU x)))))), AV.s (SV.ro (Con.typ cN (pO (getP ps (gP is (iU x)))))), AV.s (SV.ro (Con.typ cF (pF (getP ps (gP is (iU x)))))), AV.s (SV.ro (Con.ints IntKind.i64 (boL ps (gP is (iU x)) (gN is (iU x)))))] (70 : Nat)] (AV.tup [AV.agg [AV.s (SV.int IntKind.i64 (gI is (iU x))), AV.s (SV.int IntKind.i64 (chooseF (pO (getP ps (gP is (iU x)))) (boL ps (gP is (iU x)) (gN is (iU x))) ev key).fst)], AV.s (SV.blit true)]))
                      (Tree.at (Cfg.mk (sl (195 : Nat) [((0 : Nat), AV.tag (0 : Nat)), ((1 : Nat), AV.ptr (1 : Nat) (0 : Nat)), ((6 : Nat), AV.mapv (2 : Nat)), ((7 : Nat), AV.ptr (3 : Nat) (0 : Nat)), ((84 : Nat), AV.ptr (4 : Nat) (0 : Nat)), ((86 : Nat), AV.ptr (5 : Nat) (0 : Nat)), ((150 : Nat), AV.tag (6 : Nat)), ((151 : Nat), AV.tag (0 : Nat)), ((158 : Nat), AV.ptr (7 : Nat) (0 : Nat)), ((159 : Nat), AV.ptr (8 : Nat) (0 : Nat)), ((160 : Nat), AV.ptr (9 : Nat) (0 : Nat)), ((161 : Nat), AV.ptr (10 : Nat) (0 : Nat)), ((193 : Nat), AV.tag (11 : Nat)), ((194 : Nat), AV.tag (12 : Nat))]) [AObj.dead, AObj.own [AV.s (SV.int IntKind.i64 ck), AV.s (SV.int IntKind.i64 nx), AV.s (SV.ro (Con.typ cP ps)), AV.s (SV.ro (Con.typ cI is)), AV.s (SV.ro (Con.typ cC cs)), AV.s (SV.ro (Con.typ cW ws))] (27 : Nat), AObj.map (CK.int IntKind.i64) (mput m (iI x) ((mget m (iI x)).getD (CK.int IntKind.i64).d + (1 : Int))), AObj.own [AV.s (SV.int IntKind.i64 (iI x)), AV.s (SV.int IntKind.i64 (iU x)), AV.s (SV.int IntKind.u8 (iS x)), AV.s (SV.str (iP x)), AV.s (SV.int IntKind.i64 (iN x)), AV.s (SV.int IntKind.i64 (iF x)), AV.s (SV.int IntKind.u8 (iW x)), AV.s (SV.str (iC x))] (43 : Nat), AObj.own [AV.s (SV.int IntKind.i64 ck), AV.s (SV.int IntKind.i64 nx), AV.s (SV.ro (Con.typ cP ps)), AV.s (SV.ro (Con.typ cI is)), AV.s (SV.ro (Con.typ cC cs)), AV.s (SV.ro (Con.typ cW ws))] (27 : Nat), AObj.own [AV.tag (12 : Nat)] (102 : Nat), AObj.dead, AObj.own [AV.s (SV.int IntKind.u8 ev)] (5 : Nat), AObj.own [AV.s (SV.str key)] (9 : Nat), AObj.own [AV.s (SV.int IntKind.i64 (0 : Int)), AV.s (SV.int IntKind.i64 (0 : Int))] (39 : Nat), AObj.own [AV.s (SV.bool false)] (4 : Nat), AObj.dead, AObj.dead] (hr Try.f77 (8 : Nat)) (Stk.mk (some (77 : Nat)) false (0 : Nat) [inRange Try.f70 (some (70 : Nat)) (6 : Nat) (1 : Nat), inRange Try.f13 none (5 : Nat) (1 : Nat)] (0 : Nat))))))
                  (Tree.at (Cfg.mk (sl (195 : Nat) [((0 : Nat), AV.tag (0 : Nat)), ((1 : Nat), AV.ptr (1 : Nat) (0 : Nat)), ((6 : Nat), AV.mapv (2 : Nat)), ((7 : Nat), AV.ptr (3 : Nat) (0 : Nat)), ((84 : Nat), AV.ptr (4 : Nat) (0 : Nat)), ((86 : Nat), AV.ptr (5 : Nat) (0 : Nat)), ((150 : Nat), AV.tag (6 : Nat)), ((151 : Nat), AV.tag (0 : Nat)), ((158 : Nat), AV.ptr (7 : Nat) (0 : Nat)), ((159 : Nat), AV.ptr (8 : Nat) (0 : Nat)), ((160 : Nat), AV.ptr (9 : Nat) (0 : Nat)), ((161 : Nat), AV.ptr (10 : Nat) (0 : Nat)), ((193 : Nat), AV.tag (11 : Nat)), ((194 : Nat), AV.tag (12 : Nat))]) [AObj.dead, AObj.own [AV.s (SV.int IntKind.i64 ck), AV.s (SV.int IntKind.i64 nx), AV.s (SV.ro (Con.typ cP ps)), AV.s (SV.ro (Con.typ cI is)), AV.s (SV.ro (Con.typ cC cs)), AV.s (SV.ro (Con.typ cW ws))] (27 : Nat), AObj.map (CK.int IntKind.i64) (mput m (iI x) ((mget m (iI x)).getD (CK.int IntKind.i64).d + (1 : Int))), AObj.own [AV.s (SV.int IntKind.i64 (iI x)), AV.s (SV.int IntKind.i64 (iU x)), AV.s (SV.int IntKind.u8 (iS x)), AV.s (SV.str (iP x)), AV.s (SV.int IntKind.i64 (iN x)), AV.s (SV.int IntKind.i64 (iF x)), AV.s (SV.int IntKind.u8 (iW x)), AV.s (SV.str (iC x))] (43 : Nat), AObj.own [AV.s (SV.int IntKind.i64 ck), AV.s (SV.int IntKind.i64 nx), AV.s (SV.ro (Con.typ cP ps)), AV.s (SV.ro (Con.typ cI is)), AV.s (SV.ro (Con.typ cC cs)), AV.s (SV.ro (Con.typ cW ws))] (27 : Nat), AObj.own [AV.tag (12 : Nat)] (102 : Nat), AObj.dead, AObj.own [AV.s (SV.int IntKind.u8 ev)] (5 : Nat), AObj.own [AV.s (SV.str key)] (9 : Nat), AObj.own [AV.s (SV.int IntKind.i64 (0 : Int)), AV.s (SV.int IntKind.i64 (0 : Int))] (39 : Nat), AObj.own [AV.s (SV.bool false)] (4 : Nat), AObj.dead, AObj.dead] (hr Try.f77 (8 : Nat)) (Stk.mk (some (77 : Nat)) false (0 : Nat) [inRange Try.f70 (some (70 : Nat)) (6 : Nat) (1 : Nat), inRange Try.f13 none (5 : Nat) (1 : Nat)] (0 : Nat)))))
                (Tree.at (Cfg.mk (sl (195 : Nat) [((0 : Nat), AV.tag (0 : Nat)), ((1 : Nat), AV.ptr (1 : Nat) (0 : Nat)), ((6 : Nat), AV.mapv (2 : Nat)), ((7 : Nat), AV.ptr (3 : Nat) (0 : Nat)), ((84 : Nat), AV.ptr (4 : Nat) (0 : Nat)), ((86 : Nat), AV.ptr (5 : Nat) (0 : Nat)), ((150 : Nat), AV.tag (6 : Nat)), ((151 : Nat), AV.tag (0 : Nat)), ((158 : Nat), AV.ptr (7 : Nat) (0 : Nat)), ((159 : Nat), AV.ptr (8 : Nat) (0 : Nat)), ((160 : Nat), AV.ptr (9 : Nat) (0 : Nat)), ((161 : Nat), AV.ptr (10 : Nat) (0 : Nat)), ((193 : Nat), AV.tag (11 : Nat)), ((194 : Nat), AV.tag (12 : Nat))]) [AObj.dead, AObj.own [AV.s (SV.int IntKind.i64 ck), AV.s (SV.int IntKind.i64 nx), AV.s (SV.ro (Con.typ cP ps)), AV.s (SV.ro (Con.typ cI is)), AV.s (SV.ro (Con.typ cC cs)), AV.s (SV.ro (Con.typ cW ws))] (27 : Nat), AObj.map (CK.int IntKind.i64) (mput m (iI x) ((mget m (iI x)).getD (CK.int IntKind.i64).d + (1 : Int))), AObj.own [AV.s (SV.int IntKind.i64 (iI x)), AV.s (SV.int IntKind.i64 (iU x)), AV.s (SV.int IntKind.u8 (iS x)), AV.s (SV.str (iP x)), AV.s (SV.int IntKind.i64 (iN x)), AV.s (SV.int IntKind.i64 (iF x)), AV.s (SV.int IntKind.u8 (iW x)), AV.s (SV.str (iC x))] (43 : Nat), AObj.own [AV.s (SV.int IntKind.i64 ck), AV.s (SV.int IntKind.i64 nx), AV.s (SV.ro (Con.typ cP ps)), AV.s (SV.ro (Con.typ cI is)), AV.s (SV.ro (Con.typ cC cs)), AV.s (SV.ro (Con.typ cW ws))] (27 : Nat), AObj.own [AV.tag (12 : Nat)] (102 : Nat), AObj.dead, AObj.own [AV.s (SV.int IntKind.u8 ev)] (5 : Nat), AObj.own [AV.s (SV.str key)] (9 : Nat), AObj.own [AV.s (SV.int IntKind.i64 (0 : Int)), AV.s (SV.int IntKind.i64 (0 : Int))] (39 : Nat), AObj.own [AV.s (SV.bool false)] (4 : Nat), AObj.dead, AObj.dead] (hr Try.f77 (8 : Nat)) (Stk.mk (some (77 : Nat)) false (0 : Nat) [inRange Try.f70 (some (70 : Nat)) (6 : Nat) (1 : Nat), inRange Try.f13 none (5 : Nat) (1 : Nat)] (0 : Nat)))))))
          (Tree.ite (hasI is (iU x))
            (Tree.ite (gS is (iU x) == (2 : Int))
              (Tree.need ((pO (getP ps (gP is (iU x)))).length ≤ (1000000 : Nat))
                (Tree.ite (chooseF (pO (getP ps (gP is (iU x)))) (boL ps (gP is (iU x)) (gN is (iU x))) ev key).snd (Tree.ret [AObj.dead, AObj.own [AV.s (SV.int IntKind.i64 ck), AV.s (SV.int IntKind.i64 nx), AV.s (SV.ro (Con.typ cP ps)), AV.s (SV.ro (Con.typ cI is)), AV.s (SV.ro (Con.typ cC cs)), AV.s (SV.ro (Con.typ cW ws))] (27 : Nat), AObj.map (CK.int IntKind.i64) (mput m (iI x) ((mget m (iI x)).getD (CK.int IntKind.i64).d + (1 : Int))), AObj.own [AV.s (SV.int IntKind.i64 (iI x)), AV.s (SV.int IntKind.i64 (iU x)), AV.s (SV.int IntKind.u8 (iS x)), AV.s (SV.str (iP x)), AV.s (SV.int IntKind.i64 (iN x)), AV.s (SV.int IntKind.i64 (iF x)), AV.s (SV.int IntKind.u8 (iW x)), AV.s (SV.str (iC x))] (43 : Nat), AObj.own [AV.s (SV.int IntKind.i64 ck), AV.s (SV.int IntKind.i64 nx), AV.s (SV.ro (Con.typ cP ps)), AV.s (SV.ro (Con.typ cI is)), AV.s (SV.ro (Con.typ cC cs)), AV.s (SV.ro (Con.typ cW ws))] (27 : Nat), AObj.own [AV.tag (12 : Nat)] (102 : Nat), AObj.dead, AObj.own [AV.s (SV.int IntKind.u8 ev)] (5 : Nat), AObj.own [AV.s (SV.str key)] (9 : Nat), AObj.own [AV.s (SV.int IntKind.i64 (gI is (iU x))), AV.s (SV.int IntKind.i64 (chooseF (pO (getP ps (gP is (iU x)))) (boL ps (gP is (iU x)) (gN is (iU x))) ev key).fst)] (39 : Nat), AObj.own [AV.s (SV.blit true)] (4 : Nat), AObj.dead, AObj.dead, AObj.own [AV.s (SV.int IntKind.i64 (iI x)), AV.s (SV.int IntKind.i64 (iU x)), AV.s (SV.int IntKind.u8 (iS x)), AV.s (SV.str (iP x)), AV.s (SV.int IntKind.i64 (iN x)), AV.s (SV.int IntKind.i64 (iF x)), AV.s (SV.int IntKind.u8 (iW x)), AV.s (SV.str (iC x))] (43 : Nat), AObj.own [AV.s (SV.int IntKind.i64 (gI is (iU x))), AV.s (SV.int IntKind.i64 (gU is (iU x))), AV.s (SV.int IntKind.u8 (gS is (iU x))), AV.s (SV.str (gP is (iU x))), AV.s (SV.int IntKind.i64 (gN is (iU x))), AV.s (SV.int IntKind.i64 (gF is (iU x))), AV.s (SV.int IntKind.u8 (gW is (iU x))), AV.s (SV.str (gC is (iU x)))] (43 : Nat), AObj.own [AV.s (SV.int IntKind.i64 (gI is (iU x))), AV.s (SV.int IntKind.i64 (gU is (iU x))), AV.s (SV.int IntKind.u8 (gS is (iU x))), AV.s (SV.str (gP is (iU x))), AV.s (SV.int IntKind.i64 (gN is (iU x))), AV.s (SV.int IntKind.i64 (gF is (iU x))), AV.s (SV.int IntKind.u8 (gW is (iU x))), AV.s (SV.str (gC is (iU x))), AV.s (SV.str (pN (getP ps (gP is (iU x))))), AV.s (SV.ro (Con.typ cV (pV (getP ps (gP is (iU x)))))), AV.s (SV.ro (Con.typ cN (pO (getP ps (gP is (iU x)))))), AV.s (SV.ro (Con.typ cF (pF (getP ps (gP is (iU x)))))), AV.s (SV.ro (Con.ints IntKind.i64 (boL ps (gP is (iU x)) (gN is (iU x)))))] (70 : Nat)] (AV.tup [AV.agg [AV.s (SV.int IntKind.i64 (gI is (iU x))), AV.s (SV.int IntKind.i64 (chooseF (pO (getP ps (gP is (iU x)))) (boL ps (gP is (iU x)) (gN is (iU x))) ev key).fst)], AV.s (SV.blit true)]))
                  (Tree.at (Cfg.mk (sl (195 : Nat) [((0 : Nat), AV.tag (0 : Nat)), ((1 : Nat), AV.ptr (1 : Nat) (0 : Nat)), ((6 : Nat), AV.mapv (2 : Nat)), ((7 : Nat), AV.ptr (3 : Nat) (0 : Nat)), ((84 : Nat), AV.ptr (4 : Nat) (0 : Nat)), ((86 : Nat), AV.ptr (5 : Nat) (0 : Nat)), ((150 : Nat), AV.tag (6 : Nat)), ((151 : Nat), AV.tag (0 : Nat)), ((158 : Nat), AV.ptr (7 : Nat) (0 : Nat)), ((159 : Nat), AV.ptr (8 : Nat) (0 : Nat)), ((160 : Nat), AV.ptr (9 : Nat) (0 : Nat)), ((161 : Nat), AV.ptr (10 : Nat) (0 : Nat)), ((193 : Nat), AV.tag (11 : Nat)), ((194 : Nat), AV.tag (12 : Nat))]) [AObj.dead, AObj.own [AV.s (SV.int IntKind.i64 ck), AV.s (SV.int IntKind.i64 nx), AV.s (SV.ro (Con.typ cP ps)), AV.s (SV.ro (Con.typ cI is)), AV.s (SV.ro (Con.typ cC cs)), AV.s (SV.ro (Con.typ cW ws))] (27 : Nat), AObj.map (CK.int IntKind.i64) (mput m (iI x) ((mget m (iI x)).getD (CK.int IntKind.i64).d + (1 : Int))), AObj.own [AV.s (SV.int IntKind.i64 (iI x)), AV.s (SV.int IntKind.i64 (iU x)), AV.s (SV.int IntKind.u8 (iS x)), AV.s (SV.str (iP x)), AV.s (SV.int IntKind.i64 (iN x)), AV.s (SV.int IntKind.i64 (iF x)), AV.s (SV.int IntKind.u8 (iW x)), AV.s (SV.str (iC x))] (43 : Nat), AObj.own [AV.s (SV.int IntKind.i64 ck), AV.s (SV.int IntKind.i64 nx), AV.s (SV.ro (Con.typ cP ps)), AV.s (SV.ro (Con.typ cI is)), AV.s (SV.ro (Con.typ cC cs)), AV.s (SV.ro (Con.typ cW ws))] (27 : Nat), AObj.own [AV.tag (12 : Nat)] (102 : Nat), AObj.dead, AObj.own [AV.s (SV.int IntKind.u8 ev)] (5 : Nat), AObj.own [AV.s (SV.str key)] (9 : Nat), AObj.own [AV.s (SV.int IntKind.i64 (0 : Int)), AV.s (SV.int IntKind.i64 (0 : Int))] (39 : Nat), AObj.own [AV.s (SV.bool false)] (4 : Nat), AObj.dead, AObj.dead] (hr Try.f77 (8 : Nat)) (Stk.mk (some (77 : Nat)) false (0 : Nat) [inRange Try.f70 (some (70 : Nat)) (6 : Nat) (1 : Nat), inRange Try.f13 none (5 : Nat) (1 : Nat)] (0 : Nat))))))
              (Tree.at (Cfg.mk (sl (195 : Nat) [((0 : Nat), AV.tag (0 : Nat)), ((1 : Nat), AV.ptr (1 : Nat) (0 : Nat)), ((6 : Nat), AV.mapv (2 : Nat)), ((7 : Nat), AV.ptr (3 : Nat) (0 : Nat)), ((84 : Nat), AV.ptr (4 : Nat) (0 : Nat)), ((86 : Nat), AV.ptr (5 : Nat) (0 : Nat)), ((150 : Nat), AV.tag (6 : Nat)), ((151 : Nat), AV.tag (0 : Nat)), ((158 : Nat), AV.ptr (7 : Nat) (0 : Nat)), ((159 : Nat), AV.ptr (8 : Nat) (0 : Nat)), ((160 : Nat), AV.ptr (9 : Nat) (0 : Nat)), ((161 : Nat), AV.ptr (10 : Nat) (0 : Nat)), ((193 : Nat), AV.tag (11 : Nat)), ((194 : Nat), AV.tag (12 : Nat))]) [AObj.dead, AObj.own [AV.s (SV.int IntKind.i64 ck), AV.s (SV.int IntKind.i64 nx), AV.s (SV.ro (Con.typ cP ps)), AV.s (SV.ro (Con.typ cI is)), AV.s (SV.ro (Con.typ cC cs)), AV.s (SV.ro (Con.typ cW ws))] (27 : Nat), AObj.map (CK.int IntKind.i64) (mput m (iI x) ((mget m (iI x)).getD (CK.int IntKind.i64).d + (1 : Int))), AObj.own [AV.s (SV.int IntKind.i64 (iI x)), AV.s (SV.int IntKind.i64 (iU x)), AV.s (SV.int IntKind.u8 (iS x)), AV.s (SV.str (iP x)), AV.s (SV.int IntKind.i64 (iN x)), AV.s (SV.int IntKind.i64 (iF x)), AV.s (SV.int IntKind.u8 (iW x)), AV.s (SV.str (iC x))] (43 : Nat), AObj.own [AV.s (SV.int IntKind.i64 ck), AV.s (SV.int IntKind.i64 nx), AV.s (SV.ro (Con.typ cP ps)), AV.s (SV.ro (Con.typ cI is)), AV.s (SV.ro (Con.typ cC cs)), AV.s (SV.ro (Con.typ cW ws))] (27 : Nat), AObj.own [AV.tag (12 : Nat)] (102 : Nat), AObj.dead, AObj.own [AV.s (SV.int IntKind.u8 ev)] (5 : Nat), AObj.own [AV.s (SV.str key)] (9 : Nat), AObj.own [AV.s (SV.int IntKind.i64 (0 : Int)), AV.s (SV.int IntKind.i64 (0 : Int))] (39 : Nat), AObj.own [AV.s (SV.bool false)] (4 : Nat), AObj.dead, AObj.dead] (hr Try.f77 (8 : Nat)) (Stk.mk (some (77 : Nat)) false (0 : Nat) [inRange Try.f70 (some (70 : Nat)) (6 : Nat) (1 : Nat), inRange Try.f13 none (5 : Nat) (1 : Nat)] (0 : Nat)))))
            (Tree.at (Cfg.mk (sl (195 : Nat) [((0 : Nat), AV.tag (0 : Nat)), ((1 : Nat), AV.ptr (1 : Nat) (0 : Nat)), ((6 : Nat), AV.mapv (2 : Nat)), ((7 : Nat), AV.ptr (3 : Nat) (0 : Nat)), ((84 : Nat), AV.ptr (4 : Nat) (0 : Nat)), ((86 : Nat), AV.ptr (5 : Nat) (0 : Nat)), ((150 : Nat), AV.tag (6 : Nat)), ((151 : Nat), AV.tag (0 : Nat)), ((158 : Nat), AV.ptr (7 : Nat) (0 : Nat)), ((159 : Nat), AV.ptr (8 : Nat) (0 : Nat)), ((160 : Nat), AV.ptr (9 : Nat) (0 : Nat)), ((161 : Nat), AV.ptr (10 : Nat) (0 : Nat)), ((193 : Nat), AV.tag (11 : Nat)), ((194 : Nat), AV.tag (12 : Nat))]) [AObj.dead, AObj.own [AV.s (SV.int IntKind.i64 ck), AV.s (SV.int IntKind.i64 nx), AV.s (SV.ro (Con.typ cP ps)), AV.s (SV.ro (Con.typ cI is)), AV.s (SV.ro (Con.typ cC cs)), AV.s (SV.ro (Con.typ cW ws))] (27 : Nat), AObj.map (CK.int IntKind.i64) (mput m (iI x) ((mget m (iI x)).getD (CK.int IntKind.i64).d + (1 : Int))), AObj.own [AV.s (SV.int IntKind.i64 (iI x)), AV.s (SV.int IntKind.i64 (iU x)), AV.s (SV.int IntKind.u8 (iS x)), AV.s (SV.str (iP x)), AV.s (SV.int IntKind.i64 (iN x)), AV.s (SV.int IntKind.i64 (iF x)), AV.s (SV.int IntKind.u8 (iW x)), AV.s (SV.str (iC x))] (43 : Nat), AObj.own [AV.s (SV.int IntKind.i64 ck), AV.s (SV.int IntKind.i64 nx), AV.s (SV.ro (Con.typ cP ps)), AV.s (SV.ro (Con.typ cI is)), AV.s (SV.ro (Con.typ cC cs)), AV.s (SV.ro (Con.typ cW ws))] (27 : Nat), AObj.own [AV.tag (12 : Nat)] (102 : Nat), AObj.dead, AObj.own [AV.s (SV.int IntKind.u8 ev)] (5 : Nat), AObj.own [AV.s (SV.str key)] (9 : Nat), AObj.own [AV.s (SV.int IntKind.i64 (0 : Int)), AV.s (SV.int IntKind.i64 (0 : Int))] (39 : Nat), AObj.own [AV.s (SV.bool false)] (4 : Nat), AObj.dead, AObj.dead] (hr Try.f77 (8 : Nat)) (Stk.mk (some (77 : Nat)) false (0 : Nat) [inRange Try.f70 (some (70 : Nat)) (6 : Nat) (1 : Nat), inRange Try.f13 none (5 : Nat) (1 : Nat)] (0 : Nat)))))))
      (Tree.ret [AObj.dead, AObj.own [AV.s (SV.int IntKind.i64 ck), AV.s (SV.int IntKind.i64 nx), AV.s (SV.ro (Con.typ cP ps)), AV.s (SV.ro (Con.typ cI is)), AV.s (SV.ro (Con.typ cC cs)), AV.s (SV.ro (Con.typ cW ws))] (27 : Nat), AObj.map (CK.int IntKind.i64) m, AObj.own [AV.s (SV.int IntKind.i64 (iI x)), AV.s (SV.int IntKind.i64 (iU x)), AV.s (SV.int IntKind.u8 (iS x)), AV.s (SV.str (iP x)), AV.s (SV.int IntKind.i64 (iN x)), AV.s (SV.int IntKind.i64 (iF x)), AV.s (SV.int IntKind.u8 (iW x)), AV.s (SV.str (iC x))] (43 : Nat), AObj.own [AV.s (SV.int IntKind.i64 ck), AV.s (SV.int IntKind.i64 nx), AV.s (SV.ro (Con.typ cP ps)), AV.s (SV.ro (Con.typ cI is)), AV.s (SV.ro (Con.typ cC cs)), AV.s (SV.ro (Con.typ cW ws))] (27 : Nat), AObj.own [AV.tag (12 : Nat)] (102 : Nat), AObj.dead, AObj.own [AV.s (SV.int IntKind.u8 ev)] (5 : Nat), AObj.own [AV.s (SV.str key)] (9 : Nat), AObj.own [AV.s (SV.ilit IntKind.i64 (0 : Int)), AV.s (SV.ilit IntKind.i64 (0 : Int))] (39 : Nat), AObj.own [AV.s (SV.blit false)] (4 : Nat), AObj.dead, AObj.dead] (AV.tup [AV.agg [AV.s (SV.ilit IntKind.i64 (0 : Int)), AV.s (SV.ilit IntKind.i64 (0 : Int))], AV.s (SV.blit false)])))
    (Tree.ret [AObj.dead, AObj.own [AV.s (SV.int IntKind.i64 ck), AV.s (SV.int IntKind.i64 nx), AV.s (SV.ro (Con.typ cP ps)), AV.s (SV.ro (Con.typ cI is)), AV.s (SV.ro (Con.typ cC cs)), AV.s (SV.ro (Con.typ cW ws))] (27 : Nat), AObj.map (CK.int IntKind.i64) m, AObj.own [AV.s (SV.int IntKind.i64 (iI x)), AV.s (SV.int IntKind.i64 (iU x)), AV.s (SV.int IntKind.u8 (iS x)), AV.s (SV.str (iP x)), AV.s (SV.int IntKind.i64 (iN x)), AV.s (SV.int IntKind.i64 (iF x)), AV.s (SV.int IntKind.u8 (iW x)), AV.s (SV.str (iC x))] (43 : Nat), AObj.own [AV.s (SV.int IntKind.i64 ck), AV.s (SV.int IntKind.i64 nx), AV.s (SV.ro (Con.typ cP ps)), AV.s (SV.ro (Con.typ cI is)), AV.s (SV.ro (Con.typ cC cs)), AV.s (SV.ro (Con.typ cW ws))] (27 : Nat), AObj.own [AV.tag (12 : Nat)] (102 : Nat), AObj.dead, AObj.own [AV.s (SV.int IntKind.u8 ev)] (5 : Nat), AObj.own [AV.s (SV.str key)] (9 : Nat), AObj.own [AV.s (SV.ilit IntKind.i64 (0 : Int)), AV.s (SV.ilit IntKind.i64 (0 : Int))] (39 : Nat), AObj.own [AV.s (SV.blit false)] (4 : Nat), AObj.dead, AObj.dead] (AV.tup [AV.agg [AV.s (SV.ilit IntKind.i64 (0 : Int)), AV.s (SV.ilit IntKind.i64 (0 : Int))], AV.s (SV.blit false)])))
  (Tree.ret [AObj.dead, AObj.own [AV.s (SV.int IntKind.i64 ck), AV.s (SV.int IntKind.i64 nx), AV.s (SV.ro (Con.typ cP ps)), AV.s (SV.ro (Con.typ cI is)), AV.s (SV.ro (Con.typ cC cs)), AV.s (SV.ro (Con.typ cW ws))] (27 : Nat), AObj.map (CK.int IntKind.i64) m, AObj.own [AV.s (SV.int IntKind.i64 (iI x)), AV.s (SV.int IntKind.i64 (iU x)), AV.s (SV.int IntKind.u8 (iS x)), AV.s (SV.str (iP x)), AV.s (SV.int IntKind.i64 (iN x)), AV.s (SV.int IntKind.i64 (iF x)), AV.s (SV.int IntKind.u8 (iW x)), AV.s (SV.str (iC x))] (43 : Nat), AObj.own [AV.s (SV.int IntKind.i64 ck), AV.s (SV.int IntKind.i64 nx), AV.s (SV.ro (Con.typ cP ps)), AV.s (SV.ro (Con.typ cI is)), AV.s (SV.ro (Con.typ cC cs)), AV.s (SV.ro (Con.typ cW ws))] (27 : Nat), AObj.own [AV.tag (12 : Nat)] (102 : Nat), AObj.dead, AObj.own [AV.s (SV.int IntKind.u8 ev)] (5 : Nat), AObj.own [AV.s (SV.str key)] (9 : Nat), AObj.own [AV.s (SV.ilit IntKind.i64 (0 : Int)), AV.s (SV.ilit IntKind.i64 (0 : Int))] (39 : Nat), AObj.own [AV.s (SV.blit false)] (4 : Nat), AObj.dead, AObj.dead] (AV.tup [AV.agg [AV.s (SV.ilit IntKind.i64 (0 : Int)), AV.s (SV.ilit IntKind.i64 (0 : Int))], AV.s (SV.blit false)])) := by kernel_rfl
theorem loopRg (ck nx : Int) (ps : Ps) (is : Is) (cs : Cs) (ws : Ws) (ev : Int) (key : ByteArray) (x : CL cI) (m : Mp) : run P tabRf.sum Try.f13 nsRg (cRg ck nx ps is cs ws ev key x m) inRf =
  Tree.ite (hasI is (iU x))
  (Tree.ite (hasI is (iU x))
    (Tree.ite (gS is (iU x) == (2 : Int)) (Tree.at (Cfg.mk (sl (195 : Nat) [((0 : Nat), AV.tag (0 : Nat)), ((1 : Nat), AV.ptr (1 : Nat) (0 : Nat)), ((5 : Nat), AV.s (SV.bool (hasI is (gU is (iU x))))), ((6 : Nat), AV.mapv (2 : Nat)), ((7 : Nat), AV.ptr (3 : Nat) (0 : Nat)), ((8 : Nat), AV.s (SV.bool (gS is (iU x) != (2 : Int)))), ((84 : Nat), AV.ptr (4 : Nat) (0 : Nat)), ((86 : Nat), AV.ptr (5 : Nat) (0 : Nat)), ((150 : Nat), AV.tag (6 : Nat)), ((151 : Nat), AV.tag (0 : Nat)), ((158 : Nat), AV.ptr (7 : Nat) (0 : Nat)), ((159 : Nat), AV.ptr (8 : Nat) (0 : Nat)), ((160 : Nat), AV.ptr (9 : Nat) (0 : Nat)), ((161 : Nat), AV.ptr (10 : Nat) (0 : Nat)), ((193 : Nat), AV.tag (11 : Nat)), ((194 : Nat), AV.tag (12 : Nat))]) [AObj.dead, AObj.own [AV.s (SV.int IntKind.i64 ck), AV.s (SV.int IntKind.i64 nx), AV.s (SV.ro (Con.typ cP ps)), AV.s (SV.ro (Con.typ cI is)), AV.s (SV.ro (Con.typ cC cs)), AV.s (SV.ro (Con.typ cW ws))] (27 : Nat), AObj.map (CK.int IntKind.i64) m, AObj.own [AV.s (SV.int IntKind.i64 (gI is (gU is (iU x)))), AV.s (SV.int IntKind.i64 (gU is (gU is (iU x)))), AV.s (SV.int IntKind.u8 (gS is (gU is (iU x)))), AV.s (SV.str (gP is (gU is (iU x)))), AV.s (SV.int IntKind.i64 (gN is (gU is (iU x)))), AV.s (SV.int IntKind.i64 (gF is (gU is (iU x)))), AV.s (SV.int IntKind.u8 (gW is (gU is (iU x)))), AV.s (SV.str (gC is (gU is (iU x))))] (43 : Nat), AObj.own [AV.s (SV.int IntKind.i64 ck), AV.s (SV.int IntKind.i64 nx), AV.s (SV.ro (Con.typ cP ps)), AV.s (SV.ro (Con.typ cI is)), AV.s (SV.ro (Con.typ cC cs)), AV.s (SV.ro (Con.typ cW ws))] (27 : Nat), AObj.own [AV.tag (12 : Nat)] (102 : Nat), AObj.dead, AObj.own [AV.s (SV.int IntKind.u8 ev)] (5 : Nat), AObj.own [AV.s (SV.str key)] (9 : Nat), AObj.own [AV.s (SV.int IntKind.i64 (0 : Int)), AV.s (SV.int IntKind.i64 (0 : Int))] (39 : Nat), AObj.own [AV.s (SV.bool false)] (4 : Nat), AObj.dead, AObj.dead] (hd Try.f77 (5 : Nat)) (Stk.mk (some (77 : Nat)) false (0 : Nat) [inRange Try.f70 (some (70 : Nat)) (6 : Nat) (1 : Nat), inRange Try.f13 none (5 : Nat) (1 : Nat)] (0 : Nat)))) (Tree.at (Cfg.mk (sl (195 : Nat) [((0 : Nat), AV.tag (0 : Nat)), ((1 : Nat), AV.ptr (1 : Nat) (0 : Nat)), ((5 : Nat), AV.s (SV.bool (hasI is (iU x)))), ((6 : Nat), AV.mapv (2 : Nat)), ((7 : Nat), AV.ptr (3 : Nat) (0 : Nat)), ((8 : Nat), AV.s (SV.bool (gS is (iU x) != (2 : Int)))), ((84 : Nat), AV.ptr (4 : Nat) (0 : Nat)), ((86 : Nat), AV.ptr (5 : Nat) (0 : Nat)), ((150 : Nat), AV.tag (6 : Nat)), ((151 : Nat), AV.tag (0 : Nat)), ((158 : Nat), AV.ptr (7 : Nat) (0 : Nat)), ((159 : Nat), AV.ptr (8 : Nat) (0 : Nat)), ((160 : Nat), AV.ptr (9 : Nat) (0 : Nat)), ((161 : Nat), AV.ptr (10 : Nat) (0 : Nat)), ((193 : Nat), AV.tag (11 : Nat)), ((194 : Nat), AV.tag (12 : Nat))]) [AObj.dead, AObj.own [AV.s (SV.int IntKind.i64 ck), AV.s (SV.int IntKind.i64 nx), AV.s (SV.ro (Con.typ cP ps)), AV.s (SV.ro (Con.typ cI is)), AV.s (SV.ro (Con.typ cC cs)), AV.s (SV.ro (Con.typ cW ws))] (27 : Nat), AObj.map (CK.int IntKind.i64) m, AObj.own [AV.s (SV.int IntKind.i64 (gI is (iU x))), AV.s (SV.int IntKind.i64 (gU is (iU x))), AV.s (SV.int IntKind.u8 (gS is (iU x))), AV.s (SV.str (gP is (iU x))), AV.s (SV.int IntKind.i64 (gN is (iU x))), AV.s (SV.int IntKind.i64 (gF is (iU x))), AV.s (SV.int IntKind.u8 (gW is (iU x))), AV.s (SV.str (gC is (iU x)))] (43 : Nat), AObj.own [AV.s (SV.int IntKind.i64 ck), AV.s (SV.int IntKind.i64 nx), AV.s (SV.ro (Con.typ cP ps)), AV.s (SV.ro (Con.typ cI is)), AV.s (SV.ro (Con.typ cC cs)), AV.s (SV.ro (Con.typ cW ws))] (27 : Nat), AObj.own [AV.tag (12 : Nat)] (102 : Nat), AObj.dead, AObj.own [AV.s (SV.int IntKind.u8 ev)] (5 : Nat), AObj.own [AV.s (SV.str key)] (9 : Nat), AObj.own [AV.s (SV.int IntKind.i64 (0 : Int)), AV.s (SV.int IntKind.i64 (0 : Int))] (39 : Nat), AObj.own [AV.s (SV.bool false)] (4 : Nat), AObj.dead, AObj.dead] (hd Try.f77 (5 : Nat)) (Stk.mk (some (77 : Nat)) false (0 : Nat) [inRange Try.f70 (some (70 : Nat)) (6 : Nat) (1 : Nat), inRange Try.f13 none (5 : Nat) (1 : Nat)] (0 : Nat)))))
    (Tree.at (Cfg.mk (sl (195 : Nat) [((0 : Nat), AV.tag (0 : Nat)), ((1 : Nat), AV.ptr (1 : Nat) (0 : Nat)), ((5 : Nat), AV.s (SV.bool (hasI is (iU x)))), ((6 : Nat), AV.mapv (2 : Nat)), ((7 : Nat), AV.ptr (3 : Nat) (0 : Nat)), ((8 : Nat), AV.s (SV.bool (gS is (iU x) != (2 : Int)))), ((84 : Nat), AV.ptr (4 : Nat) (0 : Nat)), ((86 : Nat), AV.ptr (5 : Nat) (0 : Nat)), ((150 : Nat), AV.tag (6 : Nat)), ((151 : Nat), AV.tag (0 : Nat)), ((158 : Nat), AV.ptr (7 : Nat) (0 : Nat)), ((159 : Nat), AV.ptr (8 : Nat) (0 : Nat)), ((160 : Nat), AV.ptr (9 : Nat) (0 : Nat)), ((161 : Nat), AV.ptr (10 : Nat) (0 : Nat)), ((193 : Nat), AV.tag (11 : Nat)), ((194 : Nat), AV.tag (12 : Nat))]) [AObj.dead, AObj.own [AV.s (SV.int IntKind.i64 ck), AV.s (SV.int IntKind.i64 nx), AV.s (SV.ro (Con.typ cP ps)), AV.s (SV.ro (Con.typ cI is)), AV.s (SV.ro (Con.typ cC cs)), AV.s (SV.ro (Con.typ cW ws))] (27 : Nat), AObj.map (CK.int IntKind.i64) m, AObj.own [AV.s (SV.int IntKind.i64 (gI is (iU x))), AV.s (SV.int IntKind.i64 (gU is (iU x))), AV.s (SV.int IntKind.u8 (gS is (iU x))), AV.s (SV.str (gP is (iU x))), AV.s (SV.int IntKind.i64 (gN is (iU x))), AV.s (SV.int IntKind.i64 (gF is (iU x))), AV.s (SV.int IntKind.u8 (gW is (iU x))), AV.s (SV.str (gC is (iU x)))] (43 : Nat), AObj.own [AV.s (SV.int IntKind.i64 ck), AV.s (SV.int IntKind.i64 nx), AV.s (SV.ro (Con.typ cP ps)), AV.s (SV.ro (Con.typ cI is)), AV.s (SV.ro (Con.typ cC cs)), AV.s (SV.ro (Con.typ cW ws))] (27 : Nat), AObj.own [AV.tag (12 : Nat)] (102 : Nat), AObj.dead, AObj.own [AV.s (SV.int IntKind.u8 ev)] (5 : Nat), AObj.own [AV.s (SV.str key)] (9 : Nat), AObj.own [AV.s (SV.int IntKind.i64 (0 : Int)), AV.s (SV.int IntKind.i64 (0 : Int))] (39 : Nat), AObj.own [AV.s (SV.bool false)] (4 : Nat), AObj.dead, AObj.dead] (hd Try.f77 (5 : Nat)) (Stk.mk (some (77 : Nat)) false (0 : Nat) [inRange Try.f70 (some (70 : Nat)) (6 : Nat) (1 : Nat), inRange Try.f13 none (5 : Nat) (1 : Nat)] (0 : Nat)))))
  (Tree.ite (hasI is (iU x)) (Tree.ite (gS is (iU x) == (2 : Int)) (Tree.at (Cfg.mk (sl (195 : Nat) [((0 : Nat), AV.tag (0 : Nat)), ((1 : Nat), AV.ptr (1 : Nat) (0 : Nat)), ((5 : Nat), AV.s (SV.bool (hasI is (gU is (iU x))))), ((6 : Nat), AV.mapv (2 : Nat)), ((7 : Nat), AV.ptr (3 : Nat) (0 : Nat)), ((8 : Nat), AV.s (SV.bool false)), ((84 : Nat), AV.ptr (4 : Nat) (0 : Nat)), ((86 : Nat), AV.ptr (5 : Nat) (0 : Nat)), ((150 : Nat), AV.tag (6 : Nat)), ((151 : Nat), AV.tag (0 : Nat)), ((158 : Nat), AV.ptr (7 : Nat) (0 : Nat)), ((159 : Nat), AV.ptr (8 : Nat) (0 : Nat)), ((160 : Nat), AV.ptr (9 : Nat) (0 : Nat)), ((161 : Nat), AV.ptr (10 : Nat) (0 : Nat)), ((193 : Nat), AV.tag (11 : Nat)), ((194 : Nat), AV.tag (12 : Nat))]) [AObj.dead, AObj.own [AV.s (SV.int IntKind.i64 ck), AV.s (SV.int IntKind.i64 nx), AV.s (SV.ro (Con.typ cP ps)), AV.s (SV.ro (Con.typ cI is)), AV.s (SV.ro (Con.typ cC cs)), AV.s (SV.ro (Con.typ cW ws))] (27 : Nat), AObj.map (CK.int IntKind.i64) m, AObj.own [AV.s (SV.int IntKind.i64 (gI is (gU is (iU x)))), AV.s (SV.int IntKind.i64 (gU is (gU is (iU x)))), AV.s (SV.int IntKind.u8 (gS is (gU is (iU x)))), AV.s (SV.str (gP is (gU is (iU x)))), AV.s (SV.int IntKind.i64 (gN is (gU is (iU x)))), AV.s (SV.int IntKind.i64 (gF is (gU is (iU x)))), AV.s (SV.int IntKind.u8 (gW is (gU is (iU x)))), AV.s (SV.str (gC is (gU is (iU x))))] (43 : Nat), AObj.own [AV.s (SV.int IntKind.i64 ck), AV.s (SV.int IntKind.i64 nx), AV.s (SV.ro (Con.typ cP ps)), AV.s (SV.ro (Con.typ cI is)), AV.s (SV.ro (Con.typ cC cs)), AV.s (SV.ro (Con.typ cW ws))] (27 : Nat), AObj.own [AV.tag (12 : Nat)] (102 : Nat), AObj.dead, AObj.own [AV.s (SV.int IntKind.u8 ev)] (5 : Nat), AObj.own [AV.s (SV.str key)] (9 : Nat), AObj.own [AV.s (SV.int IntKind.i64 (0 : Int)), AV.s (SV.int IntKind.i64 (0 : Int))] (39 : Nat), AObj.own [AV.s (SV.bool false)] (4 : Nat), AObj.dead, AObj.dead] (hd Try.f77 (5 : Nat)) (Stk.mk (some (77 : Nat)) false (0 : Nat) [inRange Try.f70 (some (70 : Nat)) (6 : Nat) (1 : Nat), inRange Try.f13 none (5 : Nat) (1 : Nat)] (0 : Nat)))) (Tree.at (Cfg.mk (sl (195 : Nat) [((0 : Nat), AV.tag (0 : Nat)), ((1 : Nat), AV.ptr (1 : Nat) (0 : Nat)), ((5 : Nat), AV.s (SV.bool (hasI is (iU x)))), ((6 : Nat), AV.mapv (2 : Nat)), ((7 : Nat), AV.ptr (3 : Nat) (0 : Nat)), ((8 : Nat), AV.s (SV.bool false)), ((84 : Nat), AV.ptr (4 : Nat) (0 : Nat)), ((86 : Nat), AV.ptr (5 : Nat) (0 : Nat)), ((150 : Nat), AV.tag (6 : Nat)), ((151 : Nat), AV.tag (0 : Nat)), ((158 : Nat), AV.ptr (7 : Nat) (0 : Nat)), ((159 : Nat), AV.ptr (8 : Nat) (0 : Nat)), ((160 : Nat), AV.ptr (9 : Nat) (0 : Nat)), ((161 : Nat), AV.ptr (10 : Nat) (0 : Nat)), ((193 : Nat), AV.tag (11 : Nat)), ((194 : Nat), AV.tag (12 : Nat))]) [AObj.dead, AObj.own [AV.s (SV.int IntKind.i64 ck), AV.s (SV.int IntKind.i64 nx), AV.s (SV.ro (Con.typ cP ps)), AV.s (SV.ro (Con.typ cI is)), AV.s (SV.ro (Con.typ cC cs)), AV.s (SV.ro (Con.typ cW ws))] (27 : Nat), AObj.map (CK.int IntKind.i64) m, AObj.own [AV.s (SV.int IntKind.i64 (gI is (iU x))), AV.s (SV.int IntKind.i64 (gU is (iU x))), AV.s (SV.int IntKind.u8 (gS is (iU x))), AV.s (SV.str (gP is (iU x))), AV.s (SV.int IntKind.i64 (gN is (iU x))), AV.s (SV.int IntKind.i64 (gF is (iU x))), AV.s (SV.int IntKind.u8 (gW is (iU x))), AV.s (SV.str (gC is (iU x)))] (43 : Nat), AObj.own [AV.s (SV.int IntKind.i64 ck), AV.s (SV.int IntKind.i64 nx), AV.s (SV.ro (Con.typ cP ps)), AV.s (SV.ro (Con.typ cI is)), AV.s (SV.ro (Con.typ cC cs)), AV.s (SV.ro (Con.typ cW ws))] (27 : Nat), AObj.own [AV.tag (12 : Nat)] (102 : Nat), AObj.dead, AObj.own [AV.s (SV.int IntKind.u8 ev)] (5 : Nat), AObj.own [AV.s (SV.str key)] (9 : Nat), AObj.own [AV.s (SV.int IntKind.i64 (0 : Int)), AV.s (SV.int IntKind.i64 (0 : Int))] (39 : Nat), AObj.own [AV.s (SV.bool false)] (4 : Nat), AObj.dead, AObj.dead] (hd Try.f77 (5 : Nat)) (Stk.mk (some (77 : Nat)) false (0 : Nat) [inRange Try.f70 (some (70 : Nat)) (6 : Nat) (1 : Nat), inRange Try.f13 none (5 : Nat) (1 : Nat)] (0 : Nat)))))
    (Tree.at (Cfg.mk (sl (195 : Nat) [((0 : Nat), AV.tag (0 : Nat)), ((1 : Nat), AV.ptr (1 : Nat) (0 : Nat)), ((5 : Nat), AV.s (SV.bool (hasI is (iU x)))), ((6 : Nat), AV.mapv (2 : Nat)), ((7 : Nat), AV.ptr (3 : Nat) (0 : Nat)), ((8 : Nat), AV.s (SV.bool false)), ((84 : Nat), AV.ptr (4 : Nat) (0 : Nat)), ((86 : Nat), AV.ptr (5 : Nat) (0 : Nat)), ((150 : Nat), AV.tag (6 : Nat)), ((151 : Nat), AV.tag (0 : Nat)), ((158 : Nat), AV.ptr (7 : Nat) (0 : Nat)), ((159 : Nat), AV.ptr (8 : Nat) (0 : Nat)), ((160 : Nat), AV.ptr (9 : Nat) (0 : Nat)), ((161 : Nat), AV.ptr (10 : Nat) (0 : Nat)), ((193 : Nat), AV.tag (11 : Nat)), ((194 : Nat), AV.tag (12 : Nat))]) [AObj.dead, AObj.own [AV.s (SV.int IntKind.i64 ck), AV.s (SV.int IntKind.i64 nx), AV.s (SV.ro (Con.typ cP ps)), AV.s (SV.ro (Con.typ cI is)), AV.s (SV.ro (Con.typ cC cs)), AV.s (SV.ro (Con.typ cW ws))] (27 : Nat), AObj.map (CK.int IntKind.i64) m, AObj.own [AV.s (SV.int IntKind.i64 (gI is (iU x))), AV.s (SV.int IntKind.i64 (gU is (iU x))), AV.s (SV.int IntKind.u8 (gS is (iU x))), AV.s (SV.str (gP is (iU x))), AV.s (SV.int IntKind.i64 (gN is (iU x))), AV.s (SV.int IntKind.i64 (gF is (iU x))), AV.s (SV.int IntKind.u8 (gW is (iU x))), AV.s (SV.str (gC is (iU x)))] (43 : Nat), AObj.own [AV.s (SV.int IntKind.i64 ck), AV.s (SV.int IntKind.i64 nx), AV.s (SV.ro (Con.typ cP ps)), AV.s (SV.ro (Con.typ cI is)), AV.s (SV.ro (Con.typ cC cs)), AV.s (SV.ro (Con.typ cW ws))] (27 : Nat), AObj.own [AV.tag (12 : Nat)] (102 : Nat), AObj.dead, AObj.own [AV.s (SV.int IntKind.u8 ev)] (5 : Nat), AObj.own [AV.s (SV.str key)] (9 : Nat), AObj.own [AV.s (SV.int IntKind.i64 (0 : Int)), AV.s (SV.int IntKind.i64 (0 : Int))] (39 : Nat), AObj.own [AV.s (SV.bool false)] (4 : Nat), AObj.dead, AObj.dead] (hd Try.f77 (5 : Nat)) (Stk.mk (some (77 : Nat)) false (0 : Nat) [inRange Try.f70 (some (70 : Nat)) (6 : Nat) (1 : Nat), inRange Try.f13 none (5 : Nat) (1 : Nat)] (0 : Nat))))) := by kernel_rfl
end Ds

namespace Ds
open Go Go.Sx Go.Proofs Lf
def nxB (is : Is) (x : CL cI) : Bool := if (hasI is (iU x) && (gS is (iU x) == 2)) = true then hasI is (gU is (iU x)) else hasI is (iU x)
def nxO (is : Is) (x : CL cI) : Bool := hasI is (iU x) && (gS is (iU x) != 2)
def nxX (is : Is) (x : CL cI) : CL cI := if (hasI is (iU x) && (gS is (iU x) == 2)) = true then getT is (gU is (iU x)) else getT is (iU x)
/-- the scopes above, and whether one came from one of an Aside of it -/
def scL (is : Is) : Nat → Bool → Bool → CL cI → List Int → List (CL cI × Bool)
  | 0, _, _, _, _ => []
  | n + 1, b, own, x, seen => if b = true ∧ iS x = 1 ∧ iI x ∉ seen then (x, own) :: scL is n (nxB is x) (nxO is x) (nxX is x) (seen ++ [iI x]) else []
def scopesF (is : Is) (id : Int) : List (CL cI × Bool) :=
  if (hasI is id && (gS is id == 2)) = true then scL is (is.length + 1) (hasI is (gU is id)) false (getT is (gU is id)) [] else []
abbrev Pl3 : Type := CL cI × CL cP × List Int
def boP (ps : Ps) (is : Is) (id : Int) : Pl3 := (getT is id, getP ps (gP is id), boL ps (gP is id) (gN is id))
def asP (ps : Ps) (x : CL cI) : Pl3 := (x, getP ps (iP x), asL (pO (getP ps (iP x))) (iN x))
def plOf (ps : Ps) (is : Is) (e : CL cI × Bool) : List Pl3 :=
  (if e.2 = true then [] else [asP ps e.1]) ++ (if (hasI is (iU e.1) && (gS is (iU e.1) == 2)) = true then [boP ps is (iU e.1)] else [])
def placesF (ps : Ps) (is : Is) (id : Int) : List Pl3 :=
  if (hasI is id && (gS is id == 2)) = true then boP ps is id :: (scopesF is id).flatMap (plOf ps is) else []
def tryP (ev : Int) (key : ByteArray) (e : Pl3) : Option (Int × Int) :=
  if (chooseF (pO e.2.1) e.2.2 ev key).2 = true then some (iI e.1, (chooseF (pO e.2.1) e.2.2 ev key).1) else none
def findF (ps : Ps) (is : Is) (id ev : Int) (key : ByteArray) : Option (Int × Int) :=
  if ev = 4 ∨ ev = 5 then (placesF ps is id).findSome? (tryP ev key) else none
def hI (o : Option (Int × Int)) : Int := match o with | some x => x.1 | none => 0
def hN (o : Option (Int × Int)) : Int := match o with | some x => x.2 | none => 0
abbrev tHd : Ty := .st [.int .i64, .int .i64]
abbrev resT (o : Option (Int × Int)) : AL [tHd, tBool] := ((hI o, hN o, ()), o.isSome, ())
def okN (ps : Ps) : Prop := ∀ p ∈ ps, (pO p).length ≤ 1000000
theorem getP_len {ps : Ps} (h : okN ps) (name : ByteArray) : (pO (getP ps name)).length ≤ 1000000 := by
  cases hp : hasP ps name with
  | false => rw [no_proc hp]; exact Nat.zero_le _
  | true =>
    have h1 : 0 ≤ defP ps name := of_decide_eq_true hp
    refine h _ ?_
    show el ps (whereP ps name) ∈ ps
    unfold whereP
    rw [if_pos h1]
    rcases idxF_spec (p := pDf name) (l := ps) with ⟨e, _⟩ | ⟨i, e, h2, _⟩
    · exact absurd e (by unfold defP at h1; omega)
    · rw [show defP ps name = (i : Int) from e, el_lt h2]; exact List.getElem_mem h2
theorem has_item {is : Is} {id : Int} (h : hasI is id = true) : gI is id = id ∧ id ∈ is.map iI ∧ getI is id ∈ is := by
  have h0 : 0 ≤ placeF is id := of_decide_eq_true h
  rcases place_range is id with ⟨e, _⟩ | ⟨_, h1, h2, h3⟩
  · omega
  · have e : getI is id = is[(placeF is id).toNat] := by
      show el is (whereF is id) = _
      unfold whereF
      rw [if_pos h0]
      exact getD_lt h2
    refine ⟨by unfold gI; rw [e]; exact h3, ?_, by rw [e]; exact List.getElem_mem h2⟩
    rw [← h3]
    exact List.mem_map_of_mem (List.getElem_mem h2)
theorem scL_succ (is : Is) (n : Nat) (b own : Bool) (x : CL cI) (seen : List Int) : scL is (n + 1) b own x seen = if b = true ∧ iS x = 1 ∧ iI x ∉ seen then (x, own) :: scL is n (nxB is x) (nxO is x) (nxX is x) (seen ++ [iI x]) else [] := rfl
theorem fs_one {α β : Type} (f : α → Option β) (a : α) : [a].findSome? f = f a := by cases h : f a <;> simp [List.findSome?, h]
theorem fs_cons {α β : Type} (f : α → Option β) (a : α) (l : List α) : (a :: l).findSome? f = (f a).or (l.findSome? f) := by cases h : f a <;> simp [List.findSome?, h]
theorem tabRf_ok {Z : Glob} : tabRf.Ok P Z := Tab.Ok.cons find_ok.sum (Tab.Ok.cons bds_ok.sumR (Tab.Ok.cons asd_ok.sumR (Tab.Ok.cons choose_ok.sum Tab.Ok.nil)))
theorem rfind_ok {Z : Glob} : FnOk P Z 13 [tSt, tInt, tU8, tStr] [tHd, tBool] (fun ((_, _, ps, _, _, _, ()), _) => [okN ps]) (fun ((_, _, ps, is, _, _, ()), id, ev, key, ()) => resT (findF ps is id ev key)) := by
  refine fnOk_of_safe Try.func13 (by kernel_rfl) (by kernel_rfl) ?_
  rintro ⟨⟨(ck : Int), (nx : Int), (ps : Ps), (is : Is), (cs : Cs), (ws : Ws), ⟨⟩⟩, (id : Int), (ev : Int), (key : ByteArray), ⟨⟩⟩ _ ⟨hl, _⟩ X hX hz
  show Safe P 13 X (Ends [tHd, tBool] (resT (findF ps is id ev key))) _
  have loop : ∀ (n : Nat) (b own : Bool) (x : CL cI) (seen : List Int) (m : Mp) (R : Option (Int × Int)), Marks m seen → seen.Nodup → (∀ k ∈ seen, k ∈ is.map iI) → (b = true → iI x ∈ is.map iI) → is.length < n + seen.length →
      R = ((scL is n b own x seen).flatMap (plOf ps is)).findSome? (tryP ev key) → Safe P 13 X (Ends [tHd, tBool] (resT R)) (cRf ck nx ps is cs ws ev key b own x m) := by
    intro n
    induction n with
    | zero =>
      intro b own x seen m R _ hnd hsub _ hlt _
      have := nodup_len hnd hsub
      rw [List.length_map] at this
      omega
    | succ n ih =>
      intro b own x seen m R hm hnd hsub hb hlt hR
      have none_ : ¬ (b = true ∧ iS x = 1 ∧ iI x ∉ seen) → R = none := fun h => by
        rw [hR, scL_succ, if_neg h]; rfl
      refine go hz hX tabRf_ok Try.func13 (loopRf ck nx ps is cs ws ev key b own x m) ?_
      cases b with
      | false => rw [none_ (by simp)]; exact no_and rfl (ends_eq _ rfl (by kernel_rfl))
      | true =>
      refine yes_and rfl ?_
      by_cases h1 : iS x = 1
      rotate_left
      · rw [none_ (by simp [h1])]; exact no_and (beq_eq_false_iff_ne.2 h1) (ends_eq _ rfl (by kernel_rfl))
      refine yes_and (beq_iff_eq.2 h1) ?_
      have hc : (mget m (iI x)).getD (CK.int IntKind.i64).d = cnt m (iI x) := rfl
      rw [hc]
      by_cases h2 : iI x ∈ seen
      · have : cnt m (iI x) = 1 := by rw [hm, if_pos h2]
        rw [none_ (by simp [h2])]; exact no_and (by rw [this]; rfl) (ends_eq _ rfl (by kernel_rfl))
      have hc0 : cnt m (iI x) = 0 := by rw [hm, if_neg h2]
      refine yes_and (by rw [hc0]; rfl) ⟨by rw [hc0]; exact ⟨by omega, by omega⟩, ?_⟩
      have hm' : Marks (mput m (iI x) (cnt m (iI x) + 1)) (seen ++ [iI x]) := marks_put hm h2
      have hR' : R = ((plOf ps is (x, own)).findSome? (tryP ev key)).or (((scL is n (nxB is x) (nxO is x) (nxX is x) (seen ++ [iI x])).flatMap (plOf ps is)).findSome? (tryP ev key)) := by
        rw [hR, scL_succ, if_pos ⟨rfl, h1, h2⟩, List.flatMap_cons, List.findSome?_append]
      have mid : (plOf ps is (x, own)).findSome? (tryP ev key) = none → Safe P 13 X (Ends [tHd, tBool] (resT R)) (cRg ck nx ps is cs ws ev key x (mput m (iI x) (cnt m (iI x) + 1))) := fun hno => by
        rw [hno, Option.none_or] at hR'
        have next := fun b' own' x' => ih b' own' x' (seen ++ [iI x]) (mput m (iI x) (cnt m (iI x) + 1)) R hm' (by
            rw [List.nodup_append]
            exact ⟨hnd, by simp, fun a ha b hb' e => h2 (by simp at hb'; rw [← hb', ← e]; exact ha)⟩) (fun k hk => by
            rcases List.mem_append.1 hk with hk | hk
            · exact hsub k hk
            · simp at hk; rw [hk]; exact hb rfl)
        have hlen : is.length < n + (seen ++ [iI x]).length := by rw [List.length_append]; simp; omega
        refine go hz hX tabRf_ok Try.func13 (loopRg ck nx ps is cs ws ev key x (mput m (iI x) (cnt m (iI x) + 1))) ?_
        cases h3 : hasI is (iU x) with
        | false =>
          refine no_and rfl (no_and rfl ?_)
          have k := next false false (getT is (iU x)) (by simp) hlen
          have e1 : nxB is x = false := by unfold nxB; rw [h3]; rfl
          have e2 : nxO is x = false := by unfold nxO; rw [h3]; rfl
          have e3 : nxX is x = getT is (iU x) := by unfold nxX; rw [h3]; rfl
          rw [e1, e2, e3] at hR'
          exact k hR'
        | true =>
          refine yes_and rfl (yes_and rfl ?_)
          cases h4 : gS is (iU x) == 2 with
          | true =>
            refine yes_and rfl ?_
            have h5 : (gS is (iU x) != 2) = false := by simp only [bne, h4]; rfl
            rw [h5]
            have e1 : nxB is x = hasI is (gU is (iU x)) := by unfold nxB; rw [h3, h4]; rfl
            have e2 : nxO is x = false := by unfold nxO; rw [h3, h5]; rfl
            have e3 : nxX is x = getT is (gU is (iU x)) := by unfold nxX; rw [h3, h4]; rfl
            rw [e1, e2, e3] at hR'
            exact next (hasI is (gU is (iU x))) false (getT is (gU is (iU x))) (fun hh => by show gI is (gU is (iU x)) ∈ _; rw [(has_item hh).1]; exact (has_item hh).2.1) hlen hR'
          | false =>
            refine no_and rfl ?_
            have h5 : (gS is (iU x) != 2) = true := by simp only [bne, h4]; rfl
            rw [h5]
            have e1 : nxB is x = true := by unfold nxB; rw [h3, h4]; rfl
            have e2 : nxO is x = true := by unfold nxO; rw [h3, h5]; rfl
            have e3 : nxX is x = getT is (iU x) := by unfold nxX; rw [h3, h4]; rfl
            rw [e1, e2, e3] at hR'
            exact next true true (getT is (iU x)) (fun _ => by show gI is (iU x) ∈ _; rw [(has_item h3).1]; exact (has_item h3).2.1) hlen hR'
      have pl : ∀ {l : List Pl3}, (if own = true then [] else [asP ps x]).findSome? (tryP ev key) = none → (if (hasI is (iU x) && (gS is (iU x) == 2)) = true then [boP ps is (iU x)] else []) = l → (plOf ps is (x, own)).findSome? (tryP ev key) = l.findSome? (tryP ev key) := fun h h' => by
        unfold plOf
        rw [List.findSome?_append, h, Option.none_or, h']
      have tail : (if own = true then [] else [asP ps x]).findSome? (tryP ev key) = none → (hasI is (iU x) = false ∨ (gS is (iU x) == 2) = false) → Safe P 13 X (Ends [tHd, tBool] (resT R)) (cRg ck nx ps is cs ws ev key x (mput m (iI x) (cnt m (iI x) + 1))) := fun h h' => mid (by
        rw [pl (l := []) h (by rw [if_neg]; intro hh; rw [Bool.and_eq_true] at hh; rcases h' with h' | h' <;> simp_all)]; rfl)
      have tail2 : (if own = true then [] else [asP ps x]).findSome? (tryP ev key) = none → hasI is (iU x) = true → (gS is (iU x) == 2) = true → (chooseF (pO (getP ps (gP is (iU x)))) (boL ps (gP is (iU x)) (gN is (iU x))) ev key).2 = false → Safe P 13 X (Ends [tHd, tBool] (resT R)) (cRg ck nx ps is cs ws ev key x (mput m (iI x) (cnt m (iI x) + 1))) := fun h h3 h4 h5 => mid (by
        rw [pl (l := [boP ps is (iU x)]) h (by rw [if_pos (by rw [h3, h4]; rfl)])]
        rw [fs_one]
        unfold tryP boP
        rw [if_neg (by rw [h5]; simp)])
      have found : (if own = true then [] else [asP ps x]).findSome? (tryP ev key) = none → hasI is (iU x) = true → (gS is (iU x) == 2) = true → (chooseF (pO (getP ps (gP is (iU x)))) (boL ps (gP is (iU x)) (gN is (iU x))) ev key).2 = true → R = some (gI is (iU x), (chooseF (pO (getP ps (gP is (iU x)))) (boL ps (gP is (iU x)) (gN is (iU x))) ev key).1) := fun h h3 h4 h5 => by
        rw [hR', pl (l := [boP ps is (iU x)]) h (by rw [if_pos (by rw [h3, h4]; rfl)])]
        rw [fs_one]
        unfold tryP boP
        rw [if_pos h5]
        rfl
      cases own with
      | true =>
        refine no_and rfl ?_
        have h0 : (if true = true then [] else [asP ps x]).findSome? (tryP ev key) = none := rfl
        cases h3 : hasI is (iU x) with
        | false => exact no_and rfl (tail h0 (.inl h3))
        | true =>
          refine yes_and rfl ?_
          cases h4 : gS is (iU x) == 2 with
          | false => exact no_and rfl (tail h0 (.inr h4))
          | true =>
            refine yes_and rfl ⟨getP_len hl _, ?_⟩
            cases h5 : (chooseF (pO (getP ps (gP is (iU x)))) (boL ps (gP is (iU x)) (gN is (iU x))) ev key).2 with
            | false => exact no_and rfl (tail2 h0 h3 h4 h5)
            | true => rw [found h0 h3 h4 h5]; exact yes_and rfl (ends_eq _ rfl (by kernel_rfl))
      | false =>
        refine yes_and rfl ⟨getP_len hl _, ?_⟩
        cases h6 : (chooseF (pO (getP ps (iP x))) (asL (pO (getP ps (iP x))) (iN x)) ev key).2 with
        | true =>
          have e : R = some (iI x, (chooseF (pO (getP ps (iP x))) (asL (pO (getP ps (iP x))) (iN x)) ev key).1) := by
            rw [hR']
            unfold plOf
            rw [List.findSome?_append, if_neg (by simp), fs_one]
            unfold tryP asP
            rw [if_pos h6]
            rfl
          rw [e]; exact yes_and rfl (ends_eq _ rfl (by kernel_rfl))
        | false =>
          refine no_and rfl ?_
          have h0 : (if false = true then [] else [asP ps x]).findSome? (tryP ev key) = none := by
            rw [if_neg (by simp), fs_one]
            unfold tryP asP
            rw [if_neg (by rw [h6]; simp)]
          cases h3 : hasI is (iU x) with
          | false => exact no_and rfl (tail h0 (.inl h3))
          | true =>
            refine yes_and rfl ?_
            cases h4 : gS is (iU x) == 2 with
            | false => exact no_and rfl (tail h0 (.inr h4))
            | true =>
              refine yes_and rfl ⟨getP_len hl _, ?_⟩
              cases h5 : (chooseF (pO (getP ps (gP is (iU x)))) (boL ps (gP is (iU x)) (gN is (iU x))) ev key).2 with
              | false => exact no_and rfl (tail2 h0 h3 h4 h5)
              | true => rw [found h0 h3 h4 h5]; exact yes_and rfl (ends_eq _ rfl (by kernel_rfl))
  have e0 : ¬ (ev = 4 ∨ ev = 5) → findF ps is id ev key = none := fun h => by unfold findF; rw [if_neg h]
  have e1 : (hasI is id = false ∨ gS is id ≠ 2) → findF ps is id ev key = none := fun h => by
    unfold findF placesF
    have : ¬ ((hasI is id && (gS is id == 2)) = true) := fun hh => by
      rw [Bool.and_eq_true] at hh
      rcases h with h | h
      · rw [hh.1] at h; cases h
      · exact h (beq_iff_eq.1 hh.2)
    rw [if_neg this]
    split <;> rfl
  have e2 : (ev = 4 ∨ ev = 5) → hasI is id = true → gS is id = 2 → findF ps is id ev key = (tryP ev key (boP ps is id)).or (((scL is (is.length + 1) (hasI is (gU is id)) false (getT is (gU is id)) []).flatMap (plOf ps is)).findSome? (tryP ev key)) := fun h h2 h3 => by
    have h4 : (hasI is id && (gS is id == 2)) = true := by rw [h2, h3]; rfl
    unfold findF placesF scopesF
    rw [if_pos h, if_pos h4, if_pos h4]
    exact fs_cons _ _ _
  have start_ : (ev = 4 ∨ ev = 5) → hasI is id = true → gS is id = 2 → (chooseF (pO (getP ps (gP is id))) (boL ps (gP is id) (gN is id)) ev key).2 = false → Safe P 13 X (Ends [tHd, tBool] (resT (findF ps is id ev key))) (cRf ck nx ps is cs ws ev key (hasI is (gU is id)) false (getT is (gU is id)) []) := fun h h2 h3 h4 => by
    refine loop (is.length + 1) _ _ _ [] [] _ (fun k => by rfl) List.nodup_nil (by simp) (fun hh => by show gI is (gU is id) ∈ _; rw [(has_item hh).1]; exact (has_item hh).2.1) (by simp) ?_
    rw [e2 h h2 h3]
    unfold tryP boP
    rw [if_neg (by rw [h4]; simp)]
    rfl
  have fnd : (ev = 4 ∨ ev = 5) → hasI is id = true → gS is id = 2 → (chooseF (pO (getP ps (gP is id))) (boL ps (gP is id) (gN is id)) ev key).2 = true → findF ps is id ev key = some (gI is id, (chooseF (pO (getP ps (gP is id))) (boL ps (gP is id) (gN is id)) ev key).1) := fun h h2 h3 h4 => by
    rw [e2 h h2 h3]
    unfold tryP boP
    rw [if_pos h4]
    rfl
  refine go hz hX tabRf_ok Try.func13 (trRg ck nx ps is cs ws id ev key) ?_
  have hlen := getP_len hl (gP is id)
  repeat' (with_reducible (first | refine h_eq ?_ | refine h_need ?_ ?_ | refine h_dec (fun _ => ?_) (fun _ => ?_) | refine h_beq (fun _ => ?_) (fun _ => ?_) | refine h_bne (fun _ => ?_) (fun _ => ?_) | refine h_tt ?_ | refine h_ff ?_ | refine h_not ?_ | refine h_ite (fun _ => ?_) (fun _ => ?_) | refine h_both (fun _ => ?_) (fun _ => ?_) | refine h_ret ?_ | refine h_at ?_))
  all_goals first | exact hlen | skip
  all_goals first
    | exact start_ (by omega) (by assumption) (by assumption) (by assumption)
    | (rw [e0 (by omega)]; exact ends_eq _ rfl (by kernel_rfl))
    | (rw [e1 (.inl (by assumption))]; exact ends_eq _ rfl (by kernel_rfl))
    | (rw [e1 (.inr (by assumption))]; exact ends_eq _ rfl (by kernel_rfl))
    | (rw [fnd (by omega) (by assumption) (by assumption) (by assumption)]; exact ends_eq _ rfl (by kernel_rfl))
    | (exfalso; simp_all; done)
end Ds

namespace Ds
open Go Go.Sx Go.Proofs Lf
def nsL22 : List (Nat × Norm) := [(4, ⟨[], [1, 3], 0, []⟩)]
theorem trL22 (ck nx : Int) (ps : Ps) (is : Is) (cs : Cs) (ws : Ws) : run P tab0.sum Try.f11 nsL22 (start Try.f11 [avSt ck nx ps is cs ws] []) =
  Tree.ite (decide ((↑(List.length ps) : Int) > (15 : Int))) (Tree.ret [AObj.own [AV.s (SV.int IntKind.i64 ck), AV.s (SV.int IntKind.i64 nx), AV.s (SV.ro (Con.typ cP ps)), AV.s (SV.ro (Con.typ cI is)), AV.s (SV.ro (Con.typ cC cs)), AV.s (SV.ro (Con.typ cW ws))] (27 : Nat)] (AV.s (SV.blit true))) (Tree.ite (decide ((↑(List.length is) : Int) > (170 : Int))) (Tree.ret [AObj.own [AV.s (SV.int IntKind.i64 ck), AV.s (SV.int IntKind.i64 nx), AV.s (SV.ro (Con.typ cP ps)), AV.s (SV.ro (Con.typ cI is)), AV.s (SV.ro (Con.typ cC cs)), AV.s (SV.ro (Con.typ cW ws))] (27 : Nat)] (AV.s (SV.blit true))) (Tree.ite (decide ((↑(List.length cs) : Int) > (400 : Int))) (Tree.ret [AObj.own [AV.s (SV.int IntKind.i64 ck), AV.s (SV.int IntKind.i64 nx), AV.s (SV.ro (Con.typ cP ps)), AV.s (SV.ro (Con.typ cI is)), AV.s (SV.ro (Con.typ cC cs)), AV.s (SV.ro (Con.typ cW ws))] (27 : Nat)] (AV.s (SV.blit true))) (Tree.ite (decide ((↑(List.length ws) : Int) > (200 : Int))) (Tree.ret [AObj.own [AV.s (SV.int IntKind.i64 ck), AV.s (SV.int IntKind.i64 nx), AV.s (SV.ro (Con.typ cP ps)), AV.s (SV.ro (Con.typ cI is)), AV.s (SV.ro (Con.typ cC cs)), AV.s (SV.ro (Con.typ cW ws))] (27 : Nat)] (AV.s (SV.blit true))) (Tree.at (Cfg.mk (sl (61 : Nat) [((1 : Nat), AV.ptr (0 : Nat) (0 : Nat)), ((3 : Nat), AV.s (SV.int IntKind.i64 (0 : Int)))]) [AObj.own [AV.s (SV.int IntKind.i64 ck), AV.s (SV.int IntKind.i64 nx), AV.s (SV.ro (Con.typ cP ps)), AV.s (SV.ro (Con.typ cI is)), AV.s (SV.ro (Con.typ cC cs)), AV.s (SV.ro (Con.typ cW ws))] (27 : Nat)] (hd Try.f11 (4 : Nat)) (Stk.mk none false (0 : Nat) [] (0 : Nat))))))) := by kernel_rfl
noncomputable def cL22 (ck nx : Int) (ps : Ps) (is : Is) (cs : Cs) (ws : Ws) (i : Int) : Cfg := ⟨sl 61 [(1, .ptr 0 0), (3, avI i)], [obSt ck nx ps is cs ws], hd Try.f11 4, {}⟩
theorem loopL22 (ck nx : Int) (ps : Ps) (is : Is) (cs : Cs) (ws : Ws) (i : Int) : run P tab0.sum Try.f11 nsL22 (cL22 ck nx ps is cs ws i) =
  Tree.ite (decide (i < (↑(List.length ps) : Int))) (Tree.need ((0 : Int) ≤ i) (Tree.need (i < (↑(List.length ps) : Int)) (Tree.ite (decide ((↑(pO (el ps i)).length : Int) > (60 : Int))) (Tree.ret [AObj.own [AV.s (SV.int IntKind.i64 ck), AV.s (SV.int IntKind.i64 nx), AV.s (SV.ro (Con.typ cP ps)), AV.s (SV.ro (Con.typ cI is)), AV.s (SV.ro (Con.typ cC cs)), AV.s (SV.ro (Con.typ cW ws))] (27 : Nat)] (AV.s (SV.blit true))) (Tree.need ((0 : Int) ≤ i) (Tree.need (i < (↑(List.length ps) : Int)) (Tree.ite (decide ((↑(pF (el ps i)).length : Int) > (120 : Int))) (Tree.ret [AObj.own [AV.s (SV.int IntKind.i64 ck), AV.s (SV.int IntKind.i64 nx), AV.s (SV.ro (Con.typ cP ps)), AV.s (SV.ro (Con.typ cI is)), AV.s (SV.ro (Con.typ cC cs)), AV.s (SV.ro (Con.typ cW ws))] (27 : Nat)] (AV.s (SV.blit true))) (Tree.need ((0 : Int) ≤ i) (Tree.need (i < (↑(List.length ps) : Int)) (Tree.ite (decide ((↑(pV (el ps i)).length : Int) > (50 : Int))) (Tree.ret [AObj.own [AV.s (SV.int IntKind.i64 ck), AV.s (SV.int IntKind.i64 nx), AV.s (SV.ro (Con.typ cP ps)), AV.s (SV.ro (Con.typ cI is)), AV.s (SV.ro (Con.typ cC cs)), AV.s (SV.ro (Con.typ cW ws))] (27 : Nat)] (AV.s (SV.blit true))) (Tree.need (inI64 (i + (1 : Int))) (Tree.at (Cfg.mk (sl (61 : Nat) [((1 : Nat), AV.ptr (0 : Nat) (0 : Nat)), ((3 : Nat), AV.s (SV.int IntKind.i64 (i + (1 : Int))))]) [AObj.own [AV.s (SV.int IntKind.i64 ck), AV.s (SV.int IntKind.i64 nx), AV.s (SV.ro (Con.typ cP ps)), AV.s (SV.ro (Con.typ cI is)), AV.s (SV.ro (Con.typ cC cs)), AV.s (SV.ro (Con.typ cW ws))] (27 : Nat)] (hd Try.f11 (4 : Nat)) (Stk.mk none false (0 : Nat) [] (0 : Nat)))))))))))))) (Tree.ret [AObj.own [AV.s (SV.int IntKind.i64 ck), AV.s (SV.int IntKind.i64 nx), AV.s (SV.ro (Con.typ cP ps)), AV.s (SV.ro (Con.typ cI is)), AV.s (SV.ro (Con.typ cC cs)), AV.s (SV.ro (Con.typ cW ws))] (27 : Nat)] (AV.s (SV.blit false))) := by kernel_rfl
theorem trNe (key : ByteArray) : run P tab0.sum Try.f16 [] (start Try.f16 [.s (.str key)] []) =
  Tree.ite (!decide (key = ByteArray.empty))
  (Tree.ite (decide (key = ByteArray.mk #[(42 : UInt8)])) (Tree.need (((3 : Nat) + (2 : Nat)) * (152 : Nat) ≤ (140737488355328 : Nat)) (Tree.ret [AObj.own [AV.s (SV.ilit IntKind.i64 (0 : Int)), AV.s (SV.ilit IntKind.i64 (4 : Int)), AV.vec (5 : Nat), AV.vec (6 : Nat), AV.emp, AV.emp] (27 : Nat), AObj.dead, AObj.own [AV.s (SV.str (ByteArray.mk #[(112 : UInt8)])), AV.emp, AV.s (SV.ro (Con.typ cN ([(ByteArray.mk #[(97 : UInt8)], (11 : Int), (-1 : Int), (-1 : Int), (0 : Int), ByteArray.empty, ByteArray.empty, ByteArray.empty, false, [], [], ()), (ByteArray.mk #[(98 : UInt8)], (15 : Int), (-1 : Int), (0 : Int), (4 : Int), ByteArray.mk #[(107 : UInt8)], ByteArray.empty, ByteArray.empty, true, [], [], ()), (ByteArray.mk #[(99 : UInt8)], (3 : Int), (0 : Int), (-1 : Int), (0 : Int), ByteArray.empty, ByteArray.empty, ByteArray.empty, false, [], [], ())] ++ [(ByteArray.mk #[(100 : UInt8)], (13 : Int), (0 : Int), (-1 : Int), (0 : Int), ByteArray.empty, ByteArray.empty, ByteArray.empty, false, [], [], ()), (ByteArray.mk #[(101 : UInt8)], (1 : Int), (3 : Int), (-1 : Int), (4 : Int), ByteArray.empty, ByteArray.empty, ByteArray.empty, true, [], [], ())]))), AV.emp] (34 : Nat), AObj.vec (Con.typ cN [(ByteArray.mk #[(100 : UInt8)], (13 : Int), (0 : Int), (-1 : Int), (0 : Int), ByteArray.empty, ByteArray.empty, ByteArray.empty, false, [], [], ()), (ByteArray.mk #[(101 : UInt8)], (1 : Int), (3 : Int), (-1 : Int), (4 : Int), ByteArray.empty, ByteArray.empty, ByteArray.empty, true, [], [], ())]) (37 : Nat), AObj.dead, AObj.vec (Con.typ cP [(ByteArray.mk #[(112 : UInt8)], [], [(ByteArray.mk #[(97 : UInt8)], (11 : Int), (-1 : Int), (-1 : Int), (0 : Int), ByteArray.empty, ByteArray.empty, ByteArray.empty, false, [], [], ()), (ByteArray.mk #[(98 : UInt8)], (15 : Int), (-1 : Int), (0 : Int), (4 : Int), ByteArray.mk #[(107 : UInt8)], ByteArray.empty, ByteArray.empty, true, [], [], ()), (ByteArray.mk #[(99 : UInt8)], (3 : Int), (0 : Int), (-1 : Int), (0 : Int), ByteArray.empty, ByteArray.empty, ByteArray.empty, false, [], [], ())] ++ [(ByteArray.mk #[(100 : UInt8)], (13 : Int), (0 : Int), (-1 : Int), (0 : Int), ByteArray.empty, ByteArray.empty, ByteArray.empty, false, [], [], ()), (ByteArray.mk #[(101 : UInt8)], (1 : Int), (3 : Int), (-1 : Int), (4 : Int), ByteArray.empty, ByteArray.empty, ByteArray.empty, true, [], [], ())], [], ())]) (34 : Nat), AObj.vec (Con.typ cI [((1 : Int), (0 : Int), (1 : Int), ByteArray.mk #[(112 : UInt8)], (-1 : Int), (-1 : Int), (0 : Int), ByteArray.empty, ()), ((2 : Int), (1 : Int), (2 : Int), ByteArray.mk #[(112 : UInt8)], (0 : Int), (-1 : Int), (3 : Int), ByteArray.empty, ()), ((3 : Int), (2 : Int), (1 : Int), ByteArray.mk #[(112 : UInt8)], (0 : Int), (-1 : Int), (0 : Int), ByteArray.empty, ()), ((4 : Int), (3 : Int), (2 : Int), ByteArray.mk #[(112 : UInt8)], (2 : Int), (-1 : Int), (2 : Int), ByteArray.empty, ())]) (43 : Nat)] (AV.agg [AV.s (SV.ilit IntKind.i64 (0 : Int)), AV.s (SV.ilit IntKind.i64 (4 : Int)), AV.vec (5 : Nat), AV.vec (6 : Nat), AV.emp, AV.emp])))
    (Tree.need (((3 : Nat) + (2 : Nat)) * (152 : Nat) ≤ (140737488355328 : Nat)) (Tree.ret [AObj.own [AV.s (SV.ilit IntKind.i64 (0 : Int)), AV.s (SV.ilit IntKind.i64 (4 : Int)), AV.vec (5 : Nat), AV.vec (6 : Nat), AV.emp, AV.emp] (27 : Nat), AObj.dead, AObj.own [AV.s (SV.str (ByteArray.mk #[(112 : UInt8)])), AV.emp, AV.s (SV.ro (Con.typ cN ([(ByteArray.mk #[(97 : UInt8)], (11 : Int), (-1 : Int), (-1 : Int), (0 : Int), ByteArray.empty, ByteArray.empty, ByteArray.empty, false, [], [], ()), (ByteArray.mk #[(98 : UInt8)], (15 : Int), (-1 : Int), (0 : Int), (4 : Int), ByteArray.mk #[(107 : UInt8)], ByteArray.empty, ByteArray.empty, true, [], [], ()), (ByteArray.mk #[(99 : UInt8)], (3 : Int), (0 : Int), (-1 : Int), (0 : Int), ByteArray.empty, ByteArray.empty, ByteArray.empty, false, [], [], ())] ++ [(ByteArray.mk #[(100 : UInt8)], (13 : Int), (0 : Int), (-1 : Int), (0 : Int), ByteArray.empty, ByteArray.empty, ByteArray.empty, false, [], [], ()), (ByteArray.mk #[(101 : UInt8)], (1 : Int), (3 : Int), (-1 : Int), (4 : Int), key, ByteArray.empty, ByteArray.empty, true, [], [], ())]))), AV.emp] (34 : Nat), AObj.vec (Con.typ cN [(ByteArray.mk #[(100 : UInt8)], (13 : Int), (0 : Int), (-1 : Int), (0 : Int), ByteArray.empty, ByteArray.empty, ByteArray.empty, false, [], [], ()), (ByteArray.mk #[(101 : UInt8)], (1 : Int), (3 : Int), (-1 : Int), (4 : Int), key, ByteArray.empty, ByteArray.empty, true, [], [], ())]) (37 : Nat), AObj.dead, AObj.vec (Con.typ cP [(ByteArray.mk #[(112 : UInt8)], [], [(ByteArray.mk #[(97 : UInt8)], (11 : Int), (-1 : Int), (-1 : Int), (0 : Int), ByteArray.empty, ByteArray.empty, ByteArray.empty, false, [], [], ()), (ByteArray.mk #[(98 : UInt8)], (15 : Int), (-1 : Int), (0 : Int), (4 : Int), ByteArray.mk #[(107 : UInt8)], ByteArray.empty, ByteArray.empty, true, [], [], ()), (ByteArray.mk #[(99 : UInt8)], (3 : Int), (0 : Int), (-1 : Int), (0 : Int), ByteArray.empty, ByteArray.empty, ByteArray.empty, false, [], [], ())] ++ [(ByteArray.mk #[(100 : UInt8)], (13 : Int), (0 : Int), (-1 : Int), (0 : Int), ByteArray.empty, ByteArray.empty, ByteArray.empty, false, [], [], ()), (ByteArray.mk #[(101 : UInt8)], (1 : Int), (3 : Int), (-1 : Int), (4 : Int), key, ByteArray.empty, ByteArray.empty, true, [], [], ())], [], ())]) (34 : Nat), AObj.vec (Con.typ cI [((1 : Int), (0 : Int), (1 : Int), ByteArray.mk #[(112 : UInt8)], (-1 : Int), (-1 : Int), (0 : Int), ByteArray.empty, ()), ((2 : Int), (1 : Int), (2 : Int), ByteArray.mk #[(112 : UInt8)], (0 : Int), (-1 : Int), (3 : Int), ByteArray.empty, ()), ((3 : Int), (2 : Int), (1 : Int), ByteArray.mk #[(112 : UInt8)], (0 : Int), (-1 : Int), (0 : Int), ByteArray.empty, ()), ((4 : Int), (3 : Int), (2 : Int), ByteArray.mk #[(112 : UInt8)], (2 : Int), (-1 : Int), (2 : Int), ByteArray.empty, ())]) (43 : Nat)] (AV.agg [AV.s (SV.ilit IntKind.i64 (0 : Int)), AV.s (SV.ilit IntKind.i64 (4 : Int)), AV.vec (5 : Nat), AV.vec (6 : Nat), AV.emp, AV.emp]))))
  (Tree.ret [AObj.own [AV.s (SV.ilit IntKind.i64 (0 : Int)), AV.s (SV.ilit IntKind.i64 (4 : Int)), AV.vec (3 : Nat), AV.vec (4 : Nat), AV.emp, AV.emp] (27 : Nat), AObj.dead, AObj.own [AV.s (SV.str (ByteArray.mk #[(112 : UInt8)])), AV.emp, AV.s (SV.ro (Con.typ cN [(ByteArray.mk #[(97 : UInt8)], (11 : Int), (-1 : Int), (-1 : Int), (0 : Int), ByteArray.empty, ByteArray.empty, ByteArray.empty, false, [], [], ()), (ByteArray.mk #[(98 : UInt8)], (15 : Int), (-1 : Int), (0 : Int), (4 : Int), ByteArray.mk #[(107 : UInt8)], ByteArray.empty, ByteArray.empty, true, [], [], ()), (ByteArray.mk #[(99 : UInt8)], (3 : Int), (0 : Int), (-1 : Int), (0 : Int), ByteArray.empty, ByteArray.empty, ByteArray.empty, false, [], [], ())])), AV.emp] (34 : Nat), AObj.vec (Con.typ cP [(ByteArray.mk #[(112 : UInt8)], [], [(ByteArray.mk #[(97 : UInt8)], (11 : Int), (-1 : Int), (-1 : Int), (0 : Int), ByteArray.empty, ByteArray.empty, ByteArray.empty, false, [], [], ()), (ByteArray.mk #[(98 : UInt8)], (15 : Int), (-1 : Int), (0 : Int), (4 : Int), ByteArray.mk #[(107 : UInt8)], ByteArray.empty, ByteArray.empty, true, [], [], ()), (ByteArray.mk #[(99 : UInt8)], (3 : Int), (0 : Int), (-1 : Int), (0 : Int), ByteArray.empty, ByteArray.empty, ByteArray.empty, false, [], [], ())], [], ())]) (34 : Nat), AObj.vec (Con.typ cI [((1 : Int), (0 : Int), (1 : Int), ByteArray.mk #[(112 : UInt8)], (-1 : Int), (-1 : Int), (0 : Int), ByteArray.empty, ()), ((2 : Int), (1 : Int), (2 : Int), ByteArray.mk #[(112 : UInt8)], (0 : Int), (-1 : Int), (3 : Int), ByteArray.empty, ()), ((3 : Int), (2 : Int), (1 : Int), ByteArray.mk #[(112 : UInt8)], (0 : Int), (-1 : Int), (0 : Int), ByteArray.empty, ()), ((4 : Int), (3 : Int), (2 : Int), ByteArray.mk #[(112 : UInt8)], (2 : Int), (-1 : Int), (2 : Int), ByteArray.empty, ())]) (43 : Nat)] (AV.agg [AV.s (SV.ilit IntKind.i64 (0 : Int)), AV.s (SV.ilit IntKind.i64 (4 : Int)), AV.vec (3 : Nat), AV.vec (4 : Nat), AV.emp, AV.emp])) := by kernel_rfl
def large22 (ps : Ps) (is : Is) (cs : Cs) (ws : Ws) : Bool := decide (ps.length > 15 ∨ is.length > 170 ∨ cs.length > 400 ∨ ws.length > 200) || ps.any fun p => decide ((pO p).length > 60 ∨ (pF p).length > 120 ∨ (pV p).length > 50)
abbrev sumL22 := sumOf [tSt] [tBool] (fun _ => []) (fun ((_, _, ps, is, cs, ws, ()), ()) => (large22 ps is cs ws, ()))
abbrev star : ByteArray := ByteArray.mk #[(42 : UInt8)]
abbrev tx1 (a : UInt8) : ByteArray := ByteArray.mk #[a]
def mkN (a : UInt8) (k i o e : Int) (y : ByteArray) (b : Bool) : CL cN := (tx1 a, k, i, o, e, y, ByteArray.empty, ByteArray.empty, b, ([] : List (CL cV)), ([] : List ByteArray), ())
def neNs (key : ByteArray) : List (CL cN) := [mkN 97 11 (-1) (-1) 0 ByteArray.empty false, mkN 98 15 (-1) 0 4 (tx1 107) true, mkN 99 3 0 (-1) 0 ByteArray.empty false] ++ (if key = ByteArray.empty then [] else [mkN 100 13 0 (-1) 0 ByteArray.empty false, mkN 101 1 3 (-1) 4 (if key = star then ByteArray.empty else key) true])
def nePs (key : ByteArray) : Ps := [(tx1 112, ([] : List (CL cV)), neNs key, ([] : List (CL cF)), ())]
def neI (a u s n w : Int) : CL cI := (a, u, s, tx1 112, n, (-1 : Int), w, ByteArray.empty, ())
def neIs : Is := [neI 1 0 1 (-1) 0, neI 2 1 2 0 3, neI 3 2 1 0 0, neI 4 3 2 2 2]
abbrev neS (key : ByteArray) : AL [tSr] := (((0 : Int), (4 : Int), nePs key, neIs, ([] : Cs), ([] : Ws), ()), ())
abbrev sumNe := sumR [tStr] [tSr] (fun _ => []) (fun (key, ()) => neS key)
abbrev sumRf := sumOf [tSt, tInt, tU8, tStr] [tHd, tBool] (fun ((_, _, ps, _, _, _, ()), _) => [okN ps]) (fun ((_, _, ps, is, _, _, ()), id, ev, key, ()) => resT (findF ps is id ev key))
def tabAw : Tab := [(16, sumNe), (13, sumRf)]
theorem trAw  : run P tabAw.sum Try.f12 [] (start Try.f12 [] []) =
  Tree.need (okN (nePs ByteArray.empty)) (Tree.need (okN (nePs ByteArray.empty)) (Tree.need (okN (nePs (ByteArray.mk #[(42 : UInt8)]))) (Tree.ite true (Tree.ite true (Tree.ite true (Tree.ite true (Tree.ret [AObj.own [AV.s (SV.int IntKind.i64 (2 : Int)), AV.s (SV.int IntKind.i64 (1 : Int))] (39 : Nat), AObj.own [AV.s (SV.int IntKind.i64 (0 : Int)), AV.s (SV.int IntKind.i64 (0 : Int))] (39 : Nat), AObj.own [AV.s (SV.int IntKind.i64 (3 : Int)), AV.s (SV.int IntKind.i64 (4 : Int))] (39 : Nat)] (AV.s (SV.bool true))) (Tree.ret [AObj.own [AV.s (SV.int IntKind.i64 (2 : Int)), AV.s (SV.int IntKind.i64 (1 : Int))] (39 : Nat), AObj.own [AV.s (SV.int IntKind.i64 (0 : Int)), AV.s (SV.int IntKind.i64 (0 : Int))] (39 : Nat), AObj.own [AV.s (SV.int IntKind.i64 (3 : Int)), AV.s (SV.int IntKind.i64 (4 : Int))] (39 : Nat)] (AV.s (SV.blit false)))) (Tree.ret [AObj.own [AV.s (SV.int IntKind.i64 (2 : Int)), AV.s (SV.int IntKind.i64 (1 : Int))] (39 : Nat), AObj.own [AV.s (SV.int IntKind.i64 (0 : Int)), AV.s (SV.int IntKind.i64 (0 : Int))] (39 : Nat), AObj.own [AV.s (SV.int IntKind.i64 (3 : Int)), AV.s (SV.int IntKind.i64 (4 : Int))] (39 : Nat)] (AV.s (SV.blit false)))) (Tree.ret [AObj.own [AV.s (SV.int IntKind.i64 (2 : Int)), AV.s (SV.int IntKind.i64 (1 : Int))] (39 : Nat), AObj.own [AV.s (SV.int IntKind.i64 (0 : Int)), AV.s (SV.int IntKind.i64 (0 : Int))] (39 : Nat), AObj.own [AV.s (SV.int IntKind.i64 (3 : Int)), AV.s (SV.int IntKind.i64 (4 : Int))] (39 : Nat)] (AV.s (SV.blit false)))) (Tree.ret [AObj.own [AV.s (SV.int IntKind.i64 (2 : Int)), AV.s (SV.int IntKind.i64 (1 : Int))] (39 : Nat), AObj.own [AV.s (SV.int IntKind.i64 (0 : Int)), AV.s (SV.int IntKind.i64 (0 : Int))] (39 : Nat), AObj.own [AV.s (SV.int IntKind.i64 (3 : Int)), AV.s (SV.int IntKind.i64 (4 : Int))] (39 : Nat)] (AV.s (SV.blit false)))))) := by kernel_rfl
theorem okN_of {ps : Ps} {is : Is} {cs : Cs} {ws : Ws} (h : large22 ps is cs ws = false) : okN ps ∧ ps.length ≤ 15 ∧ is.length ≤ 170 ∧ cs.length ≤ 400 ∧ ws.length ≤ 200 := by
  unfold large22 at h
  rw [Bool.or_eq_false_iff] at h
  obtain ⟨h1, h2⟩ := h
  have h1 := of_decide_eq_false h1
  refine ⟨fun p hp => ?_, by omega, by omega, by omega, by omega⟩
  rw [List.any_eq_false] at h2
  have h3 := h2 p hp
  rw [decide_eq_true_iff] at h3
  omega
theorem l22_ok {Z : Glob} : FnOk P Z 11 [tSt] [tBool] (fun _ => []) (fun ((_, _, ps, is, cs, ws, ()), ()) => (large22 ps is cs ws, ())) := by
  refine fnOk_of_safe Try.func11 (by kernel_rfl) (by kernel_rfl) ?_
  rintro ⟨⟨(ck : Int), (nx : Int), (ps : Ps), (is : Is), (cs : Cs), (ws : Ws), ⟨⟩⟩, ⟨⟩⟩ ⟨⟨_, _, (hl : ps.length ≤ maxLen), _⟩, _⟩ _ X hX hz
  have hl2 : ps.length ≤ 9223372036854775807 := by unfold maxLen at hl; omega
  show Safe P 11 X (Ends [tBool] (large22 ps is cs ws, ())) _
  have big : (ps.length > 15 ∨ is.length > 170 ∨ cs.length > 400 ∨ ws.length > 200) → large22 ps is cs ws = true := fun h => by unfold large22; rw [decide_eq_true h]; rfl
  have loop : ¬ (ps.length > 15 ∨ is.length > 170 ∨ cs.length > 400 ∨ ws.length > 200) → ∀ (j k : Nat), k + j = ps.length → (∀ i (hi : i < k) (h2 : i < ps.length), ¬ ((pO ps[i]).length > 60 ∨ (pF ps[i]).length > 120 ∨ (pV ps[i]).length > 50)) → Safe P 11 X (Ends [tBool] (large22 ps is cs ws, ())) (cL22 ck nx ps is cs ws (k : Int)) := by
    intro hno j
    induction j with
    | zero =>
      intro k hk hi
      have e : large22 ps is cs ws = false := by
        unfold large22
        rw [decide_eq_false hno, Bool.false_or, List.any_eq_false]
        intro p hp
        obtain ⟨i, h1, rfl⟩ := List.getElem_of_mem hp
        rw [decide_eq_true_iff]
        exact hi i (by omega) h1
      refine go hz hX Tab.Ok.nil Try.func11 (loopL22 ck nx ps is cs ws k) (no_and (decide_eq_false (by omega)) ?_)
      rw [e]; exact ends_eq _ rfl (by kernel_rfl)
    | succ j ih =>
      intro k hk hi
      have hlt : k < ps.length := by omega
      refine go hz hX Tab.Ok.nil Try.func11 (loopL22 ck nx ps is cs ws k) (yes_and (decide_eq_true (by omega)) ⟨by omega, by omega, ?_⟩)
      rw [el_lt hlt]
      have yes : ((pO ps[k]).length > 60 ∨ (pF ps[k]).length > 120 ∨ (pV ps[k]).length > 50) → large22 ps is cs ws = true := fun h => by
        unfold large22
        rw [show (ps.any fun p => decide ((pO p).length > 60 ∨ (pF p).length > 120 ∨ (pV p).length > 50)) = true from List.any_eq_true.2 ⟨_, List.getElem_mem hlt, decide_eq_true h⟩, Bool.or_true]
      refine ⟨fun h => ?_, fun h => ⟨by omega, by omega, fun h2 => ?_, fun h2 => ⟨by omega, by omega, fun h3 => ?_, fun h3 => ⟨⟨by omega, by omega⟩, ih (k + 1) (by omega) fun i h4 h5 => ?_⟩⟩⟩⟩
      · rw [yes (.inl (by have := of_decide_eq_true h; omega))]; exact ends_eq _ rfl (by kernel_rfl)
      · rw [yes (.inr (.inl (by have := of_decide_eq_true h2; omega)))]; exact ends_eq _ rfl (by kernel_rfl)
      · rw [yes (.inr (.inr (by have := of_decide_eq_true h3; omega)))]; exact ends_eq _ rfl (by kernel_rfl)
      · by_cases e : i = k
        · subst e
          have := of_decide_eq_false h
          have := of_decide_eq_false h2
          have := of_decide_eq_false h3
          omega
        · exact hi i (by omega) h5
  refine go hz hX Tab.Ok.nil Try.func11 (trL22 ck nx ps is cs ws) ⟨fun h => ?_, fun h => ⟨fun h2 => ?_, fun h2 => ⟨fun h3 => ?_, fun h3 => ⟨fun h4 => ?_, fun h4 => ?_⟩⟩⟩⟩
  · rw [big (by have := of_decide_eq_true h; omega)]; exact ends_eq _ rfl (by kernel_rfl)
  · rw [big (by have := of_decide_eq_true h2; omega)]; exact ends_eq _ rfl (by kernel_rfl)
  · rw [big (by have := of_decide_eq_true h3; omega)]; exact ends_eq _ rfl (by kernel_rfl)
  · rw [big (by have := of_decide_eq_true h4; omega)]; exact ends_eq _ rfl (by kernel_rfl)
  · exact loop (by have := of_decide_eq_false h; have := of_decide_eq_false h2; have := of_decide_eq_false h3; have := of_decide_eq_false h4; omega) ps.length 0 (by omega) fun i hi => absurd hi (Nat.not_lt_zero _)
theorem nested_ok {Z : Glob} : FnOk P Z 16 [tStr] [tSr] (fun _ => []) (fun (key, ()) => neS key) := by
  refine fnOk_of_safe Try.func16 (by kernel_rfl) (by kernel_rfl) ?_
  rintro ⟨(key : ByteArray), ⟨⟩⟩ _ _ X hX hz
  show Safe P 16 X (Ends [tSr] (neS key)) _
  refine go hz hX Tab.Ok.nil Try.func16 (trNe key) ⟨fun h => ⟨fun h2 => ⟨by decide, ?_⟩, fun h2 => ⟨by decide, ?_⟩⟩, fun h => ?_⟩
  · have h2 : key = star := of_decide_eq_true h2
    subst h2
    exact ends_eq _ rfl (by kernel_rfl)
  · have h : ¬ key = ByteArray.empty := by simpa using h
    have h2 : ¬ key = star := of_decide_eq_false h2
    have e : neNs key = [mkN 97 11 (-1) (-1) 0 ByteArray.empty false, mkN 98 15 (-1) 0 4 (tx1 107) true, mkN 99 3 0 (-1) 0 ByteArray.empty false] ++ [mkN 100 13 0 (-1) 0 ByteArray.empty false, mkN 101 1 3 (-1) 4 key true] := by unfold neNs; rw [if_neg h, if_neg h2]
    have e2 : nePs key = [(tx1 112, ([] : List (CL cV)), [mkN 97 11 (-1) (-1) 0 ByteArray.empty false, mkN 98 15 (-1) 0 4 (tx1 107) true, mkN 99 3 0 (-1) 0 ByteArray.empty false] ++ [mkN 100 13 0 (-1) 0 ByteArray.empty false, mkN 101 1 3 (-1) 4 key true], ([] : List (CL cF)), ())] := by unfold nePs; rw [e]; rfl
    rw [show neS key = (((0 : Int), (4 : Int), nePs key, neIs, ([] : Cs), ([] : Ws), ()), ()) from rfl, e2]
    exact ends_eq _ rfl (by kernel_rfl)
  · have h : key = ByteArray.empty := by simpa using h
    subst h
    exact ends_eq _ rfl (by kernel_rfl)
theorem tabAw_ok {Z : Glob} : tabAw.Ok P Z := Tab.Ok.cons nested_ok.sumR (Tab.Ok.cons rfind_ok.sum Tab.Ok.nil)
end Ds

namespace Ds
open Go Go.Sx Go.Proofs Lf
abbrev txO : ByteArray := ByteArray.mk #[(110 : UInt8), 111, 32, 110, 111, 100, 101]
abbrev sumTt := sumOf [] [tBool] (fun _ => []) (fun _ => (true, ()))
def tabAy : Tab := [(11, sumL22), (12, sumTt), (13, sumRf), (14, sumFi), (15, sumDf)]
def nsAy : List (Nat × Norm) := [(5, ⟨[], [1, 2, 3, 4, 9, 10], 0, []⟩), (8, ⟨[], [1, 2, 3, 4, 9, 10, 11], 0, []⟩)]
theorem trAy (ck nx : Int) (ps : Ps) (is : Is) (cs : Cs) (ws : Ws) (id ev : Int) (key : ByteArray) : run P tabAy.sum Try.f3 nsAy (start Try.f3 [avSt ck nx ps is cs ws, avI id, avU ev, .s (.str key)] []) =
  Tree.ite (large22 ps is cs ws) (Tree.ret [AObj.own [AV.s (SV.int IntKind.i64 ck), AV.s (SV.int IntKind.i64 nx), AV.s (SV.ro (Con.typ cP ps)), AV.s (SV.ro (Con.typ cI is)), AV.s (SV.ro (Con.typ cC cs)), AV.s (SV.ro (Con.typ cW ws))] (27 : Nat)] (AV.s (SV.bool true))) (Tree.ite (decide ((↑key.size : Int) > (300 : Int))) (Tree.ret [AObj.own [AV.s (SV.int IntKind.i64 ck), AV.s (SV.int IntKind.i64 nx), AV.s (SV.ro (Con.typ cP ps)), AV.s (SV.ro (Con.typ cI is)), AV.s (SV.ro (Con.typ cC cs)), AV.s (SV.ro (Con.typ cW ws))] (27 : Nat)] (AV.s (SV.bool true))) (Tree.ite false (Tree.ret [AObj.own [AV.s (SV.int IntKind.i64 ck), AV.s (SV.int IntKind.i64 nx), AV.s (SV.ro (Con.typ cP ps)), AV.s (SV.ro (Con.typ cI is)), AV.s (SV.ro (Con.typ cC cs)), AV.s (SV.ro (Con.typ cW ws))] (27 : Nat)] (AV.s (SV.bool true))) (Tree.at (Cfg.mk (sl (125 : Nat) [((1 : Nat), AV.s (SV.int IntKind.i64 id)), ((2 : Nat), AV.s (SV.int IntKind.u8 ev)), ((3 : Nat), AV.s (SV.str key)), ((4 : Nat), AV.ptr (0 : Nat) (0 : Nat)), ((9 : Nat), AV.s (SV.str (ByteArray.mk #[(110 : UInt8), (111 : UInt8), (32 : UInt8), (110 : UInt8), (111 : UInt8), (100 : UInt8), (101 : UInt8)]))), ((10 : Nat), AV.s (SV.int IntKind.i64 (0 : Int)))]) [AObj.own [AV.s (SV.int IntKind.i64 ck), AV.s (SV.int IntKind.i64 nx), AV.s (SV.ro (Con.typ cP ps)), AV.s (SV.ro (Con.typ cI is)), AV.s (SV.ro (Con.typ cC cs)), AV.s (SV.ro (Con.typ cW ws))] (27 : Nat)] (hd Try.f3 (5 : Nat)) (Stk.mk none false (0 : Nat) [] (0 : Nat)))))) := by kernel_rfl
noncomputable def cAy (ck nx : Int) (ps : Ps) (is : Is) (cs : Cs) (ws : Ws) (id ev : Int) (key : ByteArray) (i : Int) : Cfg := ⟨sl 125 [(1, avI id), (2, avU ev), (3, .s (.str key)), (4, .ptr 0 0), (9, .s (.str txO)), (10, avI i)], [obSt ck nx ps is cs ws], hd Try.f3 5, {}⟩
theorem loopAy (ck nx : Int) (ps : Ps) (is : Is) (cs : Cs) (ws : Ws) (id ev : Int) (key : ByteArray) (i : Int) : run P tabAy.sum Try.f3 nsAy (cAy ck nx ps is cs ws id ev key i) =
  Tree.ite (decide (i < (↑(List.length ps) : Int))) (Tree.at (Cfg.mk (sl (125 : Nat) [((1 : Nat), AV.s (SV.int IntKind.i64 id)), ((2 : Nat), AV.s (SV.int IntKind.u8 ev)), ((3 : Nat), AV.s (SV.str key)), ((4 : Nat), AV.ptr (0 : Nat) (0 : Nat)), ((9 : Nat), AV.s (SV.str txO)), ((10 : Nat), AV.s (SV.int IntKind.i64 i)), ((11 : Nat), AV.s (SV.int IntKind.i64 (0 : Int)))]) [AObj.own [AV.s (SV.int IntKind.i64 ck), AV.s (SV.int IntKind.i64 nx), AV.s (SV.ro (Con.typ cP ps)), AV.s (SV.ro (Con.typ cI is)), AV.s (SV.ro (Con.typ cC cs)), AV.s (SV.ro (Con.typ cW ws))] (27 : Nat)] (hd Try.f3 (8 : Nat)) (Stk.mk none false (0 : Nat) [] (0 : Nat))))
  (Tree.need (okN ps)
    (Tree.need (okN ps)
      (Tree.ite (!(findF ps is id ev key).isSome) (Tree.ret [AObj.own [AV.s (SV.int IntKind.i64 ck), AV.s (SV.int IntKind.i64 nx), AV.s (SV.ro (Con.typ cP ps)), AV.s (SV.ro (Con.typ cI is)), AV.s (SV.ro (Con.typ cC cs)), AV.s (SV.ro (Con.typ cW ws))] (27 : Nat), AObj.own [AV.s (SV.int IntKind.i64 (hI (findF ps is id ev key))), AV.s (SV.int IntKind.i64 (hN (findF ps is id ev key)))] (39 : Nat), AObj.own [AV.s (SV.int IntKind.i64 (hI (findF ps is id ev txO))), AV.s (SV.int IntKind.i64 (hN (findF ps is id ev txO)))] (39 : Nat)] (AV.s (SV.bool !(findF ps is id ev txO).isSome)))
        (Tree.ite (!(findF ps is id ev txO).isSome) (Tree.ret [AObj.own [AV.s (SV.int IntKind.i64 ck), AV.s (SV.int IntKind.i64 nx), AV.s (SV.ro (Con.typ cP ps)), AV.s (SV.ro (Con.typ cI is)), AV.s (SV.ro (Con.typ cC cs)), AV.s (SV.ro (Con.typ cW ws))] (27 : Nat), AObj.own [AV.s (SV.int IntKind.i64 (hI (findF ps is id ev key))), AV.s (SV.int IntKind.i64 (hN (findF ps is id ev key)))] (39 : Nat), AObj.own [AV.s (SV.int IntKind.i64 (hI (findF ps is id ev txO))), AV.s (SV.int IntKind.i64 (hN (findF ps is id ev txO)))] (39 : Nat)] (AV.s (SV.blit true)))
          (Tree.ite (hasI is (hI (findF ps is id ev txO)))
            (Tree.ite (hasP ps (gP is (hI (findF ps is id ev txO))))
              (Tree.ite (decide (hN (findF ps is id ev txO) ≥ (0 : Int))) (Tree.ite (decide (hN (findF ps is id ev txO) < (↑(pO (getP ps (gP is (hI (findF ps is id ev txO))))).length : Int))) (Tree.need ((0 : Int) ≤ hN (findF ps is id ev txO)) (Tree.need (hN (findF ps is id ev txO) < (↑(pO (getP ps (gP is (hI (findF ps is id ev txO))))).length : Int)) (Tree.ret [AObj.own [AV.s (SV.int IntKind.i64 ck), AV.s (SV.int IntKind.i64 nx), AV.s (SV.ro (Con.typ cP ps)), AV.s (SV.ro (Con.typ cI is)), AV.s (SV.ro (Con.typ cC cs)), AV.s (SV.ro (Con.typ cW ws))] (27 : Nat), AObj.own [AV.s (SV.int IntKind.i64 (hI (findF ps is id ev key))), AV.s (SV.int IntKind.i64 (hN (findF ps is id ev key)))] (39 : Nat), AObj.own [AV.s (SV.int IntKind.i64 (hI (findF ps is id ev txO))), AV.s (SV.int IntKind.i64 (hN (findF ps is id ev txO)))] (39 : Nat), AObj.own [AV.s (SV.int IntKind.i64 (gI is (hI (findF ps is id ev txO)))), AV.s (SV.int IntKind.i64 (gU is (hI (findF ps is id ev txO)))), AV.s (SV.int IntKind.u8 (gS is (hI (findF ps is id ev txO)))), AV.s (SV.str (gP is (hI (findF ps is id ev txO)))), AV.s (SV.int IntKind.i64 (gN is (hI (findF ps is id ev txO)))), AV.s (SV.int IntKind.i64 (gF is (hI (findF ps is id ev txO)))), AV.s (SV.int IntKind.u8 (gW is (hI (findF ps is id ev txO)))), AV.s (SV.str (gC is (hI (findF ps is id ev txO))))] (43 : Nat), AObj.own [AV.s (SV.str (pN (getP ps (gP is (hI (findF ps is id ev txO)))))), AV.s (SV.ro (Con.typ cV (pV (getP ps (gP is (hI (findF ps is id ev txO))))))), AV.s (SV.ro (Con.typ cN (pO (getP ps (gP is (hI (findF ps is id ev txO))))))), AV.s (SV.ro (Con.typ cF (pF (getP ps (gP is (hI (findF ps is id ev txO)))))))] (34 : Nat)] (AV.s (SV.bool (decide (nY (el (pO (getP ps (gP is (hI (findF ps is id ev txO))))) (hN (findF ps is id ev txO))) = ByteArray.empty))))))) (Tree.ret [AObj.own [AV.s (SV.int IntKind.i64 ck), AV.s (SV.int IntKind.i64 nx), AV.s (SV.ro (Con.typ cP ps)), AV.s (SV.ro (Con.typ cI is)), AV.s (SV.ro (Con.typ cC cs)), AV.s (SV.ro (Con.typ cW ws))] (27 : Nat), AObj.own [AV.s (SV.int IntKind.i64 (hI (findF ps is id ev key))), AV.s (SV.int IntKind.i64 (hN (findF ps is id ev key)))] (39 : Nat), AObj.own [AV.s (SV.int IntKind.i64 (hI (findF ps is id ev txO))), AV.s (SV.int IntKind.i64 (hN (findF ps is id ev txO)))] (39 : Nat), AObj.own [AV.s (SV.int IntKind.i64 (gI is (hI (findF ps is id ev txO)))), AV.s (SV.int IntKind.i64 (gU is (hI (findF ps is id ev txO)))), AV.s (SV.int IntKind.u8 (gS is (hI (findF ps is id ev txO)))), AV.s (SV.str (gP is (hI (findF ps is id ev txO)))), AV.s (SV.int IntKind.i64 (gN is (hI (findF ps is id ev txO)))), AV.s (SV.int IntKind.i64 (gF is (hI (findF ps is id ev txO)))), AV.s (SV.int IntKind.u8 (gW is (hI (findF ps is id ev txO)))), AV.s (SV.str (gC is (hI (findF ps is id ev txO))))] (43 : Nat), AObj.own [AV.s (SV.str (pN (getP ps (gP is (hI (findF ps is id ev txO)))))), AV.s (SV.ro (Con.typ cV (pV (getP ps (gP is (hI (findF ps is id ev txO))))))), AV.s (SV.ro (Con.typ cN (pO (getP ps (gP is (hI (findF ps is id ev txO))))))), AV.s (SV.ro (Con.typ cF (pF (getP ps (gP is (hI (findF ps is id ev txO)))))))] (34 : Nat)] (AV.s (SV.blit false))))
                (Tree.ret [AObj.own [AV.s (SV.int IntKind.i64 ck), AV.s (SV.int IntKind.i64 nx), AV.s (SV.ro (Con.typ cP ps)), AV.s (SV.ro (Con.typ cI is)), AV.s (SV.ro (Con.typ cC cs)), AV.s (SV.ro (Con.typ cW ws))] (27 : Nat), AObj.own [AV.s (SV.int IntKind.i64 (hI (findF ps is id ev key))), AV.s (SV.int IntKind.i64 (hN (findF ps is id ev key)))] (39 : Nat), AObj.own [AV.s (SV.int IntKind.i64 (hI (findF ps is id ev txO))), AV.s (SV.int IntKind.i64 (hN (findF ps is id ev txO)))] (39 : Nat), AObj.own [AV.s (SV.int IntKind.i64 (gI is (hI (findF ps is id ev txO)))), AV.s (SV.int IntKind.i64 (gU is (hI (findF ps is id ev txO)))), AV.s (SV.int IntKind.u8 (gS is (hI (findF ps is id ev txO)))), AV.s (SV.str (gP is (hI (findF ps is id ev txO)))), AV.s (SV.int IntKind.i64 (gN is (hI (findF ps is id ev txO)))), AV.s (SV.int IntKind.i64 (gF is (hI (findF ps is id ev txO)))), AV.s (SV.int IntKind.u8 (gW is (hI (findF ps is id ev txO)))), AV.s (SV.str (gC is (hI (findF ps is id ev txO))))] (43 : Nat), AObj.own [AV.s (SV.str (pN (getP ps (gP is (hI (findF ps is id ev txO)))))), AV.s (SV.ro (Con.typ cV (pV (getP ps (gP is (hI (findF ps is id ev txO))))))), AV.s (SV.ro (Con.typ cN (pO (getP ps (gP is (hI (findF ps is id ev txO))))))), AV.s (SV.ro (Con.typ cF (pF (getP ps (gP is (hI (findF ps is id ev txO)))))))] (34 : Nat)] (AV.s (SV.blit false))))
              (Tree.ret [AObj.own [AV.s (SV.int IntKind.i64 ck), AV.s (SV.int IntKind.i64 nx), AV.s (SV.ro (Con.typ cP ps)), AV.s (SV.ro (Con.typ cI is)), AV.s (SV.ro (Con.typ cC cs)), AV.s (SV.ro (Con.typ cW ws))] (27 : Nat), AObj.own [AV.s (SV.int IntKind.i64 (hI (findF ps is id ev key))), AV.s (SV.int IntKind.i64 (hN (findF ps is id ev key)))] (39 : Nat), AObj.own [AV.s (SV.int IntKind.i64 (hI (findF ps is id ev txO))), AV.s (SV.int IntKind.i64 (hN (findF ps is id ev txO)))] (39 : Nat), AObj.own [AV.s (SV.int IntKind.i64 (gI is (hI (findF ps is id ev txO)))), AV.s (SV.int IntKind.i64 (gU is (hI (findF ps is id ev txO)))), AV.s (SV.int IntKind.u8 (gS is (hI (findF ps is id ev txO)))), AV.s (SV.str (gP is (hI (findF ps is id ev txO)))), AV.s (SV.int IntKind.i64 (gN is (hI (findF ps is id ev txO)))), AV.s (SV.int IntKind.i64 (gF is (hI (findF ps is id ev txO)))), AV.s (SV.int IntKind.u8 (gW is (hI (findF ps is id ev txO)))), AV.s (SV.str (gC is (hI (findF ps is id ev txO))))] (43 : Nat), AObj.own [AV.s (SV.str (pN (getP ps (gP is (hI (findF ps is id ev txO)))))), AV.s (SV.ro (Con.typ cV (pV (getP ps (gP is (hI (findF ps is id ev txO))))))), AV.s (SV.ro (Con.typ cN (pO (getP ps (gP is (hI (findF ps is id ev txO))))))), AV.s (SV.ro (Con.typ cF (pF (getP ps (gP is (hI (findF ps is id ev txO)))))))] (34 : Nat)] (AV.s (SV.blit false))))
            (Tree.ret [AObj.own [AV.s (SV.int IntKind.i64 ck), AV.s (SV.int IntKind.i64 nx), AV.s (SV.ro (Con.typ cP ps)), AV.s (SV.ro (Con.typ cI is)), AV.s (SV.ro (Con.typ cC cs)), AV.s (SV.ro (Con.typ cW ws))] (27 : Nat), AObj.own [AV.s (SV.int IntKind.i64 (hI (findF ps is id ev key))), AV.s (SV.int IntKind.i64 (hN (findF ps is id ev key)))] (39 : Nat), AObj.own [AV.s (SV.int IntKind.i64 (hI (findF ps is id ev txO))), AV.s (SV.int IntKind.i64 (hN (findF ps is id ev txO)))] (39 : Nat), AObj.own [AV.s (SV.int IntKind.i64 (gI is (hI (findF ps is id ev txO)))), AV.s (SV.int IntKind.i64 (gU is (hI (findF ps is id ev txO)))), AV.s (SV.int IntKind.u8 (gS is (hI (findF ps is id ev txO)))), AV.s (SV.str (gP is (hI (findF ps is id ev txO)))), AV.s (SV.int IntKind.i64 (gN is (hI (findF ps is id ev txO)))), AV.s (SV.int IntKind.i64 (gF is (hI (findF ps is id ev txO)))), AV.s (SV.int IntKind.u8 (gW is (hI (findF ps is id ev txO)))), AV.s (SV.str (gC is (hI (findF ps is id ev txO))))] (43 : Nat), AObj.own [AV.s (SV.str (pN (getP ps (gP is (hI (findF ps is id ev txO)))))), AV.s (SV.ro (Con.typ cV (pV (getP ps (gP is (hI (findF ps is id ev txO))))))), AV.s (SV.ro (Con.typ cN (pO (getP ps (gP is (hI (findF ps is id ev txO))))))), AV.s (SV.ro (Con.typ cF (pF (getP ps (gP is (hI (findF ps is id ev txO)))))))] (34 : Nat)] (AV.s (SV.blit false)))))))) := by kernel_rfl
noncomputable def cAy8 (ck nx : Int) (ps : Ps) (is : Is) (cs : Cs) (ws : Ws) (id ev : Int) (key : ByteArray) (i k : Int) : Cfg := ⟨sl 125 [(1, avI id), (2, avU ev), (3, .s (.str key)), (4, .ptr 0 0), (9, .s (.str txO)), (10, avI i), (11, avI k)], [obSt ck nx ps is cs ws], hd Try.f3 8, {}⟩
theorem loopAy8 (ck nx : Int) (ps : Ps) (is : Is) (cs : Cs) (ws : Ws) (id ev : Int) (key : ByteArray) (i k : Int) : run P tabAy.sum Try.f3 nsAy (cAy8 ck nx ps is cs ws id ev key i k) =
  Tree.need ((0 : Int) ≤ i) (Tree.need (i < (↑(List.length ps) : Int)) (Tree.ite (decide (k < (↑(pO (el ps i)).length : Int))) (Tree.need ((0 : Int) ≤ i) (Tree.need (i < (↑(List.length ps) : Int)) (Tree.need ((0 : Int) ≤ k) (Tree.need (k < (↑(pO (el ps i)).length : Int)) (Tree.ite (decide (nY (el (pO (el ps i)) k) = txO)) (Tree.ret [AObj.own [AV.s (SV.int IntKind.i64 ck), AV.s (SV.int IntKind.i64 nx), AV.s (SV.ro (Con.typ cP ps)), AV.s (SV.ro (Con.typ cI is)), AV.s (SV.ro (Con.typ cC cs)), AV.s (SV.ro (Con.typ cW ws))] (27 : Nat)] (AV.s (SV.blit true))) (Tree.need (inI64 (k + (1 : Int))) (Tree.at (Cfg.mk (sl (125 : Nat) [((1 : Nat), AV.s (SV.int IntKind.i64 id)), ((2 : Nat), AV.s (SV.int IntKind.u8 ev)), ((3 : Nat), AV.s (SV.str key)), ((4 : Nat), AV.ptr (0 : Nat) (0 : Nat)), ((9 : Nat), AV.s (SV.str txO)), ((10 : Nat), AV.s (SV.int IntKind.i64 i)), ((11 : Nat), AV.s (SV.int IntKind.i64 (k + (1 : Int))))]) [AObj.own [AV.s (SV.int IntKind.i64 ck), AV.s (SV.int IntKind.i64 nx), AV.s (SV.ro (Con.typ cP ps)), AV.s (SV.ro (Con.typ cI is)), AV.s (SV.ro (Con.typ cC cs)), AV.s (SV.ro (Con.typ cW ws))] (27 : Nat)] (hd Try.f3 (8 : Nat)) (Stk.mk none false (0 : Nat) [] (0 : Nat)))))))))) (Tree.need (inI64 (i + (1 : Int))) (Tree.at (Cfg.mk (sl (125 : Nat) [((1 : Nat), AV.s (SV.int IntKind.i64 id)), ((2 : Nat), AV.s (SV.int IntKind.u8 ev)), ((3 : Nat), AV.s (SV.str key)), ((4 : Nat), AV.ptr (0 : Nat) (0 : Nat)), ((9 : Nat), AV.s (SV.str txO)), ((10 : Nat), AV.s (SV.int IntKind.i64 (i + (1 : Int))))]) [AObj.own [AV.s (SV.int IntKind.i64 ck), AV.s (SV.int IntKind.i64 nx), AV.s (SV.ro (Con.typ cP ps)), AV.s (SV.ro (Con.typ cI is)), AV.s (SV.ro (Con.typ cC cs)), AV.s (SV.ro (Con.typ cW ws))] (27 : Nat)] (hd Try.f3 (5 : Nat)) (Stk.mk none false (0 : Nat) [] (0 : Nat))))))) := by kernel_rfl
theorem okN_ne (key : ByteArray) : okN (nePs key) := fun p hp => by
  have : p = (tx1 112, ([] : List (CL cV)), neNs key, ([] : List (CL cF)), ()) := List.mem_singleton.1 hp
  rw [this]
  show (neNs key).length ≤ 1000000
  unfold neNs
  rw [List.length_append]
  split <;> simp
theorem awake_ok {Z : Glob} : FnOk P Z 12 [] [tBool] (fun _ => []) (fun _ => (true, ())) := by
  refine fnOk_of_safe Try.func12 (by kernel_rfl) (by kernel_rfl) ?_
  rintro ⟨⟩ _ _ X hX hz
  exact go hz hX tabAw_ok Try.func12 trAw ⟨okN_ne _, okN_ne _, okN_ne _, yes_and rfl (yes_and rfl (yes_and rfl (yes_and rfl (ends_eq _ rfl (by kernel_rfl)))))⟩
theorem tabAy_ok {Z : Glob} : tabAy.Ok P Z := Tab.Ok.cons l22_ok.sum (Tab.Ok.cons awake_ok.sum (Tab.Ok.cons rfind_ok.sum (Tab.Ok.cons find_ok.sum (Tab.Ok.cons def_ok.sumR Tab.Ok.nil))))
end Ds

namespace Ds
open Go Go.Sx Go.Proofs Lf
theorem idx_range {α : Type} {p : α → Bool} {l : List α} (h : 0 ≤ idxF p l) : ∃ i : Nat, idxF p l = (i : Int) ∧ ∃ hi : i < l.length, p l[i] = true := by
  rcases idxF_spec (p := p) (l := l) with ⟨e, _⟩ | ⟨i, e, h1, h2, _⟩
  · omega
  · exact ⟨i, e, h1, h2⟩
theorem pCh_other {ns : List (CL cN)} {ev : Int} {o : ByteArray} (ho : ∀ x ∈ ns, nY x ≠ o) (n : Int) : pCh ns ev o n = false := by
  refine pCh_no fun ⟨h1, h2, _, h4⟩ => ?_
  have : el ns n ∈ ns := by
    have e : n = ((n.toNat : Nat) : Int) := by omega
    rw [e, el_lt (show n.toNat < ns.length by omega)]
    exact List.getElem_mem _
  exact ho _ this h4
theorem idx_other {ns : List (CL cN)} {ev : Int} {o : ByteArray} (ho : ∀ x ∈ ns, nY x ≠ o) (l : List Int) : idxF (pCh ns ev o) l = -1 := idxF_none fun j _ => pCh_other ho _
theorem choose_any {ns : List (CL cN)} {l : List Int} {ev : Int} {key o : ByteArray} (ho : ∀ x ∈ ns, nY x ≠ o) (h : (chooseF ns l ev key).2 = false) : (chooseF ns l ev o).2 = false := by
  unfold chooseF at h ⊢
  rw [if_neg (by rw [idx_other ho]; omega)]
  split at h
  · cases h
  · split at h
    · cases h
    · rename_i h2
      rw [if_neg h2]
theorem choose_empty {ns : List (CL cN)} {l : List Int} {ev : Int} {o : ByteArray} (ho : ∀ x ∈ ns, nY x ≠ o) (h : (chooseF ns l ev o).2 = true) :
    0 ≤ (chooseF ns l ev o).1 ∧ (chooseF ns l ev o).1 < (ns.length : Int) ∧ nY (el ns (chooseF ns l ev o).1) = ByteArray.empty := by
  unfold chooseF at h ⊢
  rw [if_neg (by rw [idx_other ho]; omega)] at h ⊢
  split at h
  · rename_i h2
    rw [if_pos h2]
    obtain ⟨i, e, hi, hp⟩ := idx_range h2
    obtain ⟨g1, g2, _, g4⟩ := pCh_iff.1 hp
    show 0 ≤ l.getD (idxF (pCh ns ev ByteArray.empty) l).toNat 0 ∧ _
    rw [e, Int.toNat_natCast, getD_lt hi]
    exact ⟨g1, g2, g4⟩
  · cases h
/-- an item that is found as what it is -/
def Found (is : Is) (x : CL cI) : Prop := ∃ j, hasI is j = true ∧ x = getT is j
theorem found_of {is : Is} {x : CL cI} (h : Found is x) : hasI is (iI x) = true ∧ getT is (iI x) = x := by
  obtain ⟨j, h1, rfl⟩ := h
  have : iI (getT is j) = j := (has_item h1).1
  rw [this]
  exact ⟨h1, rfl⟩
theorem scL_found {is : Is} : ∀ (n : Nat) (b own : Bool) (x : CL cI) (seen : List Int), (b = true → Found is x) → ∀ e ∈ scL is n b own x seen, Found is e.1
  | 0, _, _, _, _, _, e, he => by simp [scL] at he
  | n + 1, b, own, x, seen, hb, e, he => by
    rw [scL_succ] at he
    split at he
    · rename_i h
      rcases List.mem_cons.1 he with rfl | he
      · exact hb h.1
      · refine scL_found n _ _ _ _ (fun hh => ?_) e he
        unfold nxB at hh
        unfold nxX
        split
        · rename_i h2; rw [if_pos h2] at hh; exact ⟨_, hh, rfl⟩
        · rename_i h2; rw [if_neg h2] at hh; exact ⟨_, hh, rfl⟩
    · simp at he
theorem scopes_found {is : Is} {id : Int} {e : CL cI × Bool} (h : e ∈ scopesF is id) : Found is e.1 := by
  unfold scopesF at h
  split at h
  · exact scL_found _ _ _ _ _ (fun hh => ⟨_, hh, rfl⟩) e h
  · simp at h
theorem places_found {ps : Ps} {is : Is} {id : Int} {e : Pl3} (h : e ∈ placesF ps is id) : Found is e.1 ∧ e.2.1 = getP ps (iP e.1) := by
  have bo : ∀ j, hasI is j = true → Found is (boP ps is j).1 ∧ (boP ps is j).2.1 = getP ps (iP (boP ps is j).1) := fun j hj => ⟨⟨j, hj, rfl⟩, rfl⟩
  unfold placesF at h
  split at h
  · rename_i h0
    rw [Bool.and_eq_true] at h0
    rcases List.mem_cons.1 h with rfl | h
    · exact bo _ h0.1
    · obtain ⟨y, hy, h⟩ := List.mem_flatMap.1 h
      unfold plOf at h
      rcases List.mem_append.1 h with h | h
      · split at h
        · simp at h
        · obtain rfl := List.mem_singleton.1 h
          exact ⟨scopes_found hy, rfl⟩
      · split at h
        · rename_i h2
          rw [Bool.and_eq_true] at h2
          obtain rfl := List.mem_singleton.1 h
          exact bo _ h2.1
        · simp at h
  · simp at h
theorem getP_mem {ps : Ps} {name : ByteArray} {Q : CL cN → Prop} (h : ∀ p ∈ ps, ∀ x ∈ pO p, Q x) : ∀ x ∈ pO (getP ps name), Q x := by
  intro x hx
  cases hp : hasP ps name with
  | false =>
    rw [no_proc hp] at hx
    have : pO (CL.d cP) = [] := rfl
    rw [this] at hx
    simp at hx
  | true =>
    have h1 : 0 ≤ defP ps name := of_decide_eq_true hp
    obtain ⟨i, e, hi, _⟩ := idx_range (p := pDf name) (l := ps) h1
    have e2 : getP ps name = ps[i] := by
      show el ps (whereP ps name) = _
      unfold whereP
      rw [if_pos h1, show defP ps name = (i : Int) from e, el_lt hi]
    rw [e2] at hx
    exact h _ (List.getElem_mem hi) x hx
theorem find_any {ps : Ps} {is : Is} {id ev : Int} {key o : ByteArray} (ho : ∀ p ∈ ps, ∀ x ∈ pO p, nY x ≠ o) (h : findF ps is id ev key = none) : findF ps is id ev o = none := by
  unfold findF at h ⊢
  split at h
  · rename_i h1
    rw [if_pos h1]
    rw [List.findSome?_eq_none_iff] at h ⊢
    intro e he
    have h2 := h e he
    obtain ⟨_, g2⟩ := places_found he
    have h3 : ∀ x ∈ pO e.2.1, nY x ≠ o := by rw [g2]; exact getP_mem ho
    unfold tryP at h2 ⊢
    split at h2
    · cases h2
    · rename_i h4
      rw [if_neg]
      intro h5
      have := choose_any h3 (show (chooseF (pO e.2.1) e.2.2 ev key).2 = false by simpa using h4)
      rw [this] at h5
      cases h5
  · rename_i h1
    rw [if_neg h1]
theorem find_empty {ps : Ps} {is : Is} {id ev : Int} {o : ByteArray} (ho : ∀ p ∈ ps, ∀ x ∈ pO p, nY x ≠ o) {r : Int × Int} (h : findF ps is id ev o = some r) :
    hasI is r.1 = true ∧ hasP ps (gP is r.1) = true ∧ 0 ≤ r.2 ∧ r.2 < ((pO (getP ps (gP is r.1))).length : Int) ∧ nY (el (pO (getP ps (gP is r.1))) r.2) = ByteArray.empty := by
  unfold findF at h
  split at h
  · obtain ⟨e, he, h2⟩ := List.exists_of_findSome?_eq_some h
    obtain ⟨g1, g2⟩ := places_found he
    obtain ⟨k1, k2⟩ := found_of g1
    have h3 : ∀ x ∈ pO e.2.1, nY x ≠ o := by rw [g2]; exact getP_mem ho
    unfold tryP at h2
    split at h2
    · rename_i h4
      simp only [Option.some.injEq] at h2
      subst h2
      obtain ⟨c1, c2, c3⟩ := choose_empty h3 h4
      have e3 : getP ps (gP is (iI e.1)) = e.2.1 := by
        rw [g2]
        have : gP is (iI e.1) = iP e.1 := congrArg iP k2
        rw [this]
      refine ⟨k1, ?_, c1, by show _ < ((pO (getP ps (gP is (iI e.1)))).length : Int); rw [e3]; exact c2, by show nY (el (pO (getP ps (gP is (iI e.1)))) _) = _; rw [e3]; exact c3⟩
      cases hp : hasP ps (gP is (iI e.1)) with
      | true => rfl
      | false =>
        rw [no_proc hp] at e3
        rw [← e3] at c1 c2
        have : ((pO (CL.d cP)).length : Int) = 0 := rfl
        omega
    · cases h2
  · cases h
theorem routeAny_ok {Z : Glob} : FnOk P Z 3 [tSt, tInt, tU8, tStr] [tBool] (fun _ => []) (fun _ => (true, ())) := by
  refine fnOk_of_safe Try.func3 (by kernel_rfl) (by kernel_rfl) ?_
  rintro ⟨⟨(ck : Int), (nx : Int), (ps : Ps), (is : Is), (cs : Cs), (ws : Ws), ⟨⟩⟩, (id : Int), (ev : Int), (key : ByteArray), ⟨⟩⟩ _ _ X hX hz
  show Safe P 3 X (Ends [tBool] (true, ())) _
  have loop : okN ps → ps.length ≤ 15 → ∀ (n i : Nat), i + n = ps.length → (∀ j (hj : j < i) (h2 : j < ps.length), ∀ x ∈ pO ps[j], nY x ≠ txO) → Safe P 3 X (Ends [tBool] (true, ())) (cAy ck nx ps is cs ws id ev key (i : Int)) := by
    intro hok h15 n
    induction n with
    | zero =>
      intro i hi hno
      have ho : ∀ p ∈ ps, ∀ x ∈ pO p, nY x ≠ txO := fun p hp => by
        obtain ⟨j, hj, rfl⟩ := List.getElem_of_mem hp
        exact hno j (by omega) hj
      refine go hz hX tabAy_ok Try.func3 (loopAy ck nx ps is cs ws id ev key i) (no_and (decide_eq_false (by omega)) ⟨hok, hok, ?_⟩)
      cases h1 : findF ps is id ev key with
      | none => rw [find_any ho h1]; exact yes_and rfl (ends_eq _ rfl (by kernel_rfl))
      | some q =>
        refine no_and rfl ?_
        cases h2 : findF ps is id ev txO with
        | none => exact yes_and rfl (ends_eq _ rfl (by kernel_rfl))
        | some r =>
          obtain ⟨g1, g2, g3, g4, g5⟩ := find_empty ho h2
          refine no_and rfl (yes_and g1 (yes_and g2 (yes_and (decide_eq_true g3) (yes_and (decide_eq_true g4) ⟨g3, g4, ?_⟩))))
          have e : decide (nY (el (pO (getP ps (gP is (hI (some r))))) (hN (some r))) = ByteArray.empty) = true := decide_eq_true g5
          rw [e]
          exact ends_eq _ rfl (by kernel_rfl)
    | succ n ih =>
      intro i hi hno
      have hlt : i < ps.length := by omega
      refine go hz hX tabAy_ok Try.func3 (loopAy ck nx ps is cs ws id ev key i) (yes_and (decide_eq_true (by omega)) ?_)
      have hl := hok _ (List.getElem_mem hlt)
      have inner : ∀ (m k : Nat), k + m = (pO ps[i]).length → (∀ j (hj : j < k) (h2 : j < (pO ps[i]).length), nY (pO ps[i])[j] ≠ txO) → Safe P 3 X (Ends [tBool] (true, ())) (cAy8 ck nx ps is cs ws id ev key (i : Int) (k : Int)) := by
        intro m
        induction m with
        | zero =>
          intro k hk hn2
          refine go hz hX tabAy_ok Try.func3 (loopAy8 ck nx ps is cs ws id ev key i k) ⟨by omega, by omega, ?_⟩
          rw [el_lt hlt]
          refine no_and (decide_eq_false (by omega)) ⟨⟨by omega, by omega⟩, ih (i + 1) (by omega) fun j hj h2 => ?_⟩
          by_cases e : j = i
          · subst e
            intro x hx
            obtain ⟨a, ha, rfl⟩ := List.getElem_of_mem hx
            exact hn2 a (by omega) ha
          · exact hno j (by omega) h2
        | succ m ihm =>
          intro k hk hn2
          have hk2 : k < (pO ps[i]).length := by omega
          refine go hz hX tabAy_ok Try.func3 (loopAy8 ck nx ps is cs ws id ev key i k) ⟨by omega, by omega, ?_⟩
          rw [el_lt hlt, el_lt hk2]
          refine yes_and (decide_eq_true (by omega)) ⟨by omega, by omega, by omega, by omega, fun h => ends_eq _ rfl (by kernel_rfl), fun h => ⟨⟨by omega, by omega⟩, ihm (k + 1) (by omega) fun j hj h2 => ?_⟩⟩
          by_cases e : j = k
          · subst e; exact of_decide_eq_false h
          · exact hn2 j (by omega) h2
      exact inner (pO ps[i]).length 0 (by omega) fun j hj => absurd hj (Nat.not_lt_zero _)
  refine go hz hX tabAy_ok Try.func3 (trAy ck nx ps is cs ws id ev key) ?_
  have l0 : large22 ps is cs ws = false → Safe P 3 X (Ends [tBool] (true, ())) (cAy ck nx ps is cs ws id ev key 0) := fun h => loop (okN_of h).1 (okN_of h).2.1 ps.length 0 (by omega) fun j hj => absurd hj (Nat.not_lt_zero _)
  repeat' (with_reducible (first | refine h_eq ?_ | refine h_need ?_ ?_ | refine h_dec (fun _ => ?_) (fun _ => ?_) | refine h_beq (fun _ => ?_) (fun _ => ?_) | refine h_bne (fun _ => ?_) (fun _ => ?_) | refine h_tt ?_ | refine h_ff ?_ | refine h_not ?_ | refine h_ite (fun _ => ?_) (fun _ => ?_) | refine h_both (fun _ => ?_) (fun _ => ?_) | refine h_ret ?_ | refine h_at ?_))
  all_goals first | exact ends_eq _ rfl (by kernel_rfl) | exact l0 (by assumption) | skip
end Ds
