/- Lemmas: H8, H9, H10, H11, H12, SxPan3, H13, H14, H15, H16, H17, H18, H19, H20, H21, H22, H23, H24, H25, H26, I1, I2, SxStill, I3, I4, I5, I6, I8, I9. -/
import Derived.Recover
import Derived.Tactics
import Derived.Tactics2
import Derived.Defers
import Derived.Laws.Pointers
import Derived.Test.YtlpahmfhaljjkaaPD

namespace Ds
open Go Go.Sx Go.Proofs Lf
abbrev avSs (l : Ss) : AV := .s (.ro (.typ cSi l))
def tabPl : Tab := [(64, sumOne), (32, sumDf), (25, sumNd), (29, sumWa), (17, sumSo), (16, sumLk)]
def nsP1 : List (Nat × Norm) := [(midKey + 1001, ⟨[], [18], 1, []⟩)]
def nsPl : List (Nat × Norm) := [(midKey + 25003, ⟨[], [164, 165, 166], 1, []⟩), (midKey + 9006, ⟨[], [58, 59, 63], 1, []⟩), (midKey + 21006, ⟨[], [130, 131, 135], 1, []⟩), (midKey + 24004, ⟨[], [159, 160, 161, 162], 1, []⟩), (midKey + 17009, ⟨[], [103, 107, 111], 1, []⟩)]
theorem trP1 (ps : Ps) (n : Int) (cs : Ss) (nm : ByteArray) (k : Int) : run P tab0.sum Try.f41 nsP1 (start Try.f41 [.ptr 0 0, avSs cs, .agg [.s (.str nm), avI k]] [obCo ps n]) =
  Tree.at (Cfg.mk (sl (168 : Nat) [((18 : Nat), AV.ptr (0 : Nat) (0 : Nat))]) [AObj.own [AV.s (SV.ro (Con.typ cP ps)), AV.s (SV.int IntKind.i64 n)] (82 : Nat)] (cal Try.f41 (1 : Nat) (1 : Nat)) (Stk.mk none false (0 : Nat) [] (1 : Nat))) := by kernel_rfl
theorem trPl (ps : Ps) (n : Int) (cs : List (ByteArray × Int × Unit)) (nm : ByteArray) (k : Int) : run P tabPl.sum Try.f41 nsPl (start Try.f41 [.ptr 0 0, avSs cs, .agg [.s (.str nm), avI k]] [obCo ps n]) =
  Tree.need (Slf (some [AV.ptr (0 : Nat) (0 : Nat)]))
  (Tree.need (Slf (some [AObj.own [AV.s (SV.ro (Con.typ cP ps)), AV.s (SV.int IntKind.i64 n)] (82 : Nat)]))
    (Tree.need ((0 : Int) ≤ n ∧ n < (2000 : Int))
      (Tree.ite (!inN (pO (getP ps nm)) k) (Tree.ret [AObj.own [AV.s (SV.ro (Con.typ cP ps)), AV.s (SV.int IntKind.i64 (n + (1 : Int)))] (82 : Nat), AObj.own [AV.s (SV.str nm), AV.s (SV.int IntKind.i64 k)] (38 : Nat), AObj.own [AV.s (SV.str (pN (getP ps nm))), AV.s (SV.ro (Con.typ cV (pV (getP ps nm)))), AV.s (SV.ro (Con.typ cN (pO (getP ps nm)))), AV.s (SV.ro (Con.typ cF (pF (getP ps nm))))] (26 : Nat), AObj.own [AV.s (SV.str (nN (ndA (pO (getP ps nm)) k))), AV.s (SV.int IntKind.u8 (nK (ndA (pO (getP ps nm)) k))), AV.s (SV.int IntKind.i64 (nI (ndA (pO (getP ps nm)) k))), AV.s (SV.int IntKind.i64 (nO (ndA (pO (getP ps nm)) k))), AV.s (SV.int IntKind.u8 (nE (ndA (pO (getP ps nm)) k))), AV.s (SV.str (nY (ndA (pO (getP ps nm)) k))), AV.s (SV.str (nT (ndA (pO (getP ps nm)) k))), AV.s (SV.str (nS (ndA (pO (getP ps nm)) k))), AV.s (SV.bool (nB (ndA (pO (getP ps nm)) k))), AV.s (SV.ro (Con.typ cV (nV (ndA (pO (getP ps nm)) k)))), AV.s (SV.ro (Con.strs (nZ (ndA (pO (getP ps nm)) k))))] (34 : Nat)] (AV.tup []))
        (Tree.ite (nK (ndA (pO (getP ps nm)) k) == (3 : Int) || nK (ndA (pO (getP ps nm)) k) == (10 : Int) || nK (ndA (pO (getP ps nm)) k) == (6 : Int) && (nE (ndA (pO (getP ps nm)) k) == (1 : Int) || nE (ndA (pO (getP ps nm)) k) == (2 : Int) || nE (ndA (pO (getP ps nm)) k) == (3 : Int))) (Tree.ret [AObj.own [AV.s (SV.ro (Con.typ cP ps)), AV.s (SV.int IntKind.i64 (n + (1 : Int)))] (82 : Nat), AObj.own [AV.s (SV.str nm), AV.s (SV.int IntKind.i64 k)] (38 : Nat), AObj.own [AV.s (SV.str (pN (getP ps nm))), AV.s (SV.ro (Con.typ cV (pV (getP ps nm)))), AV.s (SV.ro (Con.typ cN (pO (getP ps nm)))), AV.s (SV.ro (Con.typ cF (pF (getP ps nm))))] (26 : Nat), AObj.own [AV.s (SV.str (nN (ndA (pO (getP ps nm)) k))), AV.s (SV.int IntKind.u8 (nK (ndA (pO (getP ps nm)) k))), AV.s (SV.int IntKind.i64 (nI (ndA (pO (getP ps nm)) k))), AV.s (SV.int IntKind.i64 (nO (ndA (pO (getP ps nm)) k))), AV.s (SV.int IntKind.u8 (nE (ndA (pO (getP ps nm)) k))), AV.s (SV.str (nY (ndA (pO (getP ps nm)) k))), AV.s (SV.str (nT (ndA (pO (getP ps nm)) k))), AV.s (SV.str (nS (ndA (pO (getP ps nm)) k))), AV.s (SV.bool (nB (ndA (pO (getP ps nm)) k))), AV.s (SV.ro (Con.typ cV (nV (ndA (pO (getP ps nm)) k)))), AV.s (SV.ro (Con.strs (nZ (ndA (pO (getP ps nm)) k))))] (34 : Nat)] (AV.tup []))
          (Tree.ite (nK (ndA (pO (getP ps nm)) k) == (11 : Int)) (Tree.need (Slf (some [AV.ptr (0 : Nat) (0 : Nat)])) (Tree.need (Slf (some [AObj.own [AV.s (SV.ro (Con.typ cP ps)), AV.s (SV.int IntKind.i64 (n + (1 : Int)))] (82 : Nat)])) (Tree.need ((0 : Int) ≤ n + (1 : Int) ∧ n + (1 : Int) < (2000 : Int)) (Tree.need ((pO (getP ps nm)).length ≤ (1000000 : Nat)) (Tree.ite (hasSt (pO (getP ps nm)) k) (Tree.at (Cfg.mk (sl (168 : Nat) [((58 : Nat), AV.ptr (0 : Nat) (0 : Nat)), ((59 : Nat), AV.s (SV.ro (Con.typ cSi cs))), ((63 : Nat), AV.agg [AV.s (SV.str nm), AV.s (SV.int IntKind.i64 (startF (pO (getP ps nm)) k))])]) [AObj.own [AV.s (SV.ro (Con.typ cP ps)), AV.s (SV.int IntKind.i64 (n + (1 : Int) + (1 : Int)))] (82 : Nat)] (cal Try.f41 (9 : Nat) (6 : Nat)) (Stk.mk none false (0 : Nat) [] (9 : Nat)))) (Tree.at (Cfg.mk (sl (168 : Nat) [((164 : Nat), AV.ptr (0 : Nat) (0 : Nat)), ((165 : Nat), AV.s (SV.ro (Con.typ cSi cs))), ((166 : Nat), AV.agg [AV.s (SV.str nm), AV.s (SV.int IntKind.i64 k)])]) [AObj.own [AV.s (SV.ro (Con.typ cP ps)), AV.s (SV.int IntKind.i64 (n + (1 : Int) + (1 : Int)))] (82 : Nat)] (cal Try.f41 (25 : Nat) (3 : Nat)) (Stk.mk none false (0 : Nat) [] (25 : Nat)))))))))
            (Tree.ite (nK (ndA (pO (getP ps nm)) k) == (12 : Int)) (Tree.need (Slf (some [AV.ptr (0 : Nat) (0 : Nat)])) (Tree.need (Slf (some [AObj.own [AV.s (SV.ro (Con.typ cP ps)), AV.s (SV.int IntKind.i64 (n + (1 : Int)))] (82 : Nat)])) (Tree.need ((0 : Int) ≤ n + (1 : Int) ∧ n + (1 : Int) < (2000 : Int)) (Tree.at (Cfg.mk (sl (168 : Nat) [((164 : Nat), AV.ptr (0 : Nat) (0 : Nat)), ((165 : Nat), AV.s (SV.ro (Con.typ cSi cs))), ((166 : Nat), AV.agg [AV.s (SV.str nm), AV.s (SV.int IntKind.i64 k)])]) [AObj.own [AV.s (SV.ro (Con.typ cP ps)), AV.s (SV.int IntKind.i64 (n + (1 : Int) + (1 : Int)))] (82 : Nat)] (cal Try.f41 (25 : Nat) (3 : Nat)) (Stk.mk none false (0 : Nat) [] (25 : Nat)))))))
              (Tree.ite (nK (ndA (pO (getP ps nm)) k) == (8 : Int)) (Tree.need (Slf (some [AV.ptr (0 : Nat) (0 : Nat)])) (Tree.need (Slf (some [AObj.own [AV.s (SV.ro (Con.typ cP ps)), AV.s (SV.int IntKind.i64 (n + (1 : Int)))] (82 : Nat)])) (Tree.need ((0 : Int) ≤ n + (1 : Int) ∧ n + (1 : Int) < (2000 : Int)) (Tree.at (Cfg.mk (sl (168 : Nat) [((164 : Nat), AV.ptr (0 : Nat) (0 : Nat)), ((165 : Nat), AV.s (SV.ro (Con.typ cSi cs))), ((166 : Nat), AV.agg [AV.s (SV.str nm), AV.s (SV.int IntKind.i64 k)])]) [AObj.own [AV.s (SV.ro (Con.typ cP ps)), AV.s (SV.int IntKind.i64 (n + (1 : Int) + (1 : Int)))] (82 : Nat)] (cal Try.f41 (25 : Nat) (3 : Nat)) (Stk.mk none false (0 : Nat) [] (25 : Nat)))))))
                (Tree.ite (nK (ndA (pO (getP ps nm)) k) == (9 : Int)) (Tree.need (Slf (some [AV.ptr (0 : Nat) (0 : Nat)])) (Tree.need (Slf (some [AObj.own [AV.s (SV.ro (Con.typ cP ps)), AV.s (SV.int IntKind.i64 (n + (1 : Int)))] (82 : Nat)])) (Tree.need ((0 : Int) ≤ n + (1 : Int) ∧ n + (1 : Int) < (2000 : Int)) (Tree.at (Cfg.mk (sl (168 : Nat) [((164 : Nat), AV.ptr (0 : Nat) (0 : Nat)), ((165 : Nat), AV.s (SV.ro (Con.typ cSi cs))), ((166 : Nat), AV.agg [AV.s (SV.str nm), AV.s (SV.int IntKind.i64 k)])]) [AObj.own [AV.s (SV.ro (Con.typ cP ps)), AV.s (SV.int IntKind.i64 (n + (1 : Int) + (1 : Int)))] (82 : Nat)] (cal Try.f41 (25 : Nat) (3 : Nat)) (Stk.mk none false (0 : Nat) [] (25 : Nat)))))))
                  (Tree.ite (nK (ndA (pO (getP ps nm)) k) == (14 : Int)) (Tree.need (Slf (some [AV.ptr (0 : Nat) (0 : Nat)])) (Tree.need (Slf (some [AObj.own [AV.s (SV.ro (Con.typ cP ps)), AV.s (SV.int IntKind.i64 (n + (1 : Int)))] (82 : Nat)])) (Tree.need ((0 : Int) ≤ n + (1 : Int) ∧ n + (1 : Int) < (2000 : Int)) (Tree.need ((pO (getP ps (nY (ndA (pO (getP ps nm)) k)))).length ≤ (1000000 : Nat)) (Tree.ite (hasSt (pO (getP ps (nY (ndA (pO (getP ps nm)) k)))) (-1 : Int)) (Tree.need (((1 : Nat) + cs.length) * (24 : Nat) ≤ (140737488355328 : Nat)) (Tree.at (Cfg.mk (sl (168 : Nat) [((103 : Nat), AV.ptr (0 : Nat) (0 : Nat)), ((107 : Nat), AV.vec (1 : Nat)), ((111 : Nat), AV.agg [AV.s (SV.str (nY (ndA (pO (getP ps nm)) k))), AV.s (SV.int IntKind.i64 (startF (pO (getP ps (nY (ndA (pO (getP ps nm)) k)))) (-1 : Int)))])]) [AObj.own [AV.s (SV.ro (Con.typ cP ps)), AV.s (SV.int IntKind.i64 (n + (1 : Int) + (1 : Int)))] (82 : Nat), AObj.vec (Con.typ cSi ([(nm, k, ())] ++ cs)) (38 : Nat)] (cal Try.f41 (17 : Nat) (9 : Nat)) (Stk.mk none false (0 : Nat) [] (17 : Nat))))) (Tree.at (Cfg.mk (sl (168 : Nat) [((164 : Nat), AV.ptr (0 : Nat) (0 : Nat)), ((165 : Nat), AV.s (SV.ro (Con.typ cSi cs))), ((166 : Nat), AV.agg [AV.s (SV.str nm), AV.s (SV.int IntKind.i64 k)])]) [AObj.own [AV.s (SV.ro (Con.typ cP ps)), AV.s (SV.int IntKind.i64 (n + (1 : Int) + (1 : Int)))] (82 : Nat)] (cal Try.f41 (25 : Nat) (3 : Nat)) (Stk.mk none false (0 : Nat) [] (25 : Nat)))))))))
                    (Tree.ite (nK (ndA (pO (getP ps nm)) k) == (5 : Int))
                      (Tree.ite (nE (ndA (pO (getP ps nm)) k) == (6 : Int)) (Tree.need ((pO (getP ps nm)).length ≤ (1000000 : Nat)) (Tree.ite (hasLk (pO (getP ps nm)) k) (Tree.at (Cfg.mk (sl (168 : Nat) [((130 : Nat), AV.ptr (0 : Nat) (0 : Nat)), ((131 : Nat), AV.s (SV.ro (Con.typ cSi cs))), ((135 : Nat), AV.agg [AV.s (SV.str nm), AV.s (SV.int IntKind.i64 (linkF (pO (getP ps nm)) k))])]) [AObj.own [AV.s (SV.ro (Con.typ cP ps)), AV.s (SV.int IntKind.i64 (n + (1 : Int)))] (82 : Nat)] (cal Try.f41 (21 : Nat) (6 : Nat)) (Stk.mk none false (0 : Nat) [] (21 : Nat)))) (Tree.ret [AObj.own [AV.s (SV.ro (Con.typ cP ps)), AV.s (SV.int IntKind.i64 (n + (1 : Int)))] (82 : Nat), AObj.own [AV.s (SV.str nm), AV.s (SV.int IntKind.i64 k)] (38 : Nat), AObj.own [AV.s (SV.str (pN (getP ps nm))), AV.s (SV.ro (Con.typ cV (pV (getP ps nm)))), AV.s (SV.ro (Con.typ cN (pO (getP ps nm)))), AV.s (SV.ro (Con.typ cF (pF (getP ps nm))))] (26 : Nat), AObj.own [AV.s (SV.str (nN (ndA (pO (getP ps nm)) k))), AV.s (SV.int IntKind.u8 (nK (ndA (pO (getP ps nm)) k))), AV.s (SV.int IntKind.i64 (nI (ndA (pO (getP ps nm)) k))), AV.s (SV.int IntKind.i64 (nO (ndA (pO (getP ps nm)) k))), AV.s (SV.int IntKind.u8 (nE (ndA (pO (getP ps nm)) k))), AV.s (SV.str (nY (ndA (pO (getP ps nm)) k))), AV.s (SV.str (nT (ndA (pO (getP ps nm)) k))), AV.s (SV.str (nS (ndA (pO (getP ps nm)) k))), AV.s (SV.bool (nB (ndA (pO (getP ps nm)) k))), AV.s (SV.ro (Con.typ cV (nV (ndA (pO (getP ps nm)) k)))), AV.s (SV.ro (Con.strs (nZ (ndA (pO (getP ps nm)) k))))] (34 : Nat)] (AV.tup []))))
                        (Tree.ite (nE (ndA (pO (getP ps nm)) k) == (5 : Int)) (Tree.ite (nK (ndA (pO (getP ps nm)) k) == (5 : Int)) (Tree.at (Cfg.mk (sl (168 : Nat) [((159 : Nat), AV.ptr (0 : Nat) (0 : Nat)), ((160 : Nat), AV.s (SV.ro (Con.typ cSi cs))), ((161 : Nat), AV.agg [AV.s (SV.str nm), AV.s (SV.int IntKind.i64 k)]), ((162 : Nat), AV.agg [AV.s (SV.str (nN (ndA (pO (getP ps nm)) k))), AV.s (SV.int IntKind.u8 (nK (ndA (pO (getP ps nm)) k))), AV.s (SV.int IntKind.i64 (nI (ndA (pO (getP ps nm)) k))), AV.s (SV.int IntKind.i64 (nO (ndA (pO (getP ps nm)) k))), AV.s (SV.int IntKind.u8 (nE (ndA (pO (getP ps nm)) k))), AV.s (SV.str (nY (ndA (pO (getP ps nm)) k))), AV.s (SV.str (nT (ndA (pO (getP ps nm)) k))), AV.s (SV.str (nS (ndA (pO (getP ps nm)) k))), AV.s (SV.bool (nB (ndA (pO (getP ps nm)) k))), AV.s (SV.ro (Con.typ cV (nV (ndA (pO (getP ps nm)) k)))), AV.s (SV.ro (Con.strs (nZ (ndA (pO (getP ps nm)) k))))])]) [AObj.own [AV.s (SV.ro (Con.typ cP ps)), AV.s (SV.int IntKind.i64 (n + (1 : Int)))] (82 : Nat)] (cal Try.f41 (24 : Nat) (4 : Nat)) (Stk.mk none false (0 : Nat) [] (24 : Nat)))) (Tree.ite (nK (ndA (pO (getP ps nm)) k) == (2 : Int)) (Tree.at (Cfg.mk (sl (168 : Nat) [((159 : Nat), AV.ptr (0 : Nat) (0 : Nat)), ((160 : Nat), AV.s (SV.ro (Con.typ cSi cs))), ((161 : Nat), AV.agg [AV.s (SV.str nm), AV.s (SV.int IntKind.i64 k)]), ((162 : Nat), AV.agg [AV.s (SV.str (nN (ndA (pO (getP ps nm)) k))), AV.s (SV.int IntKind.u8 (nK (ndA (pO (getP ps nm)) k))), AV.s (SV.int IntKind.i64 (nI (ndA (pO (getP ps nm)) k))), AV.s (SV.int IntKind.i64 (nO (ndA (pO (getP ps nm)) k))), AV.s (SV.int IntKind.u8 (nE (ndA (pO (getP ps nm)) k))), AV.s (SV.str (nY (ndA (pO (getP ps nm)) k))), AV.s (SV.str (nT (ndA (pO (getP ps nm)) k))), AV.s (SV.str (nS (ndA (pO (getP ps nm)) k))), AV.s (SV.bool (nB (ndA (pO (getP ps nm)) k))), AV.s (SV.ro (Con.typ cV (nV (ndA (pO (getP ps nm)) k)))), AV.s (SV.ro (Con.strs (nZ (ndA (pO (getP ps nm)) k))))])]) [AObj.own [AV.s (SV.ro (Con.typ cP ps)), AV.s (SV.int IntKind.i64 (n + (1 : Int)))] (82 : Nat)] (cal Try.f41 (24 : Nat) (4 : Nat)) (Stk.mk none false (0 : Nat) [] (24 : Nat)))) (Tree.ite (nE (ndA (pO (getP ps nm)) k) == (4 : Int)) (Tree.ite (nK (ndA (pO (getP ps nm)) k) == (2 : Int)) (Tree.at (Cfg.mk (sl (168 : Nat) [((159 : Nat), AV.ptr (0 : Nat) (0 : Nat)), ((160 : Nat), AV.s (SV.ro (Con.typ cSi cs))), ((161 : Nat), AV.agg [AV.s (SV.str nm), AV.s (SV.int IntKind.i64 k)]), ((162 : Nat), AV.agg [AV.s (SV.str (nN (ndA (pO (getP ps nm)) k))), AV.s (SV.int IntKind.u8 (nK (ndA (pO (getP ps nm)) k))), AV.s (SV.int IntKind.i64 (nI (ndA (pO (getP ps nm)) k))), AV.s (SV.int IntKind.i64 (nO (ndA (pO (getP ps nm)) k))), AV.s (SV.int IntKind.u8 (nE (ndA (pO (getP ps nm)) k))), AV.s (SV.str (nY (ndA (pO (getP ps nm)) k))), AV.s (SV.str (nT (ndA (pO (getP ps nm)) k))), AV.s (SV.str (nS (ndA (pO (getP ps nm)) k))), AV.s (SV.bool (nB (ndA (pO (getP ps nm)) k))), AV.s (SV.ro (Con.typ cV (nV (ndA (pO (getP ps nm)) k)))), AV.s (SV.ro (Con.strs (nZ (ndA (pO (getP ps nm)) k))))])]) [AObj.own [AV.s (SV.ro (Con.typ cP ps)), AV.s (SV.int IntKind.i64 (n + (1 : Int)))] (82 : Nat)] (cal Try.f41 (24 : Nat) (4 : Nat)) (Stk.mk none false (0 : Nat) [] (24 : Nat)))) (Tree.at (Cfg.mk (sl (168 : Nat) [((164 : Nat), AV.ptr (0 : Nat) (0 : Nat)), ((165 : Nat), AV.s (SV.ro (Con.typ cSi cs))), ((166 : Nat), AV.agg [AV.s (SV.str nm), AV.s (SV.int IntKind.i64 k)])]) [AObj.own [AV.s (SV.ro (Con.typ cP ps)), AV.s (SV.int IntKind.i64 (n + (1 : Int)))] (82 : Nat)] (cal Try.f41 (25 : Nat) (3 : Nat)) (Stk.mk none false (0 : Nat) [] (25 : Nat))))) (Tree.at (Cfg.mk (sl (168 : Nat) [((164 : Nat), AV.ptr (0 : Nat) (0 : Nat)), ((165 : Nat), AV.s (SV.ro (Con.typ cSi cs))), ((166 : Nat), AV.agg [AV.s (SV.str nm), AV.s (SV.int IntKind.i64 k)])]) [AObj.own [AV.s (SV.ro (Con.typ cP ps)), AV.s (SV.int IntKind.i64 (n + (1 : Int)))] (82 : Nat)] (cal Try.f41 (25 : Nat) (3 : Nat)) (Stk.mk none false (0 : Nat) [] (25 : Nat)))))))
                          (Tree.ite (nE (ndA (pO (getP ps nm)) k) == (4 : Int)) (Tree.ite (nK (ndA (pO (getP ps nm)) k) == (2 : Int)) (Tree.at (Cfg.mk (sl (168 : Nat) [((159 : Nat), AV.ptr (0 : Nat) (0 : Nat)), ((160 : Nat), AV.s (SV.ro (Con.typ cSi cs))), ((161 : Nat), AV.agg [AV.s (SV.str nm), AV.s (SV.int IntKind.i64 k)]), ((162 : Nat), AV.agg [AV.s (SV.str (nN (ndA (pO (getP ps nm)) k))), AV.s (SV.int IntKind.u8 (nK (ndA (pO (getP ps nm)) k))), AV.s (SV.int IntKind.i64 (nI (ndA (pO (getP ps nm)) k))), AV.s (SV.int IntKind.i64 (nO (ndA (pO (getP ps nm)) k))), AV.s (SV.int IntKind.u8 (nE (ndA (pO (getP ps nm)) k))), AV.s (SV.str (nY (ndA (pO (getP ps nm)) k))), AV.s (SV.str (nT (ndA (pO (getP ps nm)) k))), AV.s (SV.str (nS (ndA (pO (getP ps nm)) k))), AV.s (SV.bool (nB (ndA (pO (getP ps nm)) k))), AV.s (SV.ro (Con.typ cV (nV (ndA (pO (getP ps nm)) k)))), AV.s (SV.ro (Con.strs (nZ (ndA (pO (getP ps nm)) k))))])]) [AObj.own [AV.s (SV.ro (Con.typ cP ps)), AV.s (SV.int IntKind.i64 (n + (1 : Int)))] (82 : Nat)] (cal Try.f41 (24 : Nat) (4 : Nat)) (Stk.mk none false (0 : Nat) [] (24 : Nat)))) (Tree.at (Cfg.mk (sl (168 : Nat) [((164 : Nat), AV.ptr (0 : Nat) (0 : Nat)), ((165 : Nat), AV.s (SV.ro (Con.typ cSi cs))), ((166 : Nat), AV.agg [AV.s (SV.str nm), AV.s (SV.int IntKind.i64 k)])]) [AObj.own [AV.s (SV.ro (Con.typ cP ps)), AV.s (SV.int IntKind.i64 (n + (1 : Int)))] (82 : Nat)] (cal Try.f41 (25 : Nat) (3 : Nat)) (Stk.mk none false (0 : Nat) [] (25 : Nat))))) (Tree.at (Cfg.mk (sl (168 : Nat) [((164 : Nat), AV.ptr (0 : Nat) (0 : Nat)), ((165 : Nat), AV.s (SV.ro (Con.typ cSi cs))), ((166 : Nat), AV.agg [AV.s (SV.str nm), AV.s (SV.int IntKind.i64 k)])]) [AObj.own [AV.s (SV.ro (Con.typ cP ps)), AV.s (SV.int IntKind.i64 (n + (1 : Int)))] (82 : Nat)] (cal Try.f41 (25 : Nat) (3 : Nat)) (Stk.mk none false (0 : Nat) [] (25 : Nat)))))))
                      (Tree.ite (nE (ndA (pO (getP ps nm)) k) == (5 : Int)) (Tree.ite (nK (ndA (pO (getP ps nm)) k) == (5 : Int)) (Tree.at (Cfg.mk (sl (168 : Nat) [((159 : Nat), AV.ptr (0 : Nat) (0 : Nat)), ((160 : Nat), AV.s (SV.ro (Con.typ cSi cs))), ((161 : Nat), AV.agg [AV.s (SV.str nm), AV.s (SV.int IntKind.i64 k)]), ((162 : Nat), AV.agg [AV.s (SV.str (nN (ndA (pO (getP ps nm)) k))), AV.s (SV.int IntKind.u8 (nK (ndA (pO (getP ps nm)) k))), AV.s (SV.int IntKind.i64 (nI (ndA (pO (getP ps nm)) k))), AV.s (SV.int IntKind.i64 (nO (ndA (pO (getP ps nm)) k))), AV.s (SV.int IntKind.u8 (nE (ndA (pO (getP ps nm)) k))), AV.s (SV.str (nY (ndA (pO (getP ps nm)) k))), AV.s (SV.str (nT (ndA (pO (getP ps nm)) k))), AV.s (SV.str (nS (ndA (pO (getP ps nm)) k))), AV.s (SV.bool (nB (ndA (pO (getP ps nm)) k))), AV.s (SV.ro (Con.typ cV (nV (ndA (pO (getP ps nm)) k)))), AV.s (SV.ro (Con.strs (nZ (ndA (pO (getP ps nm)) k))))])]) [AObj.own [AV.s (SV.ro (Con.typ cP ps)), AV.s (SV.int IntKind.i64 (n + (1 : Int)))] (82 : Nat)] (cal Try.f41 (24 : Nat) (4 : Nat)) (Stk.mk none false (0 : Nat) [] (24 : Nat)))) (Tree.ite (nK (ndA (pO (getP ps nm)) k) == (2 : Int)) (Tree.at (Cfg.mk (sl (168 : Nat) [((159 : Nat), AV.ptr (0 : Nat) (0 : Nat)), ((160 : Nat), AV.s (SV.ro (Con.typ cSi cs))), ((161 : Nat), AV.agg [AV.s (SV.str nm), AV.s (SV.int IntKind.i64 k)]), ((162 : Nat), AV.agg [AV.s (SV.str (nN (ndA (pO (getP ps nm)) k))), AV.s (SV.int IntKind.u8 (nK (ndA (pO (getP ps nm)) k))), AV.s (SV.int IntKind.i64 (nI (ndA (pO (getP ps nm)) k))), AV.s (SV.int IntKind.i64 (nO (ndA (pO (getP ps nm)) k))), AV.s (SV.int IntKind.u8 (nE (ndA (pO (getP ps nm)) k))), AV.s (SV.str (nY (ndA (pO (getP ps nm)) k))), AV.s (SV.str (nT (ndA (pO (getP ps nm)) k))), AV.s (SV.str (nS (ndA (pO (getP ps nm)) k))), AV.s (SV.bool (nB (ndA (pO (getP ps nm)) k))), AV.s (SV.ro (Con.typ cV (nV (ndA (pO (getP ps nm)) k)))), AV.s (SV.ro (Con.strs (nZ (ndA (pO (getP ps nm)) k))))])]) [AObj.own [AV.s (SV.ro (Con.typ cP ps)), AV.s (SV.int IntKind.i64 (n + (1 : Int)))] (82 : Nat)] (cal Try.f41 (24 : Nat) (4 : Nat)) (Stk.mk none false (0 : Nat) [] (24 : Nat)))) (Tree.ite (nE (ndA (pO (getP ps nm)) k) == (4 : Int)) (Tree.ite (nK (ndA (pO (getP ps nm)) k) == (2 : Int)) (Tree.at (Cfg.mk (sl (168 : Nat) [((159 : Nat), AV.ptr (0 : Nat) (0 : Nat)), ((160 : Nat), AV.s (SV.ro (Con.typ cSi cs))), ((161 : Nat), AV.agg [AV.s (SV.str nm), AV.s (SV.int IntKind.i64 k)]), ((162 : Nat), AV.agg [AV.s (SV.str (nN (ndA (pO (getP ps nm)) k))), AV.s (SV.int IntKind.u8 (nK (ndA (pO (getP ps nm)) k))), AV.s (SV.int IntKind.i64 (nI (ndA (pO (getP ps nm)) k))), AV.s (SV.int IntKind.i64 (nO (ndA (pO (getP ps nm)) k))), AV.s (SV.int IntKind.u8 (nE (ndA (pO (getP ps nm)) k))), AV.s (SV.str (nY (ndA (pO (getP ps nm)) k))), AV.s (SV.str (nT (ndA (pO (getP ps nm)) k))), AV.s (SV.str (nS (ndA (pO (getP ps nm)) k))), AV.s (SV.bool (nB (ndA (pO (getP ps nm)) k))), AV.s (SV.ro (Con.typ cV (nV (ndA (pO (getP ps nm)) k)))), AV.s (SV.ro (Con.strs (nZ (ndA (pO (getP ps nm)) k))))])]) [AObj.own [AV.s (SV.ro (Con.typ cP ps)), AV.s (SV.int IntKind.i64 (n + (1 : Int)))] (82 : Nat)] (cal Try.f41 (24 : Nat) (4 : Nat)) (Stk.mk none false (0 : Nat) [] (24 : Nat)))) (Tree.at (Cfg.mk (sl (168 : Nat) [((164 : Nat), AV.ptr (0 : Nat) (0 : Nat)), ((165 : Nat), AV.s (SV.ro (Con.typ cSi cs))), ((166 : Nat), AV.agg [AV.s (SV.str nm), AV.s (SV.int IntKind.i64 k)])]) [AObj.own [AV.s (SV.ro (Con.typ cP ps)), AV.s (SV.int IntKind.i64 (n + (1 : Int)))] (82 : Nat)] (cal Try.f41 (25 : Nat) (3 : Nat)) (Stk.mk none false (0 : Nat) [] (25 : Nat))))) (Tree.at (Cfg.mk (sl (168 : Nat) [((164 : Nat), AV.ptr (0 : Nat) (0 : Nat)), ((165 : Nat), AV.s (SV.ro (Con.typ cSi cs))), ((166 : Nat), AV.agg [AV.s (SV.str nm), AV.s (SV.int IntKind.i64 k)])]) [AObj.own [AV.s (SV.ro (Con.typ cP ps)), AV.s (SV.int IntKind.i64 (n + (1 : Int)))] (82 : Nat)] (cal Try.f41 (25 : Nat) (3 : Nat)) (Stk.mk none false (0 : Nat) [] (25 : Nat)))))))
                        (Tree.ite (nE (ndA (pO (getP ps nm)) k) == (4 : Int)) (Tree.ite (nK (ndA (pO (getP ps nm)) k) == (2 : Int)) (Tree.at (Cfg.mk (sl (168 : Nat) [((159 : Nat), AV.ptr (0 : Nat) (0 : Nat)), ((160 : Nat), AV.s (SV.ro (Con.typ cSi cs))), ((161 : Nat), AV.agg [AV.s (SV.str nm), AV.s (SV.int IntKind.i64 k)]), ((162 : Nat), AV.agg [AV.s (SV.str (nN (ndA (pO (getP ps nm)) k))), AV.s (SV.int IntKind.u8 (nK (ndA (pO (getP ps nm)) k))), AV.s (SV.int IntKind.i64 (nI (ndA (pO (getP ps nm)) k))), AV.s (SV.int IntKind.i64 (nO (ndA (pO (getP ps nm)) k))), AV.s (SV.int IntKind.u8 (nE (ndA (pO (getP ps nm)) k))), AV.s (SV.str (nY (ndA (pO (getP ps nm)) k))), AV.s (SV.str (nT (ndA (pO (getP ps nm)) k))), AV.s (SV.str (nS (ndA (pO (getP ps nm)) k))), AV.s (SV.bool (nB (ndA (pO (getP ps nm)) k))), AV.s (SV.ro (Con.typ cV (nV (ndA (pO (getP ps nm)) k)))), AV.s (SV.ro (Con.strs (nZ (ndA (pO (getP ps nm)) k))))])]) [AObj.own [AV.s (SV.ro (Con.typ cP ps)), AV.s (SV.int IntKind.i64 (n + (1 : Int)))] (82 : Nat)] (cal Try.f41 (24 : Nat) (4 : Nat)) (Stk.mk none false (0 : Nat) [] (24 : Nat)))) (Tree.at (Cfg.mk (sl (168 : Nat) [((164 : Nat), AV.ptr (0 : Nat) (0 : Nat)), ((165 : Nat), AV.s (SV.ro (Con.typ cSi cs))), ((166 : Nat), AV.agg [AV.s (SV.str nm), AV.s (SV.int IntKind.i64 k)])]) [AObj.own [AV.s (SV.ro (Con.typ cP ps)), AV.s (SV.int IntKind.i64 (n + (1 : Int)))] (82 : Nat)] (cal Try.f41 (25 : Nat) (3 : Nat)) (Stk.mk none false (0 : Nat) [] (25 : Nat))))) (Tree.at (Cfg.mk (sl (168 : Nat) [((164 : Nat), AV.ptr (0 : Nat) (0 : Nat)), ((165 : Nat), AV.s (SV.ro (Con.typ cSi cs))), ((166 : Nat), AV.agg [AV.s (SV.str nm), AV.s (SV.int IntKind.i64 k)])]) [AObj.own [AV.s (SV.ro (Con.typ cP ps)), AV.s (SV.int IntKind.i64 (n + (1 : Int)))] (82 : Nat)] (cal Try.f41 (25 : Nat) (3 : Nat)) (Stk.mk none false (0 : Nat) [] (25 : Nat)))))))))))))))) := by kernel_rfl
end Ds

namespace Ds
open Go Go.Sx Go.Proofs Lf
def tabAl : Tab := [(32, sumDf), (56, sumFr)]
def nsAl : List (Nat × Norm) := [(unrollKey + 3, ⟨[], [], 1, []⟩), (midKey + 5011, ⟨[], [29, 30, 39], 1, []⟩)]
theorem trAl (ps : Ps) (n : Int) (cs : Ss) (nm : ByteArray) (k : Int) : run P tabAl.sum Try.f58 nsAl (start Try.f58 [.ptr 0 0, avSs cs, .agg [.s (.str nm), avI k]] [obCo ps n]) =
  Tree.need ((pF (getP ps nm)).length ≤ (1000000 : Nat)) (Tree.ite (decide ((0 : Int) < (↑(fromF (pF (getP ps nm)) k).length : Int))) (Tree.need ((0 : Int) ≤ (0 : Int)) (Tree.need ((0 : Int) < (↑(fromF (pF (getP ps nm)) k).length : Int)) (Tree.need ((0 : Int) ≤ (fromF (pF (getP ps nm)) k).getD (0 : Nat) (0 : Int)) (Tree.need ((fromF (pF (getP ps nm)) k).getD (0 : Nat) (0 : Int) < (↑(pF (getP ps nm)).length : Int)) (Tree.at (Cfg.mk (sl (42 : Nat) [((29 : Nat), AV.ptr (0 : Nat) (0 : Nat)), ((30 : Nat), AV.s (SV.ro (Con.typ cSi cs))), ((39 : Nat), AV.agg [AV.s (SV.str nm), AV.s (SV.int IntKind.i64 (fB (el (pF (getP ps nm)) ((fromF (pF (getP ps nm)) k).getD (0 : Nat) (0 : Int)))))])]) [AObj.own [AV.s (SV.ro (Con.typ cP ps)), AV.s (SV.int IntKind.i64 n)] (82 : Nat)] (cal Try.f58 (5 : Nat) (11 : Nat)) (Stk.mk none false (0 : Nat) [] (5 : Nat)))))))) (Tree.ret [AObj.own [AV.s (SV.ro (Con.typ cP ps)), AV.s (SV.int IntKind.i64 n)] (82 : Nat), AObj.own [AV.s (SV.str nm), AV.s (SV.int IntKind.i64 k)] (38 : Nat), AObj.own [AV.s (SV.str (pN (getP ps nm))), AV.s (SV.ro (Con.typ cV (pV (getP ps nm)))), AV.s (SV.ro (Con.typ cN (pO (getP ps nm)))), AV.s (SV.ro (Con.typ cF (pF (getP ps nm))))] (26 : Nat), AObj.vec (Con.ints IntKind.i64 (fromF (pF (getP ps nm)) k)) (3 : Nat)] (AV.tup []))) := by kernel_rfl
end Ds

namespace Ds
open Go Go.Sx Go.Proofs Lf
abbrev bB : ByteArray := ⟨#[98]⟩
def nOf (k : Int) : CL cN := (ByteArray.empty, k, (-1 : Int), (-1 : Int), (0 : Int), ByteArray.empty, ByteArray.empty, ByteArray.empty, false, [], [], ())
def fOf (a b : Int) : CL cF := (a, b, ByteArray.empty, false, ())
def psB : Ps := [(bB, [], [nOf 1, nOf 4, nOf 4], [fOf 0 1, fOf 1 2, fOf 2 1], ())]
abbrev sX (n k : Int) : Spec Unit := ⟨fun _ => [.ptr 0 0, avSs [], .agg [.s (.str bB), avI k]], fun _ => [obCo psB n], fun _ => [], fun _ => [obCo psB 2001], fun _ => .tup []⟩
noncomputable def cP1 (n : Int) : Cfg := ⟨sl 168 [(18, .ptr 0 0)], [obCo psB n], cal Try.f41 1 1, ⟨none, false, 0, [], 1⟩⟩
noncomputable def cP25 (n k : Int) : Cfg := ⟨sl 168 [(164, .ptr 0 0), (165, avSs []), (166, .agg [.s (.str bB), avI k])], [obCo psB n], cal Try.f41 25 3, ⟨none, false, 0, [], 25⟩⟩
noncomputable def cA5 (n k : Int) : Cfg := ⟨sl 42 [(29, .ptr 0 0), (30, avSs []), (39, .agg [.s (.str bB), avI k])], [obCo psB n], cal Try.f58 5 11, ⟨none, false, 0, [], 5⟩⟩
theorem tabAl_ok {Z : Glob} : tabAl.Ok P Z := Tab.Ok.cons def_ok.sumR (Tab.Ok.cons fr_ok.sumR Tab.Ok.nil)
theorem tabPl_ok {Z : Glob} : tabPl.Ok P Z := Tab.Ok.cons (one_ok.sum mOne) (Tab.Ok.cons def_ok.sumR (Tab.Ok.cons nd2_ok.sumR (Tab.Ok.cons wa_ok.sum (Tab.Ok.cons so_ok.sum (Tab.Ok.cons lk_ok.sum Tab.Ok.nil)))))
theorem ck_place : callable P 41 = true := by kernel_rfl
theorem ck_along : callable P 58 = true := by kernel_rfl
theorem ck_one : callable P 64 = true := by kernel_rfl
/-- Along the circle's flows: where place panics, along does. -/
theorem along_of {Z : Glob} {n k k' : Int} (hk : fB (el (pF (getP psB bB)) ((fromF (pF (getP psB bB)) k).getD 0 0)) = k') (hl : (pF (getP psB bB)).length = 3) (hf : (fromF (pF (getP psB bB)) k).length = 1) (h0 : 0 ≤ (fromF (pF (getP psB bB)) k).getD 0 0) (h1 : (fromF (pF (getP psB bB)) k).getD 0 0 < 3)
    (h : FnX P Z 41 (sX n k') chM) : FnX P Z 58 (sX n k) chM := by
  refine fnX_of_safe Try.func58 (by kernel_rfl) (fun x => Nat.le_of_ble_eq_true (by kernel_rfl)) ?_
  rintro ⟨⟩ _ X hX hz hpan
  have hns : ∀ x ∈ nsAl, ((sX n k).heap ()).length ≤ x.2.m := by intro y hy; simp [nsAl] at hy; rcases hy with rfl | rfl <;> exact Nat.le_refl _
  refine goS hz hX hns tabAl_ok Try.func58 (trAl psB n [] bB k) ⟨by omega, yes_and (decide_eq_true (by omega)) ⟨by omega, by omega, h0, by omega, ?_⟩⟩
  rw [hk]
  show Safe P 58 X _ (cA5 n k')
  exact callx2_safe (S := sX n k) (x := ()) (R := sX n k') (y := ()) (f := 58) (fn := Try.f58) (g := 41) (key := 5) (i := 11) (us := [.tmp 29, .tmp 30, .tmp 39]) Try.func58 (by kernel_rfl) ck_place (by kernel_rfl) h hz hX hpan rfl trivial rfl
theorem place_end {Z : Glob} {k : Int} : FnX P Z 41 (sX 2000 k) chM := by
  refine fnX_of_safe Try.func41 (by kernel_rfl) (fun x => Nat.le_of_ble_eq_true (by kernel_rfl)) ?_
  rintro ⟨⟩ _ X hX hz hpan
  have hns : ∀ x ∈ nsP1, ((sX 2000 k).heap ()).length ≤ x.2.m := by intro y hy; simp [nsP1] at hy; rcases hy with rfl; exact Nat.le_refl _
  refine goS hz hX hns Tab.Ok.nil Try.func41 (trP1 psB 2000 [] bB k) ?_
  show Safe P 41 X _ (cP1 2000)
  exact callx2_safe (S := sX 2000 k) (x := ()) (R := sOneX) (y := psB) (f := 41) (fn := Try.f41) (g := 64) (key := 1) (i := 1) (us := [.tmp 18]) Try.func41 (by kernel_rfl) ck_one (by kernel_rfl) oneX_ok hz hX hpan rfl trivial rfl
theorem place_of {Z : Glob} {n k : Int} (h0 : 0 ≤ n) (h1 : n < 2000) (hin : inN (pO (getP psB bB)) k = true) (hk : nK (ndA (pO (getP psB bB)) k) = 4) (he : nE (ndA (pO (getP psB bB)) k) = 0)
    (h : FnX P Z 58 (sX (n + 1) k) chM) : FnX P Z 41 (sX n k) chM := by
  refine fnX_of_safe Try.func41 (by kernel_rfl) (fun x => Nat.le_of_ble_eq_true (by kernel_rfl)) ?_
  rintro ⟨⟩ _ X hX hz hpan
  have hns : ∀ x ∈ nsPl, ((sX n k).heap ()).length ≤ x.2.m := by intro y hy; simp [nsPl] at hy; rcases hy with rfl | rfl | rfl | rfl | rfl <;> exact Nat.le_refl _
  refine goS hz hX hns tabPl_ok Try.func41 (trPl psB n [] bB k) ?_
  rw [hin, hk, he]
  refine ⟨rfl, rfl, ⟨h0, h1⟩, no_and rfl (no_and rfl (no_and rfl (no_and rfl (no_and rfl (no_and rfl (no_and rfl (no_and rfl (no_and rfl (no_and rfl ?_)))))))))⟩
  show Safe P 41 X _ (cP25 (n + 1) k)
  exact callx2_safe (S := sX n k) (x := ()) (R := sX (n + 1) k) (y := ()) (f := 41) (fn := Try.f41) (g := 58) (key := 25) (i := 3) (us := [.tmp 164, .tmp 165, .tmp 166]) Try.func41 (by kernel_rfl) ck_along (by kernel_rfl) h hz hX hpan rfl trivial rfl
theorem spin {Z : Glob} : ∀ (d : Nat) (n : Int), n + d = 2000 → 0 ≤ n → (FnX P Z 41 (sX n 1) chM ∧ FnX P Z 41 (sX n 2) chM) ∧ (FnX P Z 58 (sX n 1) chM ∧ FnX P Z 58 (sX n 2) chM) := by
  have al : ∀ n, FnX P Z 41 (sX n 1) chM ∧ FnX P Z 41 (sX n 2) chM → FnX P Z 58 (sX n 1) chM ∧ FnX P Z 58 (sX n 2) chM := fun n h =>
    ⟨along_of (k' := 2) (by kernel_rfl) (by kernel_rfl) (by kernel_rfl) (of_decide_eq_true (by kernel_rfl)) (of_decide_eq_true (by kernel_rfl)) h.2, along_of (k' := 1) (by kernel_rfl) (by kernel_rfl) (by kernel_rfl) (of_decide_eq_true (by kernel_rfl)) (of_decide_eq_true (by kernel_rfl)) h.1⟩
  intro d
  induction d with
  | zero =>
    intro n hn _
    obtain rfl : n = 2000 := by omega
    exact ⟨⟨place_end, place_end⟩, al _ ⟨place_end, place_end⟩⟩
  | succ d ih =>
    intro n hn h0
    have h := (ih (n + 1) (by omega) (by omega)).2
    have hp := And.intro (place_of (Z := Z) (n := n) (k := 1) h0 (by omega) (by kernel_rfl) (by kernel_rfl) (by kernel_rfl) h.1) (place_of (Z := Z) (n := n) (k := 2) h0 (by omega) (by kernel_rfl) (by kernel_rfl) (by kernel_rfl) h.2)
    exact ⟨hp, al n hp⟩
end Ds

namespace Ds
open Go Go.Sx Go.Proofs Lf
theorem caught {p q : Addr} {cb : Nat} {n : Int} {x : Value} {older : List PanicEntry} {w : World} (h1 : w.cell? p = some (.pointer (some ⟨cb, 0, none⟩))) (hc : w.cell? ⟨cb, 1, none⟩ = some (.int .i64 n)) (h2 : w.cell? q = some x) (hz : w.frozen? q = false) :
    CallsD P 63 #[.pointer (some p), .pointer (some q)] (.panicking ({ v := .iface 84 (.agg #[]), recovered := false } :: older)) w fun e u' w' =>
      e = .returned (.tuple #[]) ∧ u' = .panicking ({ v := .iface 84 (.agg #[]), recovered := true } :: older) ∧ w' = w.setCell q (.int .i64 n) := by
  refine callsD_of_wpS Try.func63 rfl fun c₀ cs hu => ?_
  repeat apply wpS_seq
  apply wpS_region
  simp [wpOpsS, go_sem, recoverD, hu, Exit.thenS]
  have e0 : (#[Value.pointer (some p), Value.pointer (some q)] ++ ((Array.replicate 10 undef).setIfInBounds 1 (Value.iface 84 (Value.agg #[]))).setIfInBounds 0 (Value.iface 84 (Value.agg #[]))) = #[.pointer (some p), .pointer (some q), .iface 84 (.agg #[]), .iface 84 (.agg #[]), undef, undef, undef, undef, undef, undef, undef, undef] := rfl
  rw [e0]
  apply wpS_seq
  apply wpS_region
  simp [wpOpsS, go_sem, Exit.thenS]
  refine wpS_cond (t := true) (by simp [Act.eval]) ?_
  simp only [if_true]
  have hta : ∀ w, (Instr.typeAssert (.iface 84 (.agg #[])) 20 84 false).run P w = .ok (.agg #[]) w := fun _ => by kernel_rfl
  apply wpS_region
  simp [wpOpsS, go_sem, Exit.thenS, hta]
  refine wpS_of_wp ?_
  go_wp2
  cases c₀
  simp_all [bodyPostS, results, Try.results63]
theorem idle {p q : Addr} {cb : Nat} {n : Int} {x : Value} {w : World} (h1 : w.cell? p = some (.pointer (some ⟨cb, 0, none⟩))) (hc : w.cell? ⟨cb, 1, none⟩ = some (.int .i64 n)) (h2 : w.cell? q = some x) (hz : w.frozen? q = false) :
    CallsD P 63 #[.pointer (some p), .pointer (some q)] .returning w fun e u' w' => e = .returned (.tuple #[]) ∧ u' = .returning ∧ w' = w.setCell q (.int .i64 n) := by
  refine callsD_of_wpS Try.func63 rfl fun c₀ cs hu => ?_
  repeat apply wpS_seq
  apply wpS_region
  simp [wpOpsS, go_sem, recoverD, hu, Exit.thenS]
  have e0 : (#[Value.pointer (some p), Value.pointer (some q)] ++ ((Array.replicate 10 undef).setIfInBounds 1 Value.nilIface).setIfInBounds 0 Value.nilIface) = #[.pointer (some p), .pointer (some q), .nilIface, .nilIface, undef, undef, undef, undef, undef, undef, undef, undef] := rfl
  rw [e0]
  apply wpS_seq
  apply wpS_region
  simp [wpOpsS, go_sem, Exit.thenS]
  refine wpS_cond (t := false) (by simp [Act.eval]) ?_
  simp only [Bool.false_eq_true, if_false]
  refine wpS_of_wp ?_
  go_wp2
  refine wpS_of_wp ?_
  go_wp2
  cases c₀
  simp_all [bodyPostS, results, Try.results63]
end Ds

namespace Ds
open Go Go.Sx Go.Proofs Lf
abbrev wCt (w : World) (dv : Value) : World := ((w.alloc (.cells #[.int .i64 0] 3)).alloc (.cells #[dv, .int .i64 0] 82)).alloc (.cells #[.pointer (some ⟨w.heap.size + 1, 0, none⟩)] 69)
theorem counted_of {g : FuncId} {cap : Array Value} {w : World} {a : Option Addr} {n c : Nat} {k : Int} {R : World → Prop} (hg : callable P g = true)
    (hR : ∀ w', R w' → w'.cell? ⟨w.heap.size, 0, none⟩ = some (.int .i64 0) ∧ w'.frozen? ⟨w.heap.size, 0, none⟩ = false ∧ w'.cell? ⟨w.heap.size + 2, 0, none⟩ = some (.pointer (some ⟨w.heap.size + 1, 0, none⟩)) ∧ w'.cell? ⟨w.heap.size + 1, 1, none⟩ = some (.int .i64 k))
    (h : Calls P g (#[.pointer (some ⟨w.heap.size + 1, 0, none⟩)] ++ cap) (wCt w (.slice a n c)) fun e w' => (e = .panicked chM ∨ ∃ v, e = .returned v) ∧ R w') :
    Calls P 39 #[.slice a n c, .func (.func g) #[] cap] w fun e w' => ∃ w1, R w1 ∧ e = .returned (.int .i64 k) ∧ (w' = w1.setCell ⟨w.heap.size, 0, none⟩ (.int .i64 k) ∨ w' = (w1.setCell ⟨w.heap.size, 0, none⟩ (.int .i64 k)).setCell ⟨w.heap.size, 0, none⟩ (.int .i64 k)) := by
  have hmf : ∀ (fn : Fn) (first cap : Array Value) (w : World), (Instr.makeFunc fn first cap).run P w = .ok (.func fn first cap) w := fun _ _ _ _ => rfl
  go_enter_defers Try.func39, Try.ntmps39
  go_wp2
  rw [callFunc_run hg]
  refine h.mono ?_
  rintro e w' ⟨he, hw'⟩
  obtain ⟨g1, g2, g3, g4⟩ := hR w' hw'
  rcases he with rfl | ⟨v, rfl⟩
  · dsimp only [Exit.then]
    refine leaves_cons (f := 63) (args := #[.pointer (some ⟨w.heap.size + 2, 0, none⟩), .pointer (some ⟨w.heap.size, 0, none⟩)]) (by simp) (by simp [go_sem]) ?_
    refine (caught g3 g4 g1 g2).mono ?_
    rintro e u' w'' ⟨rfl, rfl, rfl⟩
    simp [Leaves, settle, results, Try.results39, go_sem, g1, g2]
    exact ⟨w', hw', .inl rfl⟩
  · dsimp only
    go_wp2
    refine leaves_cons (f := 63) (args := #[.pointer (some ⟨w.heap.size + 2, 0, none⟩), .pointer (some ⟨w.heap.size, 0, none⟩)]) (by simp) (by simp [go_sem]) ?_
    refine (idle (cb := w.heap.size + 1) (n := k) (x := .int .i64 k) ?_ ?_ ?_ ?_).mono ?_
    · refine (World.cell?_setCell_other _ _ _ _ ?_).trans g3
      simp
    · refine (World.cell?_setCell_other _ _ _ _ ?_).trans g4
      simp
    · simp [go_sem, g1]
    · simp [go_sem, g2]
    rintro e u' w'' ⟨rfl, rfl, rfl⟩
    simp [Leaves, settle, results, Try.results39, go_sem, g1, g2]
    exact ⟨w', hw', .inr rfl⟩
end Ds

/-! A callee's law, seen from a heap that holds more. -/
namespace Go.Sx
open Go
/-- A callee's law, its ending told by T. -/
def FnT (P : Program) (Z : Glob) (f : FuncId) {X : Type} (S : Spec X) (T : Value → Ending → Prop) : Prop :=
  ∀ x, Needs (S.pre x) → ∀ (ρ : Nat → Value) (G : Nat → Prop) (w : World) (vs : List Value), ZAt Z ρ (lk (S.heap x)) w → Sat ρ (lk (S.heap x)) G w →
    DenL ρ (lk (S.heap x)) (Hot ρ (lk (S.heap x)) G) w (S.args x) vs →
    Calls P f vs.toArray w fun e w' => ∃ v, T v e ∧ Good ρ (lk (S.heap x)) G w (lk (S.outH x)) (S.out x) v w'
def SOkT (P : Program) (Z : Glob) (f : FuncId) (s : Nat → List AV → RM Res) (T : Value → Ending → Prop) : Prop :=
  ∀ (base : Nat) (args : List AV) (H : AHeap) (q : Res), (s base args).eval H = some q → Needs q.need → ∀ (ρ : Nat → Value) (G : Nat → Prop) (w : World) (vs : List Value),
    (∀ i, i < q.new.length → H (base + i) = none) → ZAt Z ρ H w → Sat ρ H G w → DenL ρ H (Hot ρ H G) w args vs →
    Calls P f vs.toArray w fun en w' => ∃ v, T v en ∧ Good ρ H G w (resH H q.up base q.new) (q.r base) v w'
section
variable {ρ ρ' : Nat → Value} {H H' : AHeap} {G O O' : Nat → Prop} {w w' : World} {P : Program} {Z : Glob} {X : Type} {S : Spec X}
theorem FnX.t {f : FuncId} {ch : List PanicEntry} (ho : ∀ x, S.out x = .tup []) (h : FnX P Z f S ch) : FnT P Z f S fun v e => v = undef ∧ e = .panicked ch := by
  intro x hpre ρ G w vs hz hs hd
  refine (h x hpre ρ G w vs hz hs hd).mono ?_
  rintro e w' ⟨rfl, ρ1, g1, _, g3, g4⟩
  exact ⟨undef, ⟨rfl, rfl⟩, ρ1, g1, by rw [ho]; exact den_undef, g3, g4⟩
theorem FnS.t {f : FuncId} (h : FnS P Z f S) : FnT P Z f S fun v e => e = .returned v := fun x hpre ρ G w vs hz hs hd => (h x hpre ρ G w vs hz hs hd).mono fun e w' ⟨v, h1, h2⟩ => ⟨v, h1, h2⟩
theorem FnT.sum {f : FuncId} {T : Value → Ending → Prop} (h : FnT P Z f S T) (M : List AV → RM (X × List Nat)) : SOkT P Z f (sumS S M) T := by
  intro base args H q hq hn ρ G w vs hfresh hz hs hd
  unfold sumS at hq
  obtain ⟨⟨x, σ⟩, _, hq⟩ := RM.bind_eval hq
  simp only [Bool.cond_eq_ite] at hq
  split at hq
  · rename_i hnd
    have hnd := nodupB_spec hnd
    obtain ⟨os, hq, hlen, hos⟩ := lookAll_eval hq
    split at hq
    · rename_i L' r hL' hr
      split at hq
      · rename_i hle
        have hle := Nat.le_of_ble_eq_true hle
        simp only [RM.eval, Option.some.injEq] at hq
        subst hq
        obtain ⟨hargs, hheap, hpre⟩ := hn
        simp only [] at hfresh ⊢
        -- the view
        have hin : ∀ {j : Nat} {o' : AObj}, (S.heap x)[j]? = some o' → ∃ (id : Nat) (o : AObj), σ[j]? = some id ∧ H id = some o ∧ rnO (idx σ) o = some o' := by
          intro j o' ho'
          have hl := allM_length hheap
          have hj : j < os.length := by rw [← hl]; exact (List.getElem?_eq_some_iff.1 ho').1
          obtain ⟨b, g1, g2⟩ := allM_get hheap j os[j] (List.getElem?_eq_getElem hj)
          rw [ho'] at g2
          cases g2
          have hj2 : j < σ.length := by omega
          have := (hos j σ[j] (List.getElem?_eq_getElem hj2)).1
          exact ⟨σ[j], os[j], List.getElem?_eq_getElem hj2, by rw [this, List.getElem?_eq_getElem hj], g1⟩
        have hout : ∀ {j id : Nat}, σ[j]? = some id → ∃ o o', H id = some o ∧ rnO (idx σ) o = some o' ∧ (S.heap x)[j]? = some o' := by
          intro j id hj
          obtain ⟨g1, g2⟩ := hos j id hj
          obtain ⟨o, ho⟩ := Option.isSome_iff_exists.1 g2
          obtain ⟨b, g3, g4⟩ := allM_get hheap j o ho
          exact ⟨o, b, g1.trans ho, g3, g4⟩
        have hpull : ∀ {j id : Nat}, σ[j]? = some id → pull σ ρ j = ρ id := fun h1 => by simp [pull, List.getD, h1]
        have hown : ∀ {b : Nat}, Own (pull σ ρ) (lk (S.heap x)) b → ∃ (j id : Nat) (o : AObj), σ[j]? = some id ∧ H id = some o ∧ o.alive = true ∧ blk (ρ id) = some b := by
          rintro b ⟨j, o', ho', ha, hb⟩
          obtain ⟨id, o, h1, h2, h3⟩ := hin ho'
          rw [hpull h1] at hb
          exact ⟨j, id, o, h1, h2, by rw [← (rnO_alive h3).1]; exact ha, hb⟩
        let G' : Nat → Prop := fun b => Hot ρ H G b ∧ ¬ Own (pull σ ρ) (lk (S.heap x)) b
        have E : Emb (idx σ) ρ H (Hot ρ H G) (pull σ ρ) (lk (S.heap x)) (Hot (pull σ ρ) (lk (S.heap x)) G') := by
          refine ⟨fun i j hij => ?_, fun b hb => ?_⟩
          · have h1 := idx_spec hij
            refine ⟨hpull h1, fun o ho => ?_⟩
            obtain ⟨o1, o', h2, h3, h4⟩ := hout h1
            rw [ho] at h2
            cases h2
            exact ⟨o', h4, (rnO_alive h3).2⟩
          · rcases hb with hb | hb
            · obtain ⟨j, id, o, h1, h2, h3, h4⟩ := hown hb
              exact .inl ⟨id, o, h2, h3, h4⟩
            · exact hb.1
        have hsat : Sat (pull σ ρ) (lk (S.heap x)) G' w := by
          refine ⟨fun j o' ho' => ?_, fun i j oi oj b hi hj ai aj bi bj => ?_, fun b hb hG => hG.2 hb, fun b hb => hot_lt hs hb.1⟩
          · obtain ⟨id, o, h1, h2, h3⟩ := hin ho'
            rw [hpull h1]
            exact rnO_sat E h3 (hs.obj id o h2)
          · obtain ⟨id, o, h1, h2, h3⟩ := hin hi
            obtain ⟨id', o', h1', h2', h3'⟩ := hin hj
            rw [hpull h1] at bi
            rw [hpull h1'] at bj
            have := hs.inj id id' o o' b h2 h2' (by rw [← (rnO_alive h3).1]; exact ai) (by rw [← (rnO_alive h3').1]; exact aj) bi bj
            subst this
            obtain ⟨hi1, hi2⟩ := List.getElem?_eq_some_iff.1 h1
            obtain ⟨hj1, hj2⟩ := List.getElem?_eq_some_iff.1 h1'
            exact (List.getElem_inj hnd).1 (hi2.trans hj2.symm)
        have hz' : ZAt Z (pull σ ρ) (lk (S.heap x)) w := ⟨hz.1, fun b hb ho => by
          obtain ⟨j, id, o, h1, h2, h3, h4⟩ := hown ho
          exact hz.2 b hb ⟨id, o, h2, h3, h4⟩⟩
        have hd' := rnL_den E hargs hd
        refine (h x hpre (pull σ ρ) G' w vs hz' hsat hd').mono ?_
        rintro e w' ⟨v, he, ρ1, g1, g2, g3, g4⟩
        refine ⟨v, he, ?_⟩
        -- back again
        have hlenL := allM_length hL'
        generalize hn0 : (S.outH x).length = n0 at *
        have hnew : ∀ {j : Nat}, σ.length ≤ j → j < n0 → H (base + (j - σ.length)) = none := by
          intro j h1 h2
          exact hfresh (j - σ.length) (by simp; omega)
        have hnin : ∀ {id : Nat} {o : AObj}, H id = some o → ¬ (base ≤ id ∧ id < base + (L'.length - σ.length)) := by
          intro id o ho hc
          have := hnew (j := σ.length + (id - base)) (by omega) (by omega)
          rw [show base + (σ.length + (id - base) - σ.length) = id from by omega, ho] at this
          cases this
        let ρ2 : Nat → Value := fun id => if base ≤ id ∧ id < base + (L'.length - σ.length) then ρ1 (σ.length + (id - base)) else ρ id
        let H2 := resH H (σ.zip L') base (L'.drop σ.length)
        have hL1 : ∀ {j : Nat} {o2 : AObj}, L'[j]? = some o2 → ∃ o, (S.outH x)[j]? = some o ∧ rnO (back σ base n0) o = some o2 := by
          intro j o2 h1
          have hj : j < (S.outH x).length := by have := (List.getElem?_eq_some_iff.1 h1).1; omega
          obtain ⟨b, h2, h3⟩ := allM_get hL' j (S.outH x)[j] (List.getElem?_eq_getElem hj)
          rw [h1] at h3
          cases h3
          exact ⟨_, List.getElem?_eq_getElem hj, h2⟩
        have hρσ : ∀ {j id : Nat}, σ[j]? = some id → ρ2 id = ρ id ∧ ρ1 j = ρ id := by
          intro j id hj
          obtain ⟨o, o', h1, h2, h3⟩ := hout hj
          refine ⟨?_, ?_⟩
          · simp only [ρ2]; rw [if_neg (hnin h1)]
          · rw [g3.rho j o' h3, hpull hj]
        have hH2a : ∀ {j id : Nat}, σ[j]? = some id → H2 id = L'[j]? := by
          intro j id hj
          have hlt : j < σ.length := (List.getElem?_eq_some_iff.1 hj).1
          have := (find_zip (σ := σ) (L := L') (j := id) hnd hle).1 j hj
          simp only [H2, resH, this]
          rw [List.getElem?_eq_getElem (show j < L'.length by omega)]
        have hni : ∀ {id : Nat}, (base ≤ id ∧ id < base + (L'.length - σ.length)) → id ∉ σ := by
          intro id hc hm
          obtain ⟨i, hi⟩ := List.getElem?_of_mem hm
          obtain ⟨o, _, h3, _⟩ := hout hi
          exact hnin h3 hc
        have hH2b : ∀ {id : Nat}, (base ≤ id ∧ id < base + (L'.length - σ.length)) → H2 id = L'[σ.length + (id - base)]? := by
          intro id hc
          simp only [H2, resH, (find_zip (σ := σ) (L := L') hnd hle).2 (hni hc)]
          rw [if_pos (by simp only [List.length_drop]; exact hc)]
          simp only [List.getElem?_drop]
        have hH2c : ∀ {id : Nat}, id ∉ σ → ¬ (base ≤ id ∧ id < base + (L'.length - σ.length)) → H2 id = H id := by
          intro id h1 h2
          simp only [H2, resH, (find_zip (σ := σ) (L := L') hnd hle).2 h1]
          rw [if_neg (by simp only [List.length_drop]; exact h2)]
        have cls : ∀ {id : Nat} {o2 : AObj}, H2 id = some o2 → (∃ (j : Nat) (o : AObj), (S.outH x)[j]? = some o ∧ rnO (back σ base n0) o = some o2 ∧ ρ2 id = ρ1 j ∧ back σ base n0 j = some id) ∨ (id ∉ σ ∧ H id = some o2 ∧ ρ2 id = ρ id) := by
          intro id o2 ho
          by_cases hm : id ∈ σ
          · obtain ⟨j, hj⟩ := List.getElem?_of_mem hm
            rw [hH2a hj] at ho
            obtain ⟨o, h1, h2⟩ := hL1 ho
            obtain ⟨h3, h4⟩ := hρσ hj
            exact .inl ⟨j, o, h1, h2, by rw [h3, h4], by simp only [back, blt_t (List.getElem?_eq_some_iff.1 hj).1, cond_true]; exact hj⟩
          · by_cases hc : base ≤ id ∧ id < base + (L'.length - σ.length)
            · rw [hH2b hc] at ho
              obtain ⟨o, h1, h2⟩ := hL1 ho
              refine .inl ⟨_, o, h1, h2, by simp only [ρ2]; rw [if_pos hc], ?_⟩
              simp only [back, blt_f (show σ.length ≤ σ.length + (id - base) by omega), cond_false, blt_t (show σ.length + (id - base) < n0 by omega), cond_true]
              congr 1; omega
            · rw [hH2c hm hc] at ho
              exact .inr ⟨hm, ho, by simp only [ρ2]; rw [if_neg hc]⟩
        have view_not : ∀ {id b : Nat} {o : AObj}, id ∉ σ → H id = some o → o.alive = true → blk (ρ id) = some b → ¬ Own (pull σ ρ) (lk (S.heap x)) b := by
          intro id b o hm ho ha hb hv
          obtain ⟨j, id', o', h1, h2, h3, h4⟩ := hown hv
          have := hs.inj id id' o o' b ho h2 ha h3 hb h4
          subst this
          exact hm (List.mem_of_getElem? h1)
        have g_in : ∀ {b : Nat}, G b → G' b := fun {b} hb => ⟨.inr hb, fun hv => by
          obtain ⟨j, id', o', h1, h2, h3, h4⟩ := hown hv
          exact hs.apart b ⟨id', o', h2, h3, h4⟩ hb⟩
        have own2 : ∀ {b : Nat}, Own ρ2 H2 b → Own ρ1 (lk (S.outH x)) b ∨ (Own ρ H b ∧ G' b) := by
          rintro b ⟨id, o2, ho, ha, hb⟩
          rcases cls ho with ⟨j, o, h1, h2, h3, _⟩ | ⟨h1, h2, h3⟩
          · exact .inl ⟨j, o, h1, by rw [← (rnO_alive h2).1]; exact ha, by rw [← h3]; exact hb⟩
          · rw [h3] at hb
            exact .inr ⟨⟨id, o2, h2, ha, hb⟩, .inl ⟨id, o2, h2, ha, hb⟩, view_not h1 h2 ha hb⟩
        have E2 : Emb (back σ base n0) ρ1 (lk (S.outH x)) (Hot ρ1 (lk (S.outH x)) G') ρ2 H2 (Hot ρ2 H2 G) := by
          refine ⟨fun i j hij => ?_, fun b hb => ?_⟩
          · simp only [back, Bool.cond_eq_ite] at hij
            split at hij
            · rename_i hlt
              obtain ⟨h3, h4⟩ := hρσ hij
              refine ⟨by rw [h3, h4], fun o ho => ?_⟩
              obtain ⟨b, h5, h6⟩ := allM_get hL' i o ho
              exact ⟨b, by rw [hH2a hij]; exact h6, (rnO_alive h5).2⟩
            · rename_i hge
              split at hij
              · rename_i hlt
                have hlt : i < n0 := Nat.le_of_ble_eq_true hlt
                have hge : σ.length ≤ i := by
                  rcases Nat.lt_or_ge i σ.length with h5 | h5
                  · exact absurd (blt_t h5) hge
                  · exact h5
                simp only [Option.some.injEq] at hij
                have hc : base ≤ j ∧ j < base + (L'.length - σ.length) := by omega
                have hi : σ.length + (j - base) = i := by omega
                refine ⟨by simp only [ρ2]; rw [if_pos hc, hi], fun o ho => ?_⟩
                obtain ⟨b, h5, h6⟩ := allM_get hL' i o ho
                exact ⟨b, by rw [hH2b hc, hi]; exact h6, (rnO_alive h5).2⟩
              · cases hij
          · rcases hb with hb | hb
            · exact (own2 hb).imp (fun h => h) (fun h => h.2)
            · exact .inr (g_in hb)
        have st : Step ρ H (Hot ρ H G) w ρ2 H2 (Hot ρ2 H2 G) w' := by
          refine ⟨fun id o ho => by simp only [ρ2]; rw [if_neg (hnin ho)], fun id o ho => ?_, fun b hb => ?_, fun b hb hO => g3.heap b hb (fun hv => hO (E.hot b hv)), g3.size⟩
          · by_cases hm : id ∈ σ
            · obtain ⟨j, hj⟩ := List.getElem?_of_mem hm
              obtain ⟨o1, o', h1, h2, h3⟩ := hout hj
              rw [ho] at h1
              cases h1
              obtain ⟨o'', h4, h5⟩ := g3.keep j o' h3
              obtain ⟨o3, h6, h7⟩ := allM_get hL' j o'' h4
              refine ⟨o3, by rw [hH2a hj]; exact h7, fun c' e' hc => ?_⟩
              obtain ⟨c, e1, h8, h9, h10⟩ := h5 c' e' ((rnO_alive h6).2 c' e' hc)
              exact ⟨c, e1, (rnO_alive h2).2 c e1 h8, h9, h10⟩
            · exact ⟨o, by rw [hH2c hm (hnin ho)]; exact ho, fun c' e' hc => ⟨c', e', hc, rfl, rfl⟩⟩
          · rcases g3.hot b (E2.hot b hb) with h5 | h5
            · exact .inl (E.hot b h5)
            · exact .inr h5
        refine ⟨ρ2, ⟨fun id o2 ho => ?_, fun i j oi oj b hi hj ai aj bi bj => ?_, fun b hb hG => ?_, fun b hb => Nat.lt_of_lt_of_le (hs.low b hb) g3.size⟩, (rn_den E2 20).1 _ _ _ hr g2, st, ⟨g4.os, g4.tape, g4.output, fun b hb hO => g4.heap b hb (fun hv => ?_)⟩⟩
        · rcases cls ho with ⟨j, o, h1, h2, h3, _⟩ | ⟨h1, h2, h3⟩
          · rw [h3]
            exact rnO_sat E2 h2 (g1.obj j o h1)
          · rw [h3]
            refine (hs.obj id o2 h2).step st (fun b ha hb => ?_)
            exact g4.heap b (own_lt hs ⟨id, o2, h2, ha, hb⟩) (view_not h1 h2 ha hb)
        · have mixed : ∀ {b : Nat}, Own ρ1 (lk (S.outH x)) b → ∀ {id : Nat} {o : AObj}, id ∉ σ → H id = some o → o.alive = true → blk (ρ id) = some b → False := by
            intro b h1 id o h2 h3 h4 h5
            have hG : G' b := ⟨.inl ⟨id, o, h3, h4, h5⟩, view_not h2 h3 h4 h5⟩
            exact g1.apart b h1 hG
          rcases cls hi with ⟨j1, o1, p1, p2, p3, p4⟩ | ⟨p1, p2, p3⟩
          · rw [p3] at bi
            have a1 : o1.alive = true := by rw [← (rnO_alive p2).1]; exact ai
            rcases cls hj with ⟨j2, o2, q1, q2, q3, q4⟩ | ⟨q1, q2, q3⟩
            · rw [q3] at bj
              have := g1.inj j1 j2 o1 o2 b p1 q1 a1 (by rw [← (rnO_alive q2).1]; exact aj) bi bj
              subst this
              rw [p4] at q4
              exact Option.some.inj q4
            · rw [q3] at bj
              exact (mixed ⟨j1, o1, p1, a1, bi⟩ q1 q2 aj bj).elim
          · rw [p3] at bi
            rcases cls hj with ⟨j2, o2, q1, q2, q3, q4⟩ | ⟨q1, q2, q3⟩
            · rw [q3] at bj
              exact (mixed ⟨j2, o2, q1, by rw [← (rnO_alive q2).1]; exact aj, bj⟩ p1 p2 ai bi).elim
            · rw [q3] at bj
              exact hs.inj i j oi oj b p2 q2 ai aj bi bj
        · rcases own2 hb with h5 | h5
          · exact g1.apart b h5 (g_in hG)
          · exact hs.apart b h5.1 hG
        · obtain ⟨j, id, o, h1, h2, h3, h4⟩ := hown hv
          exact hO ⟨id, o, h2, h3, h4⟩
      · simp [RM.eval] at hq
    · simp [RM.eval] at hq
  · simp [RM.eval] at hq
theorem callx3_safe {Y : Ctx} {K : List AObj → AV → Prop} {U : Type} {R : Spec U} {ch : List PanicEntry} {x : U} {f g : FuncId} {fn : Func} {key i rid : Nat} {us : List Operand} {s : Nat → List AV → RM Res} (hf : P.funcs[f]? = some fn) (hat : (opAt fn key i).bind (calOf g) = some us)
    (hcall : callable P g = true) {tmps : List AV} {L : List AObj} (hg : ((opAt fn key i).all fun y => gOk y.1 y.2.1 tmps) = true) (hS : SOkT P Z g s fun v e => v = undef ∧ e = .panicked ch) (hz : ZCtx Z Y) (hXH : Y.H = lk (R.heap x)) (hpan : ∀ e w', panOf R x ch Y.ρ Y.G Y.w e w' → Y.pan e w')
    {q : Res} (hq : (s L.length (us.map (evOf tmps))).eval (lk L) = some q) (hn : Needs q.need) (hnew : q.new = []) (hu : upsIn L.length q.up) (hout : upList L q.up = R.outH x) : Safe P f Y K ⟨tmps, L, cal fn key i, { rid := rid }⟩ := by
  obtain ⟨⟨ops, o, k⟩, h1, h2⟩ := Option.bind_eq_some_iff.1 hat
  rw [h1] at hg
  unfold calOf at h2
  split at h2
  · rename_i c e2
    simp only [] at e2
    split at h2
    · rename_i g' e3
      rw [Bool.cond_eq_ite] at h2
      split at h2
      · rename_i e4
        have e4 : g = g' := Nat.eq_of_beq_eq_true e4
        subst e4
        simp only [Option.some.injEq] at h2
        subst h2
        refine pan_safe hf h1 (fun c' h => by rw [e2] at h; cases h) (by simpa using hg) fun G E ρ a w hG1 hG2 hr => ?_
        have hl : DenL ρ (lk L) (Hot ρ (lk L) G) w (c.args.toList.map (evOf tmps)) (c.args.toList.map a.eval) := DenL_map c.args.toList fun z _ => hr.ev z
        have key := hS L.length _ (lk L) q hq hn ρ G w _ (fun j hj => by rw [hnew] at hj; simp at hj) (zed (hz.at G E) hr.frm hr.sat hr.from_) hr.sat hl
        have e1 : (c.args.toList.map a.eval).toArray = c.args.map a.eval := by apply Array.toList_inj.1; simp
        unfold Throws
        have hrun : (execOp a.eval o).run P w = .ok (.enter g (c.args.toList.map a.eval).toArray) w := by
          rw [e1]
          have hv : a.eval (.func g) = .func (.func g) #[] #[] := rfl
          simp [execOp, e2, resolve, e3, hv, Deferred.ofValue, invoke, callFunc_run hcall]
        rw [hrun]
        refine key.mono ?_
        rintro e w' ⟨v, ⟨rfl, rfl⟩, hgood⟩
        have e5 : resH (lk L) q.up L.length q.new = lk (R.outH x) := by
          have := look_put ⟨tmps, L⟩ none q hu
          rw [show resH (lk L) q.up L.length q.new = _ from this.symm, ← hout]
          show lk (upList L q.up ++ q.new) = _
          rw [hnew, List.append_nil]
        rw [e5] at hgood
        obtain ⟨ρ1, g1, _, g3, g4⟩ := hgood
        exact ⟨ch, rfl, hpan _ _ (pan_of hXH hG1 hG2 hr ⟨ρ1, g1, by unfold DenV; trivial, g3, g4⟩)⟩
      · cases h2
    · cases h2
  · cases h2
end
end Go.Sx

namespace Ds
open Go Go.Sx Go.Proofs Lf
abbrev obCs (cs : Ss) : AObj := .own [avSs cs] 39
abbrev obCa : AObj := obCs []
abbrev obSi (nm : ByteArray) (k : Int) : AObj := .own [.s (.str nm), avI k] eSi
abbrev sD (n : Int) : Spec Unit := ⟨fun _ => [.ptr 2 0, .ptr 0 0, .ptr 1 0], fun _ => [obCa, obSi bB 1, obCo psB 0], fun _ => [], fun _ => [obCa, obSi bB 1, obCo psB n], fun _ => .tup []⟩
def nsSt : List (Nat × Norm) := [(midKey + 3, ⟨[], [4, 5, 6], 3, []⟩)]
theorem trS1 (ps : Ps) (nm : ByteArray) (k n : Int) : run P tab0.sum Try.f40 nsSt (start Try.f40 [.ptr 2 0, .ptr 0 0, .ptr 1 0] [obCa, obSi nm k, obCo ps n]) =
  Tree.at (Cfg.mk (sl (8 : Nat) [((4 : Nat), AV.ptr (2 : Nat) (0 : Nat)), ((5 : Nat), AV.s (SV.ro (Con.typ cSi []))), ((6 : Nat), AV.agg [AV.s (SV.str nm), AV.s (SV.int IntKind.i64 k)])]) [AObj.own [AV.s (SV.ro (Con.typ cSi []))] (39 : Nat), AObj.own [AV.s (SV.str nm), AV.s (SV.int IntKind.i64 k)] (38 : Nat), AObj.own [AV.s (SV.ro (Con.typ cP ps)), AV.s (SV.int IntKind.i64 n)] (82 : Nat)] (cal Try.f40 (0 : Nat) (3 : Nat)) (Stk.mk none false (0 : Nat) [] (0 : Nat))) := by kernel_rfl
theorem trS2 (ps : Ps) (nm : ByteArray) (k n : Int) : run P tab0.sum Try.f57 nsSt (start Try.f57 [.ptr 2 0, .ptr 0 0, .ptr 1 0] [obCa, obSi nm k, obCo ps n]) =
  Tree.at (Cfg.mk (sl (8 : Nat) [((4 : Nat), AV.ptr (2 : Nat) (0 : Nat)), ((5 : Nat), AV.s (SV.ro (Con.typ cSi []))), ((6 : Nat), AV.agg [AV.s (SV.str nm), AV.s (SV.int IntKind.i64 k)])]) [AObj.own [AV.s (SV.ro (Con.typ cSi []))] (39 : Nat), AObj.own [AV.s (SV.str nm), AV.s (SV.int IntKind.i64 k)] (38 : Nat), AObj.own [AV.s (SV.ro (Con.typ cP ps)), AV.s (SV.int IntKind.i64 n)] (82 : Nat)] (cal Try.f57 (0 : Nat) (3 : Nat)) (Stk.mk none false (0 : Nat) [] (0 : Nat))) := by kernel_rfl
end Ds

namespace Ds
open Go Go.Sx Go.Proofs Lf
def mX : List AV → RM (Unit × List Nat)
  | .ptr id 0 :: _ => .ret ((), [id])
  | _ => .fail "no count"
noncomputable def cS1 (fn : Func) : Cfg := ⟨sl 8 [(4, .ptr 2 0), (5, avSs []), (6, .agg [.s (.str bB), avI 1])], [obCa, obSi bB 1, obCo psB 0], cal fn 0 3, ⟨none, false, 0, [], 0⟩⟩
theorem ups_two {o : AObj} : upsIn 3 [(2, o)] := fun j hj => by
  have hj : 3 ≤ j := hj
  obtain ⟨j, rfl⟩ : ∃ i, j = i + 3 := ⟨j - 3, by omega⟩
  rfl
theorem steps1X_ok {Z : Glob} : FnX P Z 40 (sD 2001) chM := by
  refine fnX_of_safe Try.func40 (by kernel_rfl) (fun x => Nat.le_of_ble_eq_true (by kernel_rfl)) ?_
  rintro ⟨⟩ _ X hX hz hpan
  have hns : ∀ x ∈ nsSt, ((sD 2001).heap ()).length ≤ x.2.m := by intro y hy; simp [nsSt] at hy; rcases hy with rfl; exact Nat.le_refl _
  refine goS hz hX hns Tab.Ok.nil Try.func40 (trS1 psB bB 1 0) ?_
  show Safe P 40 X _ (cS1 Try.f40)
  have hp := (spin (Z := Z) 2000 0 (by omega) (by omega)).1.1
  exact callx3_safe (R := sD 2001) (x := ()) (f := 40) (fn := Try.f40) (g := 41) (key := 0) (i := 3) (us := [.tmp 4, .tmp 5, .tmp 6]) (s := sumS (sX 0 1) mX) Try.func40 (by kernel_rfl) ck_place (by kernel_rfl) ((hp.t fun _ => rfl).sum mX) hz hX hpan (q := ⟨[Slf (some [AV.ptr 0 0, avSs [], .agg [.s (.str bB), avI 1]]), Slf (some [obCo psB 0])], [(2, obCo psB 2001)], [], fun _ => .tup []⟩) rfl ⟨rfl, rfl, trivial⟩ rfl ups_two rfl
theorem along1X_ok {Z : Glob} : FnX P Z 57 (sD 2001) chM := by
  refine fnX_of_safe Try.func57 (by kernel_rfl) (fun x => Nat.le_of_ble_eq_true (by kernel_rfl)) ?_
  rintro ⟨⟩ _ X hX hz hpan
  have hns : ∀ x ∈ nsSt, ((sD 2001).heap ()).length ≤ x.2.m := by intro y hy; simp [nsSt] at hy; rcases hy with rfl; exact Nat.le_refl _
  refine goS hz hX hns Tab.Ok.nil Try.func57 (trS2 psB bB 1 0) ?_
  show Safe P 57 X _ (cS1 Try.f57)
  have hp := (spin (Z := Z) 2000 0 (by omega) (by omega)).2.1
  exact callx3_safe (R := sD 2001) (x := ()) (f := 57) (fn := Try.f57) (g := 58) (key := 0) (i := 3) (us := [.tmp 4, .tmp 5, .tmp 6]) (s := sumS (sX 0 1) mX) Try.func57 (by kernel_rfl) ck_along (by kernel_rfl) ((hp.t fun _ => rfl).sum mX) hz hX hpan (q := ⟨[Slf (some [AV.ptr 0 0, avSs [], .agg [.s (.str bB), avI 1]]), Slf (some [obCo psB 0])], [(2, obCo psB 2001)], [], fun _ => .tup []⟩) rfl ⟨rfl, rfl, trivial⟩ rfl ups_two rfl
end Ds

namespace Ds
open Go Go.Sx Go.Proofs Lf
abbrev sDg (cs : Ss) (ps : Ps) (nm : ByteArray) (k m : Int) : Spec Unit := ⟨fun _ => [.ptr 2 0, .ptr 0 0, .ptr 1 0], fun _ => [obCs cs, obSi nm k, obCo ps 0], fun _ => [], fun _ => [obCs cs, obSi nm k, obCo ps m], fun _ => .tup []⟩
abbrev sCt (g : FuncId) (cs : Ss) (ps : Ps) (nm : ByteArray) (k m : Int) : Spec Unit := ⟨fun _ => [.s (.ro (.typ cP ps)), .fn g [.ptr 0 0, .ptr 1 0]], fun _ => [obCs cs, obSi nm k], fun _ => [], fun _ => [obCs cs, obSi nm k], fun _ => avI m⟩
def mD : List AV → RM (Unit × List Nat)
  | [.ptr a 0, .ptr b 0, .ptr c 0] => .ret ((), [b, c, a])
  | _ => .fail "no closure"
abbrev TM (_ : Value) (e : Ending) : Prop := e = .panicked chM ∨ ∃ v, e = .returned v
abbrev eCp : TypeId := 69
abbrev L5 (cs : Ss) (ps : Ps) (nm : ByteArray) (k n r : Int) : List AObj := [obCs cs, obSi nm k, .own [avI r] 3, obCo ps n, .own [.ptr 3 0] eCp]
section
variable {ρ ρ1 : Nat → Value} {H H1 H2 : AHeap} {G : Nat → Prop} {w w1 w2 : World} {r : AV} {v : Value}
theorem frm_trans (h1 : Sat ρ1 H1 G w1) (st : Step ρ H (Hot ρ H G) w ρ1 H1 (Hot ρ1 H1 G) w1) (f1 : Frm ρ H w w1) (f2 : Frm ρ1 H1 w1 w2) : Frm ρ H w w2 := by
  refine ⟨f2.os.trans f1.os, f2.tape.trans f1.tape, f2.output.trans f1.output, fun b hb hO => ?_⟩
  rw [f2.heap b (Nat.lt_of_lt_of_le hb st.size) (fun ho => ?_), f1.heap b hb hO]
  rcases st.hot b (.inl ho) with (h | h) | h
  · exact hO h
  · exact h1.apart b ho h
  · omega
theorem good_trans (h1 : Sat ρ1 H1 G w1) (st : Step ρ H (Hot ρ H G) w ρ1 H1 (Hot ρ1 H1 G) w1) (f1 : Frm ρ H w w1) (k : Good ρ1 H1 G w1 H2 r v w2) : Good ρ H G w H2 r v w2 := by
  obtain ⟨ρ2, s2, d2, st2, f2⟩ := k
  exact ⟨ρ2, s2, d2, st.trans st2, frm_trans h1 st f1 f2⟩
theorem good_norm {L0 L L' : List AObj} {o : AV} (h : Good ρ (lk L0) G w (lk L) r v w1) (N : Norm) (hm : L0.length ≤ N.m) (hN : N.run ⟨[r], L, [], {}⟩ = some ⟨[o], L', [], {}⟩) : Good ρ (lk L0) G w (lk L') o v w1 := by
  obtain ⟨ρ1, g1, g2, g3, g4⟩ := h
  have r0 : Rep ⟨ρ, lk L0, G, w, [], fun _ _ => False⟩ ρ1 ⟨[r], L⟩ { tmps := #[v], defers := [] } w1 := by
    refine ⟨g1, rfl, fun t => ?_, rfl, g3, g4, fun x hx => by cases hx⟩
    cases t with
    | zero => exact g2
    | succ t => simp only [List.getD, Array.getD]; simp; unfold DenV; trivial
  have h0 : ∀ id, N.m ≤ id → (⟨ρ, lk L0, G, w, [], fun _ _ => False⟩ : Ctx).H id = none := fun id hid => by simp [lk]; omega
  unfold Norm.run at hN
  split at hN
  · rename_i t1 L1 h1
    simp only [] at hN
    split at hN
    · rename_i t2 L2 h2
      simp only [Option.some.injEq, Cfg.mk.injEq, and_true] at hN
      obtain ⟨rfl, rfl⟩ := hN
      obtain ⟨ρ1, r1⟩ := Rep.compact h0 h1 (Rep.keepOnly N.keep r0)
      obtain ⟨ρ2, r2⟩ := Rep.nilSlots N.nils r1
      obtain ⟨ρ3, r3⟩ := Rep.nilCells N.cells r2
      obtain ⟨ρ4, r4⟩ := Rep.compact h0 h2 r3
      exact ⟨ρ4, r4.sat, (by have h := r4.den 0; exact h), r4.from_, r4.frm⟩
    · cases hN
  · cases hN
theorem one_seg {O : Nat → Prop} {a : AV} {u : Value} {az : List AV} {us : List Value} (ha : a.single = true) (h : DenV ρ H O w a u) (k : DenSegs ρ H O w az us) : DenSegs ρ H O w (a :: az) (u :: us) :=
  DenSegs_cons.2 ⟨[u], us, rfl, (DenC_of_single ha h).1, k⟩
end
end Ds

namespace Ds
open Go Go.Sx Go.Proofs Lf
abbrev qCt (cs : Ss) (ps : Ps) (nm : ByteArray) (k m : Int) : Res := ⟨[Slf (some [AV.ptr 2 0, .ptr 0 0, .ptr 1 0]), Slf (some [obCs cs, obSi nm k, obCo ps 0])], [(0, obCs cs), (1, obSi nm k), (3, obCo ps m)], [], fun _ => .tup []⟩
theorem ptr_root {ρ : Nat → Value} {H : AHeap} {O : Nat → Prop} {w : World} {id b : Nat} (h : DenV ρ H O w (.ptr id 0) (.pointer (some ⟨b, 0, none⟩))) : ρ id = .pointer (some ⟨b, 0, none⟩) := by
  unfold DenV Den1 at h
  obtain ⟨b', h1, h2, _⟩ := h
  rw [h1, h2]
theorem seg_int {ρ : Nat → Value} {H : AHeap} {O : Nat → Prop} {w : World} {r : Int} {az : List AV} {cells : List Value} (h : DenSegs ρ H O w (avI r :: az) cells) : ∃ rest, cells = .int .i64 r :: rest ∧ DenSegs ρ H O w az rest := by
  obtain ⟨c1, c2, rfl, h1, h2⟩ := DenSegs_cons.1 h
  obtain ⟨u, rfl, _, h3⟩ := DenC_single h1 rfl (fun _ _ _ e => by cases e)
  have h4 := DenS_of_V (by simp) h3
  cases h4
  exact ⟨c2, rfl, h2⟩
theorem seg_any {ρ : Nat → Value} {H : AHeap} {O : Nat → Prop} {w : World} {a : AV} {az : List AV} {cells : List Value} (ha : a.wide = 1) (hi : ∀ k n ws, a ≠ .ints k n ws) (h : DenSegs ρ H O w (a :: az) cells) : ∃ u rest, cells = u :: rest ∧ DenV ρ H O w a u ∧ DenSegs ρ H O w az rest := by
  obtain ⟨c1, c2, rfl, h1, h2⟩ := DenSegs_cons.1 h
  obtain ⟨u, rfl, _, h3⟩ := DenC_single h1 ha hi
  exact ⟨u, c2, rfl, h3, h2⟩
theorem counted_ok {Z : Glob} {g : FuncId} {cs : Ss} {ps : Ps} {nm : ByteArray} {k m : Int} (hg : callable P g = true) (hT : FnT P Z g (sDg cs ps nm k m) TM) : FnS P Z 39 (sCt g cs ps nm k m) := by
  rintro ⟨⟩ _ ρ G w vs hz hs hd
  change Sat ρ (lk [obCs cs, obSi nm k]) G w at hs
  change DenL ρ (lk [obCs cs, obSi nm k]) (Hot ρ (lk [obCs cs, obSi nm k]) G) w _ vs at hd
  obtain ⟨v0, r0, rfl, h0, hd⟩ := DenL_cons.1 hd
  obtain ⟨v1, r1, rfl, h1, hd⟩ := DenL_cons.1 hd
  obtain rfl := DenL_nil.1 hd
  obtain ⟨cap, rfl, hcap⟩ : ∃ us : List Value, v1 = .func (.func g) #[] us.toArray ∧ DenL ρ (lk [obCs cs, obSi nm k]) (Hot ρ (lk [obCs cs, obSi nm k]) G) w [.ptr 0 0, .ptr 1 0] us := by unfold DenV at h1; exact h1
  obtain ⟨a, n, c, rfl⟩ : ∃ a n c, v0 = .slice a n c := by
    have h := DenS_of_V (by simp) h0
    cases h
    exact ⟨_, _, _, rfl⟩
  obtain ⟨ρ1, s1, d1, st1, f1⟩ := fresh_own (n := 2) (segs := [avI 0]) (e := 3) (cells := [.int .i64 0]) hs rfl (one_seg rfl (DenV_s (.int _ _)) (DenSegs_nil.2 rfl))
  obtain ⟨ρ2, s2, d2, st2, f2⟩ := fresh_own (n := 3) (segs := [.s (.ro (.typ cP ps)), avI 0]) (e := eCo) (cells := [.slice a n c, .int .i64 0]) s1 rfl (one_seg rfl (DenV.step st1 _ _ h0) (one_seg rfl (DenV_s (.int _ _)) (DenSegs_nil.2 rfl)))
  obtain ⟨ρ3, s3, d3, st3, f3⟩ := fresh_own (n := 4) (segs := [.ptr 3 0]) (e := eCp) s2 rfl (one_seg rfl d2 (DenSegs_nil.2 rfl))
  rw [alloc_size] at d2 s3 d3 st3 f3
  rw [alloc_size, alloc_size] at d3
  have eH : updH (updH (updH (lk [obCs cs, obSi nm k]) 2 (.own [avI 0] 3)) 3 (obCo ps 0)) 4 (.own [.ptr 3 0] eCp) = lk (L5 cs ps nm k 0 0) := by
    funext j
    match j with
    | 0 => rfl
    | 1 => rfl
    | 2 => rfl
    | 3 => rfl
    | 4 => rfl
    | j + 5 => rfl
  rw [eH] at s3 d3 st3
  have stW := (st1.trans st2).trans st3
  have fW := frm_trans s2 (st1.trans st2) (frm_trans s1 st1 f1 f2) f3
  have p2 : ρ3 2 = .pointer (some ⟨w.heap.size, 0, none⟩) := by rw [st3.rho 2 _ rfl, st2.rho 2 _ rfl]; exact ptr_root d1
  have p3 : ρ3 3 = .pointer (some ⟨w.heap.size + 1, 0, none⟩) := by rw [st3.rho 3 _ rfl]; exact ptr_root d2
  have p4 : ρ3 4 = .pointer (some ⟨w.heap.size + 1 + 1, 0, none⟩) := ptr_root d3
  have hz5 := zed (X := ⟨ρ, lk [obCs cs, obSi nm k], G, w, [], fun _ _ => False⟩) hz fW s3 stW
  have hd5 : DenL ρ3 (lk (L5 cs ps nm k 0 0)) (Hot ρ3 (lk (L5 cs ps nm k 0 0)) G) (wCt w (.slice a n c)) [.ptr 3 0, .ptr 0 0, .ptr 1 0] (.pointer (some ⟨w.heap.size + 1, 0, none⟩) :: cap) :=
    DenL_cons.2 ⟨_, _, rfl, DenV.step st3 _ _ d2, DenL.step stW _ _ hcap⟩
  have key := (hT.sum mD) 5 [.ptr 3 0, .ptr 0 0, .ptr 1 0] (lk (L5 cs ps nm k 0 0)) (qCt cs ps nm k m) rfl ⟨rfl, rfl, trivial⟩ ρ3 G _ _ (fun j hj => absurd hj (Nat.not_lt_zero j)) hz5 s3 hd5
  have e5 : resH (lk (L5 cs ps nm k 0 0)) (qCt cs ps nm k m).up 5 (qCt cs ps nm k m).new = lk (L5 cs ps nm k m 0) := by
    funext j
    match j with
    | 0 => rfl
    | 1 => rfl
    | 2 => rfl
    | 3 => rfl
    | 4 => rfl
    | j + 5 => simp [resH, findUp, lk]
  rw [e5] at key
  refine (counted_of (k := m) (R := fun w' => ∃ v, Good ρ3 (lk (L5 cs ps nm k 0 0)) G (wCt w (.slice a n c)) (lk (L5 cs ps nm k m 0)) (.tup []) v w') hg ?_ ?_).mono ?_
  · rintro w' ⟨v, ρ4, g1, g2, g3, g4⟩
    have q2 := g1.obj 2 _ rfl
    have q3 := g1.obj 3 _ rfl
    have q4 := g1.obj 4 _ rfl
    rw [g3.rho 2 _ rfl, p2] at q2
    rw [g3.rho 3 _ rfl, p3] at q3
    rw [g3.rho 4 _ rfl, p4] at q4
    obtain ⟨b2, c2, fr2, e2, h2, u2, k2⟩ := q2
    obtain ⟨b3, c3, fr3, e3, h3, u3, k3⟩ := q3
    obtain ⟨b4, c4, fr4, e4, h4, u4, k4⟩ := q4
    simp only [Value.pointer.injEq, Option.some.injEq, Addr.mk.injEq, and_true] at e2 e3 e4
    subst e2 e3 e4
    obtain ⟨t2, rfl, k2⟩ := seg_int k2
    obtain ⟨x3, t3, rfl, _, k3⟩ := seg_any rfl (fun _ _ _ e => by cases e) k3
    obtain ⟨t3, rfl, k3⟩ := seg_int k3
    obtain ⟨x4, t4, rfl, k5, k4⟩ := seg_any rfl (fun _ _ _ e => by cases e) k4
    refine ⟨?_, unm_frozen h2 (by simpa using u2) (by simp), ?_, ?_⟩
    · simp [World.cell?, h2]
    · have : x4 = .pointer (some ⟨w.heap.size + 1, 0, none⟩) := by
        unfold DenV Den1 at k5
        obtain ⟨b', i1, i2, _⟩ := k5
        rw [g3.rho 3 _ rfl, p3] at i1
        rw [i2, ← i1]
      subst this
      simp [World.cell?, h4]
    · simp [World.cell?, h3]
  · have e6 : (#[Value.pointer (some ⟨w.heap.size + 1, 0, none⟩)] ++ cap.toArray) = (Value.pointer (some ⟨w.heap.size + 1, 0, none⟩) :: cap).toArray := by simp
    rw [e6]
    refine Calls.mono key ?_
    rintro e w' ⟨v, h, h'⟩
    exact ⟨h, v, h'⟩
  · rintro e w'' ⟨w1, ⟨v, hgood⟩, rfl, hw⟩
    refine ⟨_, rfl, ?_⟩
    obtain ⟨ρ4, g1, g2, g3, g4⟩ := hgood
    have hp : ρ4 2 = .pointer (some ⟨w.heap.size, 0, none⟩) := by rw [g3.rho 2 _ rfl, p2]
    have q2 := g1.obj 2 _ rfl
    rw [hp] at q2
    obtain ⟨b2, c2, fr2, e2, h2, u2, k2⟩ := q2
    simp only [Value.pointer.injEq, Option.some.injEq, Addr.mk.injEq, and_true] at e2
    subst e2
    obtain ⟨t2, rfl, k9⟩ := seg_int k2
    obtain rfl := DenSegs_nil.1 k9
    have e7 : w1.setCell ⟨w.heap.size, 0, none⟩ (.int .i64 m) = World.setBlk w1 w.heap.size (.cells [Value.int .i64 m].toArray 3 fr2) := by
      rw [setCell_blk h2]; rfl
    have e8 : (w1.setCell ⟨w.heap.size, 0, none⟩ (.int .i64 m)).setCell ⟨w.heap.size, 0, none⟩ (.int .i64 m) = World.setBlk w1 w.heap.size (.cells [Value.int .i64 m].toArray 3 fr2) := by
      rw [e7, setCell_blk (setBlk_get h2), setBlk_setBlk]; rfl
    have ew : w'' = World.setBlk w1 w.heap.size (.cells [Value.int .i64 m].toArray 3 fr2) := by
      rcases hw with hw | hw
      · rw [hw, e7]
      · rw [hw, e8]
    subst ew
    have wr := Good.writeOwn g1 (id := 2) (segs' := [avI m]) rfl hp h2 u2 (cells' := [.int .i64 m]) rfl (one_seg rfl (DenV_s (.int _ _)) (DenSegs_nil.2 rfl))
    have eU : updH (lk (L5 cs ps nm k m 0)) 2 (.own [avI m] 3) = lk (L5 cs ps nm k m m) := by
      funext j
      match j with
      | 0 => rfl
      | 1 => rfl
      | 2 => rfl
      | 3 => rfl
      | 4 => rfl
      | j + 5 => rfl
    rw [eU] at wr
    obtain ⟨ρ5, s5, _, st5, f5⟩ := wr
    have fin : Good ρ (lk [obCs cs, obSi nm k]) G w (lk (L5 cs ps nm k m m)) (avI m) (.int .i64 m) _ := good_trans s3 stW fW (good_trans g1 g3 g4 ⟨ρ5, s5, DenV_s (.int _ _), st5, f5⟩)
    exact good_norm fin ⟨[], [0], 2, []⟩ (Nat.le_refl _) rfl
end Ds

namespace Ds
open Go Go.Sx Go.Proofs Lf
def StOkC (g : FuncId) (cs : Ss) (ps : Ps) (nm : ByteArray) (k m : Int) : Prop := ∀ Z, FnT P Z g (sDg cs ps nm k m) TM
def StOk (g : FuncId) (ps : Ps) (nm : ByteArray) (k m : Int) : Prop := StOkC g [] ps nm k m
abbrev Cnt : Type := Ps → ByteArray → Int → Int
abbrev sCtF (g : FuncId) (F : Cnt) : Spec (Ps × ByteArray × Int) := ⟨fun (ps, _, _) => [.s (.ro (.typ cP ps)), .fn g [.ptr 0 0, .ptr 1 0]], fun (_, nm, k) => [obCa, obSi nm k], fun (ps, nm, k) => [StOk g ps nm k (F ps nm k)], fun (_, nm, k) => [obCa, obSi nm k], fun (ps, nm, k) => avI (F ps nm k)⟩
def mC : List AV → RM ((Ps × ByteArray × Int) × List Nat)
  | [.s (.ro (.typ [.str, .rows [.str, .int .u8, .int .i64, .str], .rows [.str, .int .u8, .int .i64, .int .i64, .int .u8, .str, .str, .str, .bool, .rows [.str, .int .u8, .int .i64, .str], .strs], .rows [.int .i64, .int .i64, .str, .bool]] ps)), .fn _ [.ptr a 0, .ptr b 0]] => .look b fun o => match o with
    | some (.own [.s (.str nm), .s (.int .i64 k)] _) => .ret ((ps, nm, k), [a, b])
    | _ => .fail "no site"
  | _ => .fail "no closure"
def tabSt (F : Cnt) : Tab := [(39, sumS (sCtF 40 F) mC)]
def tabAg (F : Cnt) : Tab := [(39, sumS (sCtF 57 F) mC)]
theorem trSteps (F : Cnt) (ps : Ps) (cs : Ss) (nm : ByteArray) (k : Int) : run P (tabSt F).sum Try.f15 [] (start Try.f15 [.s (.ro (.typ cP ps)), avSs cs, .agg [.s (.str nm), avI k]] []) =
  Tree.need (Slf (some [AV.s (SV.ro (Con.typ cP ps)), AV.fn (40 : Nat) [AV.ptr (0 : Nat) (0 : Nat), AV.ptr (1 : Nat) (0 : Nat)]])) (Tree.need (some [AObj.own [AV.s (SV.ro (Con.typ cSi cs))] (39 : Nat), AObj.own [AV.s (SV.str nm), AV.s (SV.int IntKind.i64 k)] (38 : Nat)] = some [AObj.own [AV.s (SV.ro (Con.typ cSi []))] (39 : Nat), AObj.own [AV.s (SV.str nm), AV.s (SV.int IntKind.i64 k)] (38 : Nat)]) (Tree.need (StOk (40 : FuncId) ps nm k (F ps nm k)) (Tree.ret [AObj.own [AV.s (SV.ro (Con.typ cSi []))] (39 : Nat), AObj.own [AV.s (SV.str nm), AV.s (SV.int IntKind.i64 k)] (38 : Nat)] (AV.s (SV.int IntKind.i64 (F ps nm k)))))) := by kernel_rfl
theorem trAlong (F : Cnt) (ps : Ps) (cs : Ss) (nm : ByteArray) (k : Int) : run P (tabAg F).sum Try.f31 [] (start Try.f31 [.s (.ro (.typ cP ps)), avSs cs, .agg [.s (.str nm), avI k]] []) =
  Tree.need (Slf (some [AV.s (SV.ro (Con.typ cP ps)), AV.fn (57 : Nat) [AV.ptr (0 : Nat) (0 : Nat), AV.ptr (1 : Nat) (0 : Nat)]])) (Tree.need (some [AObj.own [AV.s (SV.ro (Con.typ cSi cs))] (39 : Nat), AObj.own [AV.s (SV.str nm), AV.s (SV.int IntKind.i64 k)] (38 : Nat)] = some [AObj.own [AV.s (SV.ro (Con.typ cSi []))] (39 : Nat), AObj.own [AV.s (SV.str nm), AV.s (SV.int IntKind.i64 k)] (38 : Nat)]) (Tree.need (StOk (57 : FuncId) ps nm k (F ps nm k)) (Tree.ret [AObj.own [AV.s (SV.ro (Con.typ cSi []))] (39 : Nat), AObj.own [AV.s (SV.str nm), AV.s (SV.int IntKind.i64 k)] (38 : Nat)] (AV.s (SV.int IntKind.i64 (F ps nm k)))))) := by kernel_rfl
theorem sCtF_ok {Z : Glob} {g : FuncId} {F : Cnt} (hg : callable P g = true) : FnS P Z 39 (sCtF g F) := by
  rintro ⟨ps, nm, k⟩ ⟨h, _⟩ ρ G w vs hz hs hd
  exact counted_ok hg (h Z) () trivial ρ G w vs hz hs hd
theorem tabSt_ok {Z : Glob} {F : Cnt} : (tabSt F).Ok P Z := Tab.Ok.cons ((sCtF_ok (by kernel_rfl)).sum mC) Tab.Ok.nil
theorem tabAg_ok {Z : Glob} {F : Cnt} : (tabAg F).Ok P Z := Tab.Ok.cons ((sCtF_ok (by kernel_rfl)).sum mC) Tab.Ok.nil
end Ds

namespace Ds
open Go Go.Sx Go.Proofs Lf
def NoC (cs : Ss) : Prop := cs = []
abbrev preSt (g : FuncId) (F : Cnt) : AL [tDefs, tSs, tSi] → List Prop := fun (ps, cs, (nm, k, ()), ()) => [NoC cs, StOk g ps nm k (F ps nm k)]
theorem fnT_mono {Z : Glob} {f : FuncId} {U : Type} {S : Spec U} {T T' : Value → Ending → Prop} (h : FnT P Z f S T) (k : ∀ v e, T v e → T' v e) : FnT P Z f S T' :=
  fun x hp ρ G w vs hz hs hd => (h x hp ρ G w vs hz hs hd).mono fun e w' ⟨v, h1, h2⟩ => ⟨v, k v e h1, h2⟩
theorem steps_ok {Z : Glob} (F : Cnt) : FnOk P Z 15 [tDefs, tSs, tSi] [tInt] (preSt 40 F) (fun (ps, _, (nm, k, ()), ()) => (F ps nm k, ())) := by
  refine fnOk_of_safe Try.func15 (by kernel_rfl) (by kernel_rfl) ?_
  rintro ⟨(ps : Ps), (cs : Ss), ⟨(nm : ByteArray), (k : Int), ⟨⟩⟩, ⟨⟩⟩ _ ⟨(hc : NoC cs), (hst : StOk 40 ps nm k (F ps nm k)), _⟩ X hX hz
  have hc : cs = [] := hc
  subst hc
  show Safe P 15 X (Ends [tInt] (F ps nm k, ())) _
  refine go hz hX tabSt_ok Try.func15 (trSteps F ps [] nm k) ⟨rfl, rfl, hst, ?_⟩
  exact ends_eq _ rfl (by kernel_rfl)
theorem along_ok {Z : Glob} (F : Cnt) : FnOk P Z 31 [tDefs, tSs, tSi] [tInt] (preSt 57 F) (fun (ps, _, (nm, k, ()), ()) => (F ps nm k, ())) := by
  refine fnOk_of_safe Try.func31 (by kernel_rfl) (by kernel_rfl) ?_
  rintro ⟨(ps : Ps), (cs : Ss), ⟨(nm : ByteArray), (k : Int), ⟨⟩⟩, ⟨⟩⟩ _ ⟨(hc : NoC cs), (hst : StOk 57 ps nm k (F ps nm k)), _⟩ X hX hz
  have hc : cs = [] := hc
  subst hc
  show Safe P 31 X (Ends [tInt] (F ps nm k, ())) _
  refine go hz hX tabAg_ok Try.func31 (trAlong F ps [] nm k) ⟨rfl, rfl, hst, ?_⟩
  exact ends_eq _ rfl (by kernel_rfl)
theorem circle_steps : StOk 40 psB bB 1 2001 := fun Z => fnT_mono (steps1X_ok.t fun _ => rfl) fun v e h => .inl h.2
theorem circle_along : StOk 57 psB bB 1 2001 := fun Z => fnT_mono (along1X_ok.t fun _ => rfl) fun v e h => .inl h.2
/-- What returns, it returns. -/
theorem stok_of {g : FuncId} {ps : Ps} {nm : ByteArray} {k m : Int} (h : ∀ Z, FnS P Z g (sDg [] ps nm k m)) : StOk g ps nm k m := fun Z => fnT_mono (h Z).t fun v e h => .inr ⟨v, h⟩
end Ds

namespace Ds
open Go Go.Sx Go.Proofs Lf
abbrev sNn (ps : Ps) (cs : Ss) (nm : ByteArray) (k n m : Int) : Spec Unit := ⟨fun _ => [.ptr 0 0, avSs cs, .agg [.s (.str nm), avI k]], fun _ => [obCo ps n], fun _ => [], fun _ => [obCo ps m], fun _ => .tup []⟩
def tabA1 (ps : Ps) (cs : Ss) (nm : ByteArray) (k n m : Int) : Tab := [(58, sumS (sNn ps cs nm k n m) mX)]
def tabA2 (ps : Ps) (cs : Ss) (nm : ByteArray) (k n m : Int) : Tab := [(32, sumDf), (56, sumFr), (41, sumS (sNn ps cs nm k n m) mX)]
noncomputable def cQ25 (ps : Ps) (cs : Ss) (nm : ByteArray) (k n : Int) : Cfg := ⟨sl 168 [(164, .ptr 0 0), (165, avSs cs), (166, .agg [.s (.str nm), avI k])], [obCo ps n], cal Try.f41 25 3, ⟨none, false, 0, [], 25⟩⟩
def nsA2 : List (Nat × Norm) := [(3, ⟨[], [0, 1, 5, 6, 23, 24, 25], 1, []⟩)]
noncomputable def cA3 (ps : Ps) (cs : List (ByteArray × Int × Unit)) (nm : ByteArray) (k : Int) (l : List Int) (i n : Int) : Cfg := ⟨sl 42 [(0, .ptr 0 0), (1, avSs cs), (5, .ptr 1 0), (6, .ptr 2 0), (23, .vec 3), (24, avI (l.length : Int)), (25, avI i)], [obCo ps n, obSi nm k, obPr (pN (getP ps nm)) (pV (getP ps nm)) (pO (getP ps nm)) (pF (getP ps nm)), .vec (.ints .i64 l) 3], hd Try.f58 3, ⟨none, false, 0, [], 0⟩⟩
/-- Place is run for each of these flows, one behind the other. -/
inductive Runs (Z : Glob) (ps : Ps) (cs : Ss) (nm : ByteArray) : List Int → Int → Int → Prop
  | nil {n : Int} : Runs Z ps cs nm [] n n
  | cons {f : Int} {l : List Int} {n n' m : Int} (h : FnS P Z 41 (sNn ps cs nm (fB (el (pF (getP ps nm)) f)) n n')) (k : Runs Z ps cs nm l n' m) : Runs Z ps cs nm (f :: l) n m
theorem trQ25 (ps : Ps) (cs : Ss) (nm : ByteArray) (k n m : Int) : run P (tabA1 ps cs nm k n m).sum Try.f41 [] (cQ25 ps cs nm k n) =
  Tree.need (Slf (some [AV.ptr (0 : Nat) (0 : Nat), AV.s (SV.ro (Con.typ cSi cs)), AV.agg [AV.s (SV.str nm), AV.s (SV.int IntKind.i64 k)]])) (Tree.need (Slf (some [AObj.own [AV.s (SV.ro (Con.typ cP ps)), AV.s (SV.int IntKind.i64 n)] (82 : Nat)])) (Tree.ret [AObj.own [AV.s (SV.ro (Con.typ cP ps)), AV.s (SV.int IntKind.i64 m)] (82 : Nat)] (AV.tup []))) := by kernel_rfl
theorem trA0 (ps : Ps) (cs : List (ByteArray × Int × Unit)) (nm : ByteArray) (k n : Int) : run P tabAl.sum Try.f58 nsA2 (start Try.f58 [.ptr 0 0, avSs cs, .agg [.s (.str nm), avI k]] [obCo ps n]) =
  Tree.need ((pF (getP ps nm)).length ≤ (1000000 : Nat)) (Tree.at (cA3 ps cs nm k (fromF (pF (getP ps nm)) k) (0 : Int) n)) := by kernel_rfl
theorem trA3 (ps : Ps) (cs : List (ByteArray × Int × Unit)) (nm : ByteArray) (k : Int) (l : List Int) (i n k' m : Int) : run P (tabA2 ps cs nm k' n m).sum Try.f58 nsA2 (cA3 ps cs nm k l i n) =
  Tree.ite (decide (i < (↑l.length : Int))) (Tree.need ((0 : Int) ≤ i) (Tree.need (i < (↑l.length : Int)) (Tree.need ((0 : Int) ≤ l.getD i.toNat (0 : Int)) (Tree.need (l.getD i.toNat (0 : Int) < (↑(pF (getP ps nm)).length : Int)) (Tree.need (some [AV.ptr (0 : Nat) (0 : Nat), AV.s (SV.ro (Con.typ cSi cs)), AV.agg [AV.s (SV.str nm), AV.s (SV.int IntKind.i64 (fB (el (pF (getP ps nm)) (l.getD i.toNat (0 : Int)))))]] = some [AV.ptr (0 : Nat) (0 : Nat), AV.s (SV.ro (Con.typ cSi cs)), AV.agg [AV.s (SV.str nm), AV.s (SV.int IntKind.i64 k')]]) (Tree.need (Slf (some [AObj.own [AV.s (SV.ro (Con.typ cP ps)), AV.s (SV.int IntKind.i64 n)] (82 : Nat)])) (Tree.need (inI64 (i + (1 : Int))) (Tree.at (cA3 ps cs nm k l (i + (1 : Int)) m))))))))) (Tree.ret [AObj.own [AV.s (SV.ro (Con.typ cP ps)), AV.s (SV.int IntKind.i64 n)] (82 : Nat), AObj.own [AV.s (SV.str nm), AV.s (SV.int IntKind.i64 k)] (38 : Nat), AObj.own [AV.s (SV.str (pN (getP ps nm))), AV.s (SV.ro (Con.typ cV (pV (getP ps nm)))), AV.s (SV.ro (Con.typ cN (pO (getP ps nm)))), AV.s (SV.ro (Con.typ cF (pF (getP ps nm))))] (26 : Nat), AObj.vec (Con.ints IntKind.i64 l) (3 : Nat)] (AV.tup [])) := by kernel_rfl
theorem trA9 (ps : Ps) (cs : List (ByteArray × Int × Unit)) (nm : ByteArray) (k : Int) (l : List Int) (i n : Int) : run P tabAl.sum Try.f58 nsA2 (cA3 ps cs nm k l i n) =
  Tree.ite (decide (i < (↑l.length : Int))) (Tree.need ((0 : Int) ≤ i) (Tree.need (i < (↑l.length : Int)) (Tree.need ((0 : Int) ≤ l.getD i.toNat (0 : Int)) (Tree.need (l.getD i.toNat (0 : Int) < (↑(pF (getP ps nm)).length : Int)) (Tree.stuck ("graph.go:274" ++ " " ++ "no summary")))))) (Tree.ret [AObj.own [AV.s (SV.ro (Con.typ cP ps)), AV.s (SV.int IntKind.i64 n)] (82 : Nat), AObj.own [AV.s (SV.str nm), AV.s (SV.int IntKind.i64 k)] (38 : Nat), AObj.own [AV.s (SV.str (pN (getP ps nm))), AV.s (SV.ro (Con.typ cV (pV (getP ps nm)))), AV.s (SV.ro (Con.typ cN (pO (getP ps nm)))), AV.s (SV.ro (Con.typ cF (pF (getP ps nm))))] (26 : Nat), AObj.vec (Con.ints IntKind.i64 l) (3 : Nat)] (AV.tup [])) := by kernel_rfl
theorem along_run {Z : Glob} {ps : Ps} {cs : Ss} {nm : ByteArray} {k n m : Int} (hl : (pF (getP ps nm)).length ≤ 1000000) (h : Runs Z ps cs nm (fromF (pF (getP ps nm)) k) n m) : FnS P Z 58 (sNn ps cs nm k n m) := by
  refine fnS_of_safe Try.func58 (by kernel_rfl) (fun x => Nat.le_of_ble_eq_true (by kernel_rfl)) ?_
  rintro ⟨⟩ _ X hX hz
  have hns : ∀ x ∈ nsA2, ((sNn ps cs nm k n m).heap ()).length ≤ x.2.m := by intro y hy; simp [nsA2] at hy; rcases hy with rfl; exact Nat.le_refl _
  have hfl : (fromF (pF (getP ps nm)) k).length ≤ (pF (getP ps nm)).length := idxs_len _ _
  have hin : ∀ x ∈ fromF (pF (getP ps nm)) k, 0 ≤ x ∧ x < 0 + ((pF (getP ps nm)).length : Int) := fun x hx => idxs_lt (p := pFr k) (l := pF (getP ps nm)) (i := 0) x hx
  refine goS hz hX hns tabAl_ok Try.func58 (trA0 ps cs nm k n) ⟨by omega, ?_⟩
  have loop : ∀ (j i : Nat) (n1 : Int), i + j = (fromF (pF (getP ps nm)) k).length → Runs Z ps cs nm ((fromF (pF (getP ps nm)) k).drop i) n1 m → Safe P 58 X (EndS (sNn ps cs nm k n m) ()) (cA3 ps cs nm k (fromF (pF (getP ps nm)) k) (i : Int) n1) := by
    intro j
    induction j with
    | zero =>
      intro i n1 hi hr
      rw [List.drop_eq_nil_of_le (by omega)] at hr
      cases hr
      refine goS hz hX hns tabAl_ok Try.func58 (trA9 ps cs nm k _ i m) (no_and (decide_eq_false (by omega)) ?_)
      exact endS 1 rfl (Nat.le_refl _) rfl rfl
    | succ j ih =>
      intro i n1 hi hr
      have hlt : i < (fromF (pF (getP ps nm)) k).length := by omega
      rw [List.drop_eq_getElem_cons hlt, ← getD_lt (d := 0) hlt] at hr
      cases hr with
      | cons hp hr =>
        rename_i n2
        have hm := hin _ (getD_mem hlt)
        refine goS hz hX hns (Tab.Ok.cons def_ok.sumR (Tab.Ok.cons fr_ok.sumR (Tab.Ok.cons (hp.sum mX) Tab.Ok.nil))) Try.func58 (trA3 ps cs nm k _ i n1 _ n2) (yes_and (decide_eq_true (by omega)) ⟨by omega, by omega, ?_, ?_, ?_, rfl, ⟨by omega, by omega⟩, ?_⟩)
        · rw [Int.toNat_natCast]; omega
        · rw [Int.toNat_natCast]; omega
        · rw [Int.toNat_natCast]
        · exact ih (i + 1) n2 (by omega) hr
  exact loop _ 0 n (Nat.zero_add _) h
theorem place_along {Z : Glob} {X : Ctx} {ps : Ps} {cs : Ss} {nm : ByteArray} {k n0 n m : Int} (hX : X.H = lk [obCo ps n0]) (hz : ZCtx Z X) (h : FnS P Z 58 (sNn ps cs nm k n m)) : Safe P 41 X (EndS (sNn ps cs nm k n0 m) ()) (cQ25 ps cs nm k n) := by
  refine goS hz hX (fun x hx => by cases hx) (Tab.Ok.cons (h.sum mX) Tab.Ok.nil) Try.func41 (trQ25 ps cs nm k n m) ⟨rfl, rfl, ?_⟩
  exact endS 1 rfl (Nat.le_refl _) rfl rfl
end Ds

namespace Ds
open Go Go.Sx Go.Proofs Lf
section
variable {Z : Glob} {ps : Ps} {cs : Ss} {nm : ByteArray} {k n m : Int}
theorem nsPl_ok : ∀ x ∈ nsPl, ((sNn ps cs nm k n m).heap ()).length ≤ x.2.m := by intro y hy; simp [nsPl] at hy; rcases hy with rfl | rfl | rfl | rfl | rfl <;> exact Nat.le_refl _
theorem place_out (h0 : 0 ≤ n) (h1 : n < 2000) (hin : inN (pO (getP ps nm)) k = false) : FnS P Z 41 (sNn ps cs nm k n (n + 1)) := by
  refine fnS_of_safe Try.func41 (by kernel_rfl) (fun x => Nat.le_of_ble_eq_true (by kernel_rfl)) ?_
  rintro ⟨⟩ _ X hX hz
  refine goS hz hX (nsPl_ok (n := n) (m := n + 1)) tabPl_ok Try.func41 (trPl ps n cs nm k) ⟨rfl, rfl, ⟨h0, h1⟩, yes_and (by rw [hin]; rfl) ?_⟩
  exact endS 1 rfl (Nat.le_refl _) rfl rfl
theorem place_waits (h0 : 0 ≤ n) (h1 : n < 2000) (hin : inN (pO (getP ps nm)) k = true) (hw : waitsF (ndA (pO (getP ps nm)) k) = true) : FnS P Z 41 (sNn ps cs nm k n (n + 1)) := by
  refine fnS_of_safe Try.func41 (by kernel_rfl) (fun x => Nat.le_of_ble_eq_true (by kernel_rfl)) ?_
  rintro ⟨⟩ _ X hX hz
  refine goS hz hX (nsPl_ok (n := n) (m := n + 1)) tabPl_ok Try.func41 (trPl ps n cs nm k) ⟨rfl, rfl, ⟨h0, h1⟩, no_and (by rw [hin]; rfl) (yes_and hw ?_)⟩
  exact endS 1 rfl (Nat.le_refl _) rfl rfl
/-- A Start, a Calc, an End or the like that raises nothing. -/
theorem place_plain (h0 : 0 ≤ n) (h1 : n < 2000) (hin : inN (pO (getP ps nm)) k = true) (hw : waitsF (ndA (pO (getP ps nm)) k) = false) (hk : [11, 12, 8, 9, 14, 5].contains (nK (ndA (pO (getP ps nm)) k)) = false) (he : [5, 4].contains (nE (ndA (pO (getP ps nm)) k)) = false)
    (h : FnS P Z 58 (sNn ps cs nm k (n + 1) m)) : FnS P Z 41 (sNn ps cs nm k n m) := by
  refine fnS_of_safe Try.func41 (by kernel_rfl) (fun x => Nat.le_of_ble_eq_true (by kernel_rfl)) ?_
  rintro ⟨⟩ _ X hX hz
  simp only [List.contains_cons, List.contains_nil, Bool.or_eq_false_iff, and_true] at hk he
  obtain ⟨k1, k2, k3, k4, k5, k6⟩ := hk
  obtain ⟨e1, e2⟩ := he
  refine goS hz hX (nsPl_ok (n := n) (m := m)) tabPl_ok Try.func41 (trPl ps n cs nm k) ⟨rfl, rfl, ⟨h0, h1⟩, no_and (by rw [hin]; rfl) (no_and hw (no_and k1 (no_and k2 (no_and k3 (no_and k4 (no_and k5 (no_and k6 (no_and e1 (no_and e2 ?_)))))))))⟩
  exact place_along (k := k) (n0 := n) hX hz h
/-- AdHoc, All, Some: one step more. -/
theorem place_two (h0 : 0 ≤ n) (h1 : n + 1 < 2000) (hin : inN (pO (getP ps nm)) k = true) (hk : nK (ndA (pO (getP ps nm)) k) = 8 ∨ nK (ndA (pO (getP ps nm)) k) = 9 ∨ nK (ndA (pO (getP ps nm)) k) = 12)
    (h : FnS P Z 58 (sNn ps cs nm k (n + 1 + 1) m)) : FnS P Z 41 (sNn ps cs nm k n m) := by
  refine fnS_of_safe Try.func41 (by kernel_rfl) (fun x => Nat.le_of_ble_eq_true (by kernel_rfl)) ?_
  rintro ⟨⟩ _ X hX hz
  refine goS hz hX (nsPl_ok (n := n) (m := m)) tabPl_ok Try.func41 (trPl ps n cs nm k) ⟨rfl, rfl, ⟨h0, by omega⟩, no_and (by rw [hin]; rfl) ?_⟩
  rcases hk with e | e | e <;> rw [e]
  · exact no_and rfl (no_and rfl (no_and rfl (yes_and rfl ⟨rfl, rfl, ⟨by omega, h1⟩, place_along (k := k) (n0 := n) hX hz h⟩)))
  · exact no_and rfl (no_and rfl (no_and rfl (no_and rfl (yes_and rfl ⟨rfl, rfl, ⟨by omega, h1⟩, place_along (k := k) (n0 := n) hX hz h⟩))))
  · exact no_and rfl (no_and rfl (yes_and rfl ⟨rfl, rfl, ⟨by omega, h1⟩, place_along (k := k) (n0 := n) hX hz h⟩))
end
end Ds

namespace Ds
open Go Go.Sx Go.Proofs Lf
def tabS1 (ps : Ps) (nm : ByteArray) (k m : Int) : Tab := [(41, sumS (sNn ps [] nm k 0 m) mX)]
def tabS2 (ps : Ps) (nm : ByteArray) (k m : Int) : Tab := [(58, sumS (sNn ps [] nm k 0 m) mX)]
abbrev bA : ByteArray := ⟨#[97]⟩
def psA : Ps := [(bA, [], [nOf 1, nOf 3, nOf 2], [fOf 0 1, fOf 1 2], ())]
theorem trN1s (ps : Ps) (nm : ByteArray) (k m : Int) : run P (tabS1 ps nm k m).sum Try.f40 [] (start Try.f40 [.ptr 2 0, .ptr 0 0, .ptr 1 0] [obCa, obSi nm k, obCo ps 0]) =
  Tree.need (Slf (some [AV.ptr (0 : Nat) (0 : Nat), AV.s (SV.ro (Con.typ cSi [])), AV.agg [AV.s (SV.str nm), AV.s (SV.int IntKind.i64 k)]])) (Tree.need (Slf (some [AObj.own [AV.s (SV.ro (Con.typ cP ps)), AV.s (SV.int IntKind.i64 (0 : Int))] (82 : Nat)])) (Tree.ret [AObj.own [AV.s (SV.ro (Con.typ cSi []))] (39 : Nat), AObj.own [AV.s (SV.str nm), AV.s (SV.int IntKind.i64 k)] (38 : Nat), AObj.own [AV.s (SV.ro (Con.typ cP ps)), AV.s (SV.int IntKind.i64 m)] (82 : Nat)] (AV.tup []))) := by kernel_rfl
theorem trN2s (ps : Ps) (nm : ByteArray) (k m : Int) : run P (tabS2 ps nm k m).sum Try.f57 [] (start Try.f57 [.ptr 2 0, .ptr 0 0, .ptr 1 0] [obCa, obSi nm k, obCo ps 0]) =
  Tree.need (Slf (some [AV.ptr (0 : Nat) (0 : Nat), AV.s (SV.ro (Con.typ cSi [])), AV.agg [AV.s (SV.str nm), AV.s (SV.int IntKind.i64 k)]])) (Tree.need (Slf (some [AObj.own [AV.s (SV.ro (Con.typ cP ps)), AV.s (SV.int IntKind.i64 (0 : Int))] (82 : Nat)])) (Tree.ret [AObj.own [AV.s (SV.ro (Con.typ cSi []))] (39 : Nat), AObj.own [AV.s (SV.str nm), AV.s (SV.int IntKind.i64 k)] (38 : Nat), AObj.own [AV.s (SV.ro (Con.typ cP ps)), AV.s (SV.int IntKind.i64 m)] (82 : Nat)] (AV.tup []))) := by kernel_rfl
theorem steps_stok {ps : Ps} {nm : ByteArray} {k m : Int} (h : ∀ Z, FnS P Z 41 (sNn ps [] nm k 0 m)) : StOk 40 ps nm k m := stok_of fun Z => by
  refine fnS_of_safe Try.func40 (by kernel_rfl) (fun x => Nat.le_of_ble_eq_true (by kernel_rfl)) ?_
  rintro ⟨⟩ _ X hX hz
  refine goS hz hX (fun x hx => by cases hx) (Tab.Ok.cons ((h Z).sum mX) Tab.Ok.nil) Try.func40 (trN1s ps nm k m) ⟨rfl, rfl, ?_⟩
  exact endS 3 rfl (Nat.le_refl _) rfl rfl
theorem along_stok {ps : Ps} {nm : ByteArray} {k m : Int} (h : ∀ Z, FnS P Z 58 (sNn ps [] nm k 0 m)) : StOk 57 ps nm k m := stok_of fun Z => by
  refine fnS_of_safe Try.func57 (by kernel_rfl) (fun x => Nat.le_of_ble_eq_true (by kernel_rfl)) ?_
  rintro ⟨⟩ _ X hX hz
  refine goS hz hX (fun x hx => by cases hx) (Tab.Ok.cons ((h Z).sum mX) Tab.Ok.nil) Try.func57 (trN2s ps nm k m) ⟨rfl, rfl, ?_⟩
  exact endS 3 rfl (Nat.le_refl _) rfl rfl
theorem a_fl0 : fromF (pF (getP psA bA)) 0 = [0] := by kernel_rfl
theorem a_fl1 : fromF (pF (getP psA bA)) 1 = [1] := by kernel_rfl
theorem a_fl2 : fromF (pF (getP psA bA)) 2 = [] := by kernel_rfl
theorem a_len : (pF (getP psA bA)).length ≤ 1000000 := Nat.le_of_ble_eq_true (by kernel_rfl)
theorem a_place1 {Z : Glob} {n : Int} (h0 : 0 ≤ n) (h1 : n < 2000) : FnS P Z 41 (sNn psA [] bA 1 n (n + 1)) := place_waits h0 h1 (by kernel_rfl) (by kernel_rfl)
theorem a_place2 {Z : Glob} {n : Int} (h0 : 0 ≤ n) (h1 : n < 2000) : FnS P Z 41 (sNn psA [] bA 2 n (n + 1)) :=
  place_plain h0 h1 (by kernel_rfl) (by kernel_rfl) (by kernel_rfl) (by kernel_rfl) (along_run a_len (by rw [a_fl2]; exact .nil))
theorem fb (ps : Ps) (nm : ByteArray) (i k : Int) (h : fB (el (pF (getP ps nm)) i) = k) {Z : Glob} {n m : Int} (hp : FnS P Z 41 (sNn ps [] nm k n m)) : FnS P Z 41 (sNn ps [] nm (fB (el (pF (getP ps nm)) i)) n m) := by rw [h]; exact hp
theorem a_s0 : StOk 40 psA bA 0 2 := steps_stok fun Z => place_plain (by omega) (by omega) (by kernel_rfl) (by kernel_rfl) (by kernel_rfl) (by kernel_rfl) (along_run a_len (by rw [a_fl0]; exact .cons (fb psA bA 0 1 (by kernel_rfl) (a_place1 (n := 1) (by omega) (by omega))) .nil))
theorem a_a0 : StOk 57 psA bA 0 1 := along_stok fun Z => along_run a_len (by rw [a_fl0]; exact .cons (fb psA bA 0 1 (by kernel_rfl) (a_place1 (n := 0) (by omega) (by omega))) .nil)
theorem a_s1 : StOk 40 psA bA 1 1 := steps_stok fun Z => a_place1 (n := 0) (by omega) (by omega)
theorem a_a1 : StOk 57 psA bA 1 1 := along_stok fun Z => along_run a_len (by rw [a_fl1]; exact .cons (fb psA bA 1 2 (by kernel_rfl) (a_place2 (n := 0) (by omega) (by omega))) .nil)
end Ds

namespace Ds
open Go Go.Sx Go.Proofs Lf
abbrev sumSt (g : FuncId) (F : Cnt) := sumOf [tDefs, tSs, tSi] [tInt] (preSt g F) (fun (ps, _, (nm, k, ()), ()) => (F ps nm k, ()))
def tabSs (C1 C2 : Cnt) : Tab := [(15, sumSt 40 C1), (31, sumSt 57 C2)]
theorem trSp (C1 C2 : Cnt) (a : ByteArray) (vs : Vs) (ns : Ns) (fs : Fs) (n want al : Int) : run P (tabSs C1 C2).sum Try.f11 [] (start Try.f11 [avPr a vs ns fs, avI n, avI want, avI al] []) =
  Tree.need (NoC []) (Tree.need (StOk (40 : FuncId) [(a, vs, ns, fs, ())] a n (C1 [(a, vs, ns, fs, ())] a n)) (Tree.ite (C1 [(a, vs, ns, fs, ())] a n == want) (Tree.need (NoC []) (Tree.need (StOk (57 : FuncId) [(a, vs, ns, fs, ())] a n (C2 [(a, vs, ns, fs, ())] a n)) (Tree.ret [AObj.own [AV.s (SV.str a), AV.s (SV.ro (Con.typ cV vs)), AV.s (SV.ro (Con.typ cN ns)), AV.s (SV.ro (Con.typ cF fs))] (26 : Nat), AObj.vec (Con.typ cP [(a, vs, ns, fs, ())]) (26 : Nat), AObj.own [AV.s (SV.str a), AV.s (SV.int IntKind.i64 n)] (38 : Nat)] (AV.s (SV.bool (C2 [(a, vs, ns, fs, ())] a n == al)))))) (Tree.ret [AObj.own [AV.s (SV.str a), AV.s (SV.ro (Con.typ cV vs)), AV.s (SV.ro (Con.typ cN ns)), AV.s (SV.ro (Con.typ cF fs))] (26 : Nat), AObj.vec (Con.typ cP [(a, vs, ns, fs, ())]) (26 : Nat), AObj.own [AV.s (SV.str a), AV.s (SV.int IntKind.i64 n)] (38 : Nat)] (AV.s (SV.blit false))))) := by kernel_rfl
theorem tabSs_ok {Z : Glob} {C1 C2 : Cnt} : (tabSs C1 C2).Ok P Z := Tab.Ok.cons (steps_ok C1).sum (Tab.Ok.cons (along_ok C2).sum Tab.Ok.nil)
theorem step_ok {Z : Glob} (C1 C2 : Cnt) : FnOk P Z 11 [tPr, tInt, tInt, tInt] [tBool] (fun ((a, vs, ns, fs, ()), n, _, _, ()) => [StOk 40 [(a, vs, ns, fs, ())] a n (C1 [(a, vs, ns, fs, ())] a n), StOk 57 [(a, vs, ns, fs, ())] a n (C2 [(a, vs, ns, fs, ())] a n)])
    (fun ((a, vs, ns, fs, ()), n, want, al, ()) => ((C1 [(a, vs, ns, fs, ())] a n == want) && (C2 [(a, vs, ns, fs, ())] a n == al), ())) := by
  refine fnOk_of_safe Try.func11 (by kernel_rfl) (by kernel_rfl) ?_
  rintro ⟨⟨(a : ByteArray), (vs : Vs), (ns : Ns), (fs : Fs), ⟨⟩⟩, (n : Int), (want : Int), (al : Int), ⟨⟩⟩ _ ⟨h1, h2, _⟩ X hX hz
  show Safe P 11 X (Ends [tBool] ((C1 [(a, vs, ns, fs, ())] a n == want) && (C2 [(a, vs, ns, fs, ())] a n == al), ())) _
  refine go hz hX tabSs_ok Try.func11 (trSp C1 C2 a vs ns fs n want al) ⟨rfl, h1, ?_⟩
  cases e : C1 [(a, vs, ns, fs, ())] a n == want with
  | true => exact yes_and rfl ⟨rfl, h2, ends_eq _ rfl (by kernel_rfl)⟩
  | false => exact no_and rfl (ends_eq _ rfl (by kernel_rfl))
end Ds

namespace Ds
open Go Go.Sx Go.Proofs Lf
end Ds

namespace Ds
open Go Go.Sx Go.Proofs Lf
noncomputable abbrev sumRe := sumOf [tPr, tInt, tInt] [tBool] preRe (fun ((_, _, ns, fs, ()), x, y, ()) => (reachB (fun _ => true) ns fs x y, ()))
noncomputable abbrev sumCi := sumOf [tPr] [tBool] preP (fun ((_, _, ns, fs, ()), ()) => (circB ns fs, ()))
abbrev sumWk := sumOf [] [tBool] (fun _ => []) (fun () => (true, ()))
end Ds

namespace Ds
open Go Go.Sx Go.Proofs Lf
/-! What is reached: the law's own. -/
section
variable {thr : CL cN → Bool} {ns : Ns} {fs : Fs} {x y z : Int}
end
end Ds

namespace Ds
open Go Go.Sx Go.Proofs Lf
end Ds

namespace Ds
open Go Go.Sx Go.Proofs Lf
abbrev fKo (a b : Int) (s : ByteArray) (e : Bool) : CL cF := (a, b, s, e, ())
def lnF (n : Nat) : Fs := (List.range n).map fun (i : Nat) => fOf (i : Int) ((i : Int) + 1)
abbrev sLn : Spec (ByteArray × Ns) := ⟨fun (nm, _) => [.s (.str nm), .vec 0], fun (_, ns) => [.vec (.typ cN ns) eN], fun (_, ns) => [1 ≤ ns.length ∧ ns.length ≤ 1000], fun (_, ns) => [.vec (.typ cN ns) eN, .vec (.typ cF (lnF (ns.length - 1))) eF], fun (nm, _) => .agg [.s (.str nm), .emp, .vec 0, .vec 1]⟩
def nsL2 : List (Nat × Norm) := [(3, ⟨[], [1, 4, 5, 6], 1, [(2, 3, false, .typ cF [], eF)]⟩)]
noncomputable def cL2 (nm : ByteArray) (ns : Ns) (fs : Fs) (i : Int) : Cfg := ⟨sl 26 [(1, .vec 0), (4, .ptr 1 0), (5, .ptr 2 0), (6, avI i)], [.vec (.typ cN ns) eN, .own [.s (.str ByteArray.empty), .emp, .emp, .emp] eP, .own [.s (.str nm), .emp, .vec 0, .vec 3] eP, .vec (.typ cF fs) eF], hd Try.f13 3, {}⟩
theorem trNk (k : Int) : run P tab0.sum Try.f14 [] (start Try.f14 [avU k] []) =
  Tree.ret [AObj.own [AV.s (SV.str ByteArray.empty), AV.s (SV.int IntKind.u8 k), AV.s (SV.ilit IntKind.i64 (-1 : Int)), AV.s (SV.ilit IntKind.i64 (-1 : Int)), AV.s (SV.ilit IntKind.u8 (0 : Int)), AV.s (SV.str ByteArray.empty), AV.s (SV.str ByteArray.empty), AV.s (SV.str ByteArray.empty), AV.s (SV.blit false), AV.emp, AV.emp] (34 : Nat)] (AV.agg [AV.s (SV.str ByteArray.empty), AV.s (SV.int IntKind.u8 k), AV.s (SV.ilit IntKind.i64 (-1 : Int)), AV.s (SV.ilit IntKind.i64 (-1 : Int)), AV.s (SV.ilit IntKind.u8 (0 : Int)), AV.s (SV.str ByteArray.empty), AV.s (SV.str ByteArray.empty), AV.s (SV.str ByteArray.empty), AV.s (SV.blit false), AV.emp, AV.emp]) := by kernel_rfl
theorem trL2 (nm : ByteArray) (ns : Ns) : run P tab0.sum Try.f13 nsL2 (start Try.f13 [.s (.str nm), .vec 0] [.vec (.typ cN ns) eN]) =
  Tree.at (cL2 nm ns [] (1 : Int)) := by kernel_rfl
theorem trL3 (nm : ByteArray) (ns : Ns) (fs : Fs) (i : Int) : run P tab0.sum Try.f13 nsL2 (cL2 nm ns fs i) =
  Tree.ite (decide (i < (↑(List.length ns) : Int))) (Tree.need (inI64 (i - (1 : Int))) (Tree.need ((List.length fs + (1 : Nat)) * (40 : Nat) ≤ (140737488355328 : Nat)) (Tree.need (inI64 (i + (1 : Int))) (Tree.at (cL2 nm ns (fs ++ [fKo (i - (1 : Int)) i ByteArray.empty false]) (i + (1 : Int))))))) (Tree.ret [AObj.vec (Con.typ cN ns) (34 : Nat), AObj.own [AV.s (SV.str nm), AV.emp, AV.vec (0 : Nat), AV.vec (3 : Nat)] (26 : Nat), AObj.own [AV.s (SV.str nm), AV.emp, AV.vec (0 : Nat), AV.vec (3 : Nat)] (26 : Nat), AObj.vec (Con.typ cF fs) (46 : Nat)] (AV.agg [AV.s (SV.str nm), AV.emp, AV.vec (0 : Nat), AV.vec (3 : Nat)])) := by kernel_rfl
theorem lnF_succ (n : Nat) : lnF (n + 1) = List.append (lnF n) [fOf (n : Int) ((n : Int) + 1)] := by unfold lnF; rw [List.range_succ, List.map_append]; rfl
theorem lnF_len (n : Nat) : (lnF n).length = n := by unfold lnF; rw [List.length_map, List.length_range]
theorem nk_ok {Z : Glob} : FnOk P Z 14 [tU8] [tNoR] (fun _ => []) (fun (k, ()) => (nOf k, ())) := by
  refine fnOk_of_safe Try.func14 (by kernel_rfl) (by kernel_rfl) ?_
  rintro ⟨(k : Int), ⟨⟩⟩ _ _ X hX hz
  show Safe P 14 X (Ends [tNoR] (nOf k, ())) _
  exact go hz hX Tab.Ok.nil Try.func14 (trNk k) (ends_eq _ rfl (by kernel_rfl))
theorem ln_ok {Z : Glob} : FnS P Z 13 sLn := by
  refine fnS_of_safe Try.func13 (by kernel_rfl) (fun x => Nat.le_of_ble_eq_true (by kernel_rfl)) ?_
  rintro ⟨(nm : ByteArray), (ns : Ns)⟩ ⟨⟨h0, h1⟩, _⟩ X hX hz
  have hns : ∀ x ∈ nsL2, (sLn.heap (nm, ns)).length ≤ x.2.m := by intro y hy; simp [nsL2] at hy; rcases hy with rfl; exact Nat.le_refl _
  have loop : ∀ (j i : Nat), i + 1 + j = ns.length → Safe P 13 X (EndS sLn (nm, ns)) (cL2 nm ns (lnF i) ((i : Int) + 1)) := by
    intro j
    induction j with
    | zero =>
      intro i hi
      refine goS hz hX hns Tab.Ok.nil Try.func13 (trL3 nm ns (lnF i) _) (no_and (decide_eq_false (by omega)) ?_)
      obtain rfl : i = ns.length - 1 := by omega
      exact endS 1 rfl (Nat.le_refl _) rfl rfl
    | succ j ih =>
      intro i hi
      have := lnF_len i
      refine goS hz hX hns Tab.Ok.nil Try.func13 (trL3 nm ns (lnF i) _) (yes_and (decide_eq_true (by omega)) ?_)
      have next := ih (i + 1) (by omega)
      rw [lnF_succ] at next
      have e : (((i + 1 : Nat) : Int)) + 1 = (i : Int) + 1 + 1 := by omega
      rw [e] at next
      refine ⟨⟨by omega, by omega⟩, by omega, ⟨by omega, by omega⟩, ?_⟩
      rw [show (i : Int) + 1 - 1 = (i : Int) from by omega]
      exact next
  exact goS hz hX hns Tab.Ok.nil Try.func13 (trL2 nm ns) (loop (ns.length - 1) 0 (by omega))
end Ds

namespace Ds
open Go Go.Sx Go.Proofs Lf
abbrev fIx : FuncId := 61
def tabPk : Tab := [(25, sumNd), (17, sumSo)]
abbrev inPk : List FuncId := [fIx, 62, 35]
abbrev inPj : List FuncId := [fIx, 62, 38]
def nsPk : List (Nat × Norm) := [(2, ⟨[], [1, 7, 9, 16, 17, 18], 1, []⟩), ((fIx + 1) * 100000 + 2, ⟨[], [0, 1, 7, 8, 20, 26, 28, 35, 36, 37], 1, []⟩)]
noncomputable def cPk (g : FuncId) (a : ByteArray) (vs : Vs) (ns : Ns) (fs : Fs) (l : List Int) (ev : Int) (ky : ByteArray) (i : Int) : Cfg := ⟨sl 32 [(1, avL l), (7, .ptr 1 0), (9, .ptr 2 0), (16, .vec 3), (17, avI 2), (18, avI i)], [obPr a vs ns fs, .own [avU ev] 5, .own [.fn g [.ptr 0 0]] 64, .vec (.strs [ky, ByteArray.empty]) 9], hd Try.f34 2, {}⟩
noncomputable def cIx (g : FuncId) (a : ByteArray) (vs : Vs) (ns : Ns) (fs : Fs) (l : List Int) (ev : Int) (ky kk : ByteArray) (i k : Int) : Cfg := ⟨sl 51 [(0, avL l), (1, .fn 62 [.ptr 1 0, .ptr 2 0, .ptr 3 0]), (7, avI (l.length : Int)), (8, avI k), (20, avL l), (26, .ptr 2 0), (28, .ptr 1 0), (35, .vec 4), (36, avI 2), (37, avI i)], [obPr a vs ns fs, .own [.fn g [.ptr 0 0]] 64, .own [avU ev] 5, .own [.s (.str kk)] 9, .vec (.strs [ky, ByteArray.empty]) 9], hd Try.f61 2, ⟨some fIx, false, 0, [inCall Try.f34 none 4 2 false 0], 0⟩⟩
def pkB (ns : Ns) (ev : Int) (ky : ByteArray) (n : Int) : Bool := inN ns n && (nE (ndA ns n) == ev) && decide (nY (ndA ns n) = ky)
def pkA (ns : Ns) (ev : Int) (ky : ByteArray) (n : Int) : Bool := hasSt ns n && (nE (ndA ns (startF ns n)) == ev) && decide (nY (ndA ns (startF ns n)) = ky)
def pickF (q : ByteArray → Int → Bool) (l : List Int) (ky : ByteArray) : Int × Bool := match l.find? (q ky) with
  | some n => (n, true)
  | none => match l.find? (q ByteArray.empty) with
    | some n => (n, true)
    | none => (0, false)
abbrev PkX : Type := ByteArray × Vs × Ns × Fs × List Int × Int × ByteArray
abbrev sPk (g : FuncId) (q : Ns → Int → ByteArray → Int → Bool) : Spec PkX := ⟨fun (a, vs, ns, fs, l, ev, ky) => [avPr a vs ns fs, avL l, avU ev, .s (.str ky), .fn g [.ptr 0 0]], fun (a, vs, ns, fs, _) => [obPr a vs ns fs], fun (_, _, ns, _, l, _) => [ns.length ≤ 1000000, l.length ≤ 1000000], fun (a, vs, ns, fs, _) => [obPr a vs ns fs], fun (_, _, ns, _, l, ev, ky) => .tup [avI (pickF (q ns ev) l ky).1, .s (.bool (pickF (q ns ev) l ky).2)]⟩
theorem trPk (a : ByteArray) (vs : Vs) (ns : Ns) (fs : Fs) (l : List Int) (ev : Int) (ky : ByteArray) : run P tabPk.sum Try.f34 nsPk (start Try.f34 [avPr a vs ns fs, avL l, avU ev, .s (.str ky), .fn 35 [.ptr 0 0]] [obPr a vs ns fs]) inPk =
  Tree.at (cPk (35 : Nat) a vs ns fs l ev ky (0 : Int)) := by kernel_rfl
theorem trPj (a : ByteArray) (vs : Vs) (ns : Ns) (fs : Fs) (l : List Int) (ev : Int) (ky : ByteArray) : run P tabPk.sum Try.f34 nsPk (start Try.f34 [avPr a vs ns fs, avL l, avU ev, .s (.str ky), .fn 38 [.ptr 0 0]] [obPr a vs ns fs]) inPj =
  Tree.at (cPk (38 : Nat) a vs ns fs l ev ky (0 : Int)) := by kernel_rfl
theorem lpPk (a : ByteArray) (vs : Vs) (ns : Ns) (fs : Fs) (l : List Int) (ev : Int) (ky : ByteArray) (i : Int) : run P tabPk.sum Try.f34 nsPk (cPk 35 a vs ns fs l ev ky i) inPk =
  Tree.ite (decide (i < (2 : Int))) (Tree.need ((0 : Int) ≤ i) (Tree.need (i < (↑(2 : Nat) : Int)) (Tree.at (cIx (35 : Nat) a vs ns fs l ev ky ([ky, ByteArray.empty].getD i.toNat ByteArray.empty) i (0 : Int))))) (Tree.ret [AObj.own [AV.s (SV.str a), AV.s (SV.ro (Con.typ cV vs)), AV.s (SV.ro (Con.typ cN ns)), AV.s (SV.ro (Con.typ cF fs))] (26 : Nat), AObj.own [AV.s (SV.int IntKind.u8 ev)] (5 : Nat), AObj.own [AV.fn (35 : Nat) [AV.ptr (0 : Nat) (0 : Nat)]] (64 : Nat), AObj.vec (Con.strs [ky, ByteArray.empty]) (9 : Nat)] (AV.tup [AV.s (SV.ilit IntKind.i64 (0 : Int)), AV.s (SV.blit false)])) := by kernel_rfl
theorem lpPj (a : ByteArray) (vs : Vs) (ns : Ns) (fs : Fs) (l : List Int) (ev : Int) (ky : ByteArray) (i : Int) : run P tabPk.sum Try.f34 nsPk (cPk 38 a vs ns fs l ev ky i) inPj =
  Tree.ite (decide (i < (2 : Int))) (Tree.need ((0 : Int) ≤ i) (Tree.need (i < (↑(2 : Nat) : Int)) (Tree.at (cIx (38 : Nat) a vs ns fs l ev ky ([ky, ByteArray.empty].getD i.toNat ByteArray.empty) i (0 : Int))))) (Tree.ret [AObj.own [AV.s (SV.str a), AV.s (SV.ro (Con.typ cV vs)), AV.s (SV.ro (Con.typ cN ns)), AV.s (SV.ro (Con.typ cF fs))] (26 : Nat), AObj.own [AV.s (SV.int IntKind.u8 ev)] (5 : Nat), AObj.own [AV.fn (38 : Nat) [AV.ptr (0 : Nat) (0 : Nat)]] (64 : Nat), AObj.vec (Con.strs [ky, ByteArray.empty]) (9 : Nat)] (AV.tup [AV.s (SV.ilit IntKind.i64 (0 : Int)), AV.s (SV.blit false)])) := by kernel_rfl
theorem ixPk (a : ByteArray) (vs : Vs) (ns : Ns) (fs : Fs) (l : List Int) (ev : Int) (ky kk : ByteArray) (i k : Int) : run P tabPk.sum Try.f34 nsPk (cIx 35 a vs ns fs l ev ky kk i k) inPk =
  Tree.ite (decide (k < (↑l.length : Int))) (Tree.need ((0 : Int) ≤ k) (Tree.need (k < (↑l.length : Int)) (Tree.ite (inN ns (l.getD k.toNat (0 : Int))) (Tree.ite (nE (ndA ns (l.getD k.toNat (0 : Int))) == ev) (Tree.ite (decide (nY (ndA ns (l.getD k.toNat (0 : Int))) = kk)) (Tree.ite (decide (k ≥ (0 : Int))) (Tree.need ((0 : Int) ≤ k) (Tree.need (k < (↑l.length : Int)) (Tree.ret [AObj.own [AV.s (SV.str a), AV.s (SV.ro (Con.typ cV vs)), AV.s (SV.ro (Con.typ cN ns)), AV.s (SV.ro (Con.typ cF fs))] (26 : Nat), AObj.own [AV.fn (35 : Nat) [AV.ptr (0 : Nat) (0 : Nat)]] (64 : Nat), AObj.own [AV.s (SV.int IntKind.u8 ev)] (5 : Nat), AObj.own [AV.s (SV.str kk)] (9 : Nat), AObj.vec (Con.strs [ky, ByteArray.empty]) (9 : Nat), AObj.own [AV.s (SV.str (nN (ndA ns (l.getD k.toNat (0 : Int))))), AV.s (SV.int IntKind.u8 (nK (ndA ns (l.getD k.toNat (0 : Int))))), AV.s (SV.int IntKind.i64 (nI (ndA ns (l.getD k.toNat (0 : Int))))), AV.s (SV.int IntKind.i64 (nO (ndA ns (l.getD k.toNat (0 : Int))))), AV.s (SV.int IntKind.u8 (nE (ndA ns (l.getD k.toNat (0 : Int))))), AV.s (SV.str (nY (ndA ns (l.getD k.toNat (0 : Int))))), AV.s (SV.str (nT (ndA ns (l.getD k.toNat (0 : Int))))), AV.s (SV.str (nS (ndA ns (l.getD k.toNat (0 : Int))))), AV.s (SV.bool (nB (ndA ns (l.getD k.toNat (0 : Int))))), AV.s (SV.ro (Con.typ cV (nV (ndA ns (l.getD k.toNat (0 : Int)))))), AV.s (SV.ro (Con.strs (nZ (ndA ns (l.getD k.toNat (0 : Int))))))] (34 : Nat), AObj.own [AV.s (SV.str (nN (ndA ns (l.getD k.toNat (0 : Int))))), AV.s (SV.int IntKind.u8 (nK (ndA ns (l.getD k.toNat (0 : Int))))), AV.s (SV.int IntKind.i64 (nI (ndA ns (l.getD k.toNat (0 : Int))))), AV.s (SV.int IntKind.i64 (nO (ndA ns (l.getD k.toNat (0 : Int))))), AV.s (SV.int IntKind.u8 (nE (ndA ns (l.getD k.toNat (0 : Int))))), AV.s (SV.str (nY (ndA ns (l.getD k.toNat (0 : Int))))), AV.s (SV.str (nT (ndA ns (l.getD k.toNat (0 : Int))))), AV.s (SV.str (nS (ndA ns (l.getD k.toNat (0 : Int))))), AV.s (SV.bool (nB (ndA ns (l.getD k.toNat (0 : Int))))), AV.s (SV.ro (Con.typ cV (nV (ndA ns (l.getD k.toNat (0 : Int)))))), AV.s (SV.ro (Con.strs (nZ (ndA ns (l.getD k.toNat (0 : Int))))))] (34 : Nat)] (AV.tup [AV.s (SV.int IntKind.i64 (l.getD k.toNat (0 : Int))), AV.s (SV.blit true)])))) (Tree.need (inI64 (i + (1 : Int))) (Tree.at (cPk (35 : Nat) a vs ns fs l ev ky (i + (1 : Int)))))) (Tree.need (inI64 (k + (1 : Int))) (Tree.at (cIx (35 : Nat) a vs ns fs l ev ky kk i (k + (1 : Int)))))) (Tree.need (inI64 (k + (1 : Int))) (Tree.at (cIx (35 : Nat) a vs ns fs l ev ky kk i (k + (1 : Int)))))) (Tree.need (inI64 (k + (1 : Int))) (Tree.at (cIx (35 : Nat) a vs ns fs l ev ky kk i (k + (1 : Int)))))))) (Tree.need (inI64 (i + (1 : Int))) (Tree.at (cPk (35 : Nat) a vs ns fs l ev ky (i + (1 : Int))))) := by kernel_rfl
theorem ixPj (a : ByteArray) (vs : Vs) (ns : Ns) (fs : Fs) (l : List Int) (ev : Int) (ky kk : ByteArray) (i k : Int) : run P tabPk.sum Try.f34 nsPk (cIx 38 a vs ns fs l ev ky kk i k) inPj =
  Tree.ite (decide (k < (↑l.length : Int))) (Tree.need ((0 : Int) ≤ k) (Tree.need (k < (↑l.length : Int)) (Tree.need (List.length ns ≤ (1000000 : Nat)) (Tree.ite (hasSt ns (l.getD k.toNat (0 : Int))) (Tree.ite (nE (ndA ns (startF ns (l.getD k.toNat (0 : Int)))) == ev) (Tree.ite (decide (nY (ndA ns (startF ns (l.getD k.toNat (0 : Int)))) = kk)) (Tree.ite (decide (k ≥ (0 : Int))) (Tree.need ((0 : Int) ≤ k) (Tree.need (k < (↑l.length : Int)) (Tree.ret [AObj.own [AV.s (SV.str a), AV.s (SV.ro (Con.typ cV vs)), AV.s (SV.ro (Con.typ cN ns)), AV.s (SV.ro (Con.typ cF fs))] (26 : Nat), AObj.own [AV.fn (38 : Nat) [AV.ptr (0 : Nat) (0 : Nat)]] (64 : Nat), AObj.own [AV.s (SV.int IntKind.u8 ev)] (5 : Nat), AObj.own [AV.s (SV.str kk)] (9 : Nat), AObj.vec (Con.strs [ky, ByteArray.empty]) (9 : Nat), AObj.own [AV.s (SV.str (nN (ndA ns (startF ns (l.getD k.toNat (0 : Int)))))), AV.s (SV.int IntKind.u8 (nK (ndA ns (startF ns (l.getD k.toNat (0 : Int)))))), AV.s (SV.int IntKind.i64 (nI (ndA ns (startF ns (l.getD k.toNat (0 : Int)))))), AV.s (SV.int IntKind.i64 (nO (ndA ns (startF ns (l.getD k.toNat (0 : Int)))))), AV.s (SV.int IntKind.u8 (nE (ndA ns (startF ns (l.getD k.toNat (0 : Int)))))), AV.s (SV.str (nY (ndA ns (startF ns (l.getD k.toNat (0 : Int)))))), AV.s (SV.str (nT (ndA ns (startF ns (l.getD k.toNat (0 : Int)))))), AV.s (SV.str (nS (ndA ns (startF ns (l.getD k.toNat (0 : Int)))))), AV.s (SV.bool (nB (ndA ns (startF ns (l.getD k.toNat (0 : Int)))))), AV.s (SV.ro (Con.typ cV (nV (ndA ns (startF ns (l.getD k.toNat (0 : Int))))))), AV.s (SV.ro (Con.strs (nZ (ndA ns (startF ns (l.getD k.toNat (0 : Int)))))))] (34 : Nat), AObj.own [AV.s (SV.str (nN (ndA ns (startF ns (l.getD k.toNat (0 : Int)))))), AV.s (SV.int IntKind.u8 (nK (ndA ns (startF ns (l.getD k.toNat (0 : Int)))))), AV.s (SV.int IntKind.i64 (nI (ndA ns (startF ns (l.getD k.toNat (0 : Int)))))), AV.s (SV.int IntKind.i64 (nO (ndA ns (startF ns (l.getD k.toNat (0 : Int)))))), AV.s (SV.int IntKind.u8 (nE (ndA ns (startF ns (l.getD k.toNat (0 : Int)))))), AV.s (SV.str (nY (ndA ns (startF ns (l.getD k.toNat (0 : Int)))))), AV.s (SV.str (nT (ndA ns (startF ns (l.getD k.toNat (0 : Int)))))), AV.s (SV.str (nS (ndA ns (startF ns (l.getD k.toNat (0 : Int)))))), AV.s (SV.bool (nB (ndA ns (startF ns (l.getD k.toNat (0 : Int)))))), AV.s (SV.ro (Con.typ cV (nV (ndA ns (startF ns (l.getD k.toNat (0 : Int))))))), AV.s (SV.ro (Con.strs (nZ (ndA ns (startF ns (l.getD k.toNat (0 : Int)))))))] (34 : Nat), AObj.own [AV.s (SV.str (nN (ndA ns (startF ns (l.getD k.toNat (0 : Int)))))), AV.s (SV.int IntKind.u8 (nK (ndA ns (startF ns (l.getD k.toNat (0 : Int)))))), AV.s (SV.int IntKind.i64 (nI (ndA ns (startF ns (l.getD k.toNat (0 : Int)))))), AV.s (SV.int IntKind.i64 (nO (ndA ns (startF ns (l.getD k.toNat (0 : Int)))))), AV.s (SV.int IntKind.u8 (nE (ndA ns (startF ns (l.getD k.toNat (0 : Int)))))), AV.s (SV.str (nY (ndA ns (startF ns (l.getD k.toNat (0 : Int)))))), AV.s (SV.str (nT (ndA ns (startF ns (l.getD k.toNat (0 : Int)))))), AV.s (SV.str (nS (ndA ns (startF ns (l.getD k.toNat (0 : Int)))))), AV.s (SV.bool (nB (ndA ns (startF ns (l.getD k.toNat (0 : Int)))))), AV.s (SV.ro (Con.typ cV (nV (ndA ns (startF ns (l.getD k.toNat (0 : Int))))))), AV.s (SV.ro (Con.strs (nZ (ndA ns (startF ns (l.getD k.toNat (0 : Int)))))))] (34 : Nat)] (AV.tup [AV.s (SV.int IntKind.i64 (l.getD k.toNat (0 : Int))), AV.s (SV.blit true)])))) (Tree.need (inI64 (i + (1 : Int))) (Tree.at (cPk (38 : Nat) a vs ns fs l ev ky (i + (1 : Int)))))) (Tree.need (inI64 (k + (1 : Int))) (Tree.at (cIx (38 : Nat) a vs ns fs l ev ky kk i (k + (1 : Int)))))) (Tree.need (inI64 (k + (1 : Int))) (Tree.at (cIx (38 : Nat) a vs ns fs l ev ky kk i (k + (1 : Int)))))) (Tree.need (inI64 (k + (1 : Int))) (Tree.at (cIx (38 : Nat) a vs ns fs l ev ky kk i (k + (1 : Int))))))))) (Tree.need (inI64 (i + (1 : Int))) (Tree.at (cPk (38 : Nat) a vs ns fs l ev ky (i + (1 : Int))))) := by kernel_rfl
theorem tabPk_ok {Z : Glob} : tabPk.Ok P Z := Tab.Ok.cons nd2_ok.sumR (Tab.Ok.cons so_ok.sum Tab.Ok.nil)
theorem find_at {q : Int → Bool} {l : List Int} {k : Nat} (hk : k < l.length) (hl : ∀ j (h : j < k), q (l.getD j 0) = false) (h : q (l.getD k 0) = true) : l.find? q = some (l.getD k 0) := by
  rw [List.find?_eq_some_iff_getElem]
  refine ⟨h, k, hk, (getD_lt hk).symm, fun j hj => ?_⟩
  have := hl j hj
  rw [getD_lt (show j < l.length by omega)] at this
  simp [this]
theorem find_no {q : Int → Bool} {l : List Int} (hl : ∀ j (h : j < l.length), q (l.getD j 0) = false) : l.find? q = none := by
  rw [List.find?_eq_none]
  intro x hx
  obtain ⟨j, hj, rfl⟩ := List.getElem_of_mem hx
  have := hl j hj
  rw [getD_lt hj] at this
  simp [this]
theorem pickk_ok {Z : Glob} : FnS P Z 34 (sPk 35 pkB) := by
  refine fnS_of_safe Try.func34 (by kernel_rfl) (fun x => Nat.le_of_ble_eq_true (by kernel_rfl)) ?_
  rintro ⟨(a : ByteArray), (vs : Vs), (ns : Ns), (fs : Fs), (l : List Int), (ev : Int), (ky : ByteArray)⟩ ⟨(hn : ns.length ≤ 1000000), (hl : l.length ≤ 1000000), _⟩ X hX hz
  have hns : ∀ x ∈ nsPk, ((sPk 35 pkB).heap (a, vs, ns, fs, l, ev, ky)).length ≤ x.2.m := by intro y hy; simp [nsPk] at hy; rcases hy with rfl | rfl <;> exact Nat.le_refl _
  have ix : ∀ (i : Int) (kk : ByteArray), 0 ≤ i → i ≤ 1 → (∀ n, l.find? (pkB ns ev kk) = some n → pickF (pkB ns ev) l ky = (n, true)) → (l.find? (pkB ns ev kk) = none → Safe P 34 X (EndS (sPk 35 pkB) (a, vs, ns, fs, l, ev, ky)) (cPk 35 a vs ns fs l ev ky (i + 1))) →
      ∀ (j k : Nat), k + j = l.length → (∀ i (h : i < k), pkB ns ev kk (l.getD i 0) = false) → Safe P 34 X (EndS (sPk 35 pkB) (a, vs, ns, fs, l, ev, ky)) (cIx 35 a vs ns fs l ev ky kk i (k : Int)) := by
    intro i kk hi0 hi1 hyes hno j
    induction j with
    | zero =>
      intro k hk hl2
      exact goS hz hX hns tabPk_ok Try.func34 (ixPk a vs ns fs l ev ky kk i k) (no_and (decide_eq_false (by omega)) ⟨⟨by omega, by omega⟩, hno (find_no fun j hj => hl2 j (by omega))⟩)
    | succ j ih =>
      intro k hk hl2
      have hlt : k < l.length := by omega
      have next := fun h : pkB ns ev kk (l.getD k 0) = false => ih (k + 1) (by omega) fun i h1 => by
        by_cases e : i = k
        · subst e; exact h
        · exact hl2 i (by omega)
      have hi1 : inI64 ((k : Int) + 1) := ⟨by omega, by omega⟩
      refine goS hz hX hns tabPk_ok Try.func34 (ixPk a vs ns fs l ev ky kk i k) (yes_and (decide_eq_true (by omega)) ⟨by omega, by omega, ?_⟩)
      rw [Int.toNat_natCast]
      have fin := fun h : pkB ns ev kk (l.getD k 0) = true => hyes _ (find_at hlt hl2 h)
      generalize l.getD k 0 = x at next fin
      unfold pkB at next fin
      cases h1 : inN ns x with
      | false => exact no_and rfl ⟨hi1, next (by rw [h1]; rfl)⟩
      | true =>
        refine yes_and rfl ?_
        cases h2 : nE (ndA ns x) == ev with
        | false => exact no_and rfl ⟨hi1, next (by rw [h1, h2]; rfl)⟩
        | true =>
          refine yes_and rfl ?_
          cases h3 : decide (nY (ndA ns x) = kk) with
          | false => exact no_and rfl ⟨hi1, next (by rw [h1, h2, h3]; rfl)⟩
          | true =>
            refine yes_and rfl (yes_and (decide_eq_true (by omega)) ⟨by omega, by omega, ?_⟩)
            have e := fin (by rw [h1, h2, h3]; rfl)
            have e2 : (sPk 35 pkB).out (a, vs, ns, fs, l, ev, ky) = .tup [avI x, .s (.bool true)] := by
              show AV.tup [avI (pickF (pkB ns ev) l ky).1, .s (.bool (pickF (pkB ns ev) l ky).2)] = _
              unfold pkB
              rw [e]
            exact endS 1 rfl (Nat.le_refl _) e2 rfl
  have p2 : l.find? (pkB ns ev ky) = none → l.find? (pkB ns ev ByteArray.empty) = none → Safe P 34 X (EndS (sPk 35 pkB) (a, vs, ns, fs, l, ev, ky)) (cPk 35 a vs ns fs l ev ky 2) := fun h1 h2 => by
    refine goS hz hX hns tabPk_ok Try.func34 (lpPk a vs ns fs l ev ky 2) (no_and rfl ?_)
    have e2 : (sPk 35 pkB).out (a, vs, ns, fs, l, ev, ky) = .tup [avI 0, .s (.bool false)] := by
      show AV.tup [avI (pickF (pkB ns ev) l ky).1, .s (.bool (pickF (pkB ns ev) l ky).2)] = _
      unfold pickF
      rw [h1, h2]
    exact endS 1 rfl (Nat.le_refl _) e2 rfl
  have p1 : l.find? (pkB ns ev ky) = none → Safe P 34 X (EndS (sPk 35 pkB) (a, vs, ns, fs, l, ev, ky)) (cPk 35 a vs ns fs l ev ky 1) := fun h1 =>
    goS hz hX hns tabPk_ok Try.func34 (lpPk a vs ns fs l ev ky 1) (yes_and rfl ⟨by omega, by omega, ix 1 ByteArray.empty (by omega) (by omega) (fun n hn => by unfold pickF; rw [h1, hn]) (p2 h1) l.length 0 (Nat.zero_add _) fun i hi => absurd hi (Nat.not_lt_zero _)⟩)
  have p0 := goS hz hX hns tabPk_ok Try.func34 (lpPk a vs ns fs l ev ky 0) (K := EndS (sPk 35 pkB) (a, vs, ns, fs, l, ev, ky)) (yes_and rfl ⟨by omega, by omega, ix 0 ky (by omega) (by omega) (fun n hn => by unfold pickF; rw [hn]) p1 l.length 0 (Nat.zero_add _) fun i hi => absurd hi (Nat.not_lt_zero _)⟩)
  exact goS hz hX hns tabPk_ok Try.func34 (trPk a vs ns fs l ev ky) p0
theorem pickj_ok {Z : Glob} : FnS P Z 34 (sPk 38 pkA) := by
  refine fnS_of_safe Try.func34 (by kernel_rfl) (fun x => Nat.le_of_ble_eq_true (by kernel_rfl)) ?_
  rintro ⟨(a : ByteArray), (vs : Vs), (ns : Ns), (fs : Fs), (l : List Int), (ev : Int), (ky : ByteArray)⟩ ⟨(hn : ns.length ≤ 1000000), (hl : l.length ≤ 1000000), _⟩ X hX hz
  have hns : ∀ x ∈ nsPk, ((sPk 38 pkA).heap (a, vs, ns, fs, l, ev, ky)).length ≤ x.2.m := by intro y hy; simp [nsPk] at hy; rcases hy with rfl | rfl <;> exact Nat.le_refl _
  have ix : ∀ (i : Int) (kk : ByteArray), 0 ≤ i → i ≤ 1 → (∀ n, l.find? (pkA ns ev kk) = some n → pickF (pkA ns ev) l ky = (n, true)) → (l.find? (pkA ns ev kk) = none → Safe P 34 X (EndS (sPk 38 pkA) (a, vs, ns, fs, l, ev, ky)) (cPk 38 a vs ns fs l ev ky (i + 1))) →
      ∀ (j k : Nat), k + j = l.length → (∀ i (h : i < k), pkA ns ev kk (l.getD i 0) = false) → Safe P 34 X (EndS (sPk 38 pkA) (a, vs, ns, fs, l, ev, ky)) (cIx 38 a vs ns fs l ev ky kk i (k : Int)) := by
    intro i kk hi0 hi1 hyes hno j
    induction j with
    | zero =>
      intro k hk hl2
      exact goS hz hX hns tabPk_ok Try.func34 (ixPj a vs ns fs l ev ky kk i k) (no_and (decide_eq_false (by omega)) ⟨⟨by omega, by omega⟩, hno (find_no fun j hj => hl2 j (by omega))⟩)
    | succ j ih =>
      intro k hk hl2
      have hlt : k < l.length := by omega
      have next := fun h : pkA ns ev kk (l.getD k 0) = false => ih (k + 1) (by omega) fun i h1 => by
        by_cases e : i = k
        · subst e; exact h
        · exact hl2 i (by omega)
      have hi1 : inI64 ((k : Int) + 1) := ⟨by omega, by omega⟩
      refine goS hz hX hns tabPk_ok Try.func34 (ixPj a vs ns fs l ev ky kk i k) (yes_and (decide_eq_true (by omega)) ⟨by omega, by omega, hn, ?_⟩)
      rw [Int.toNat_natCast]
      have fin := fun h : pkA ns ev kk (l.getD k 0) = true => hyes _ (find_at hlt hl2 h)
      generalize l.getD k 0 = x at next fin
      unfold pkA at next fin
      cases h1 : hasSt ns x with
      | false => exact no_and rfl ⟨hi1, next (by rw [h1]; rfl)⟩
      | true =>
        refine yes_and rfl ?_
        cases h2 : nE (ndA ns (startF ns x)) == ev with
        | false => exact no_and rfl ⟨hi1, next (by rw [h1, h2]; rfl)⟩
        | true =>
          refine yes_and rfl ?_
          cases h3 : decide (nY (ndA ns (startF ns x)) = kk) with
          | false => exact no_and rfl ⟨hi1, next (by rw [h1, h2, h3]; rfl)⟩
          | true =>
            refine yes_and rfl (yes_and (decide_eq_true (by omega)) ⟨by omega, by omega, ?_⟩)
            have e := fin (by rw [h1, h2, h3]; rfl)
            have e2 : (sPk 38 pkA).out (a, vs, ns, fs, l, ev, ky) = .tup [avI x, .s (.bool true)] := by
              show AV.tup [avI (pickF (pkA ns ev) l ky).1, .s (.bool (pickF (pkA ns ev) l ky).2)] = _
              unfold pkA
              rw [e]
            exact endS 1 rfl (Nat.le_refl _) e2 rfl
  have p2 : l.find? (pkA ns ev ky) = none → l.find? (pkA ns ev ByteArray.empty) = none → Safe P 34 X (EndS (sPk 38 pkA) (a, vs, ns, fs, l, ev, ky)) (cPk 38 a vs ns fs l ev ky 2) := fun h1 h2 => by
    refine goS hz hX hns tabPk_ok Try.func34 (lpPj a vs ns fs l ev ky 2) (no_and rfl ?_)
    have e2 : (sPk 38 pkA).out (a, vs, ns, fs, l, ev, ky) = .tup [avI 0, .s (.bool false)] := by
      show AV.tup [avI (pickF (pkA ns ev) l ky).1, .s (.bool (pickF (pkA ns ev) l ky).2)] = _
      unfold pickF
      rw [h1, h2]
    exact endS 1 rfl (Nat.le_refl _) e2 rfl
  have p1 : l.find? (pkA ns ev ky) = none → Safe P 34 X (EndS (sPk 38 pkA) (a, vs, ns, fs, l, ev, ky)) (cPk 38 a vs ns fs l ev ky 1) := fun h1 =>
    goS hz hX hns tabPk_ok Try.func34 (lpPj a vs ns fs l ev ky 1) (yes_and rfl ⟨by omega, by omega, ix 1 ByteArray.empty (by omega) (by omega) (fun n hn => by unfold pickF; rw [h1, hn]) (p2 h1) l.length 0 (Nat.zero_add _) fun i hi => absurd hi (Nat.not_lt_zero _)⟩)
  have p0 := goS hz hX hns tabPk_ok Try.func34 (lpPj a vs ns fs l ev ky 0) (K := EndS (sPk 38 pkA) (a, vs, ns, fs, l, ev, ky)) (yes_and rfl ⟨by omega, by omega, ix 0 ky (by omega) (by omega) (fun n hn => by unfold pickF; rw [hn]) p1 l.length 0 (Nat.zero_add _) fun i hi => absurd hi (Nat.not_lt_zero _)⟩)
  exact goS hz hX hns tabPk_ok Try.func34 (trPj a vs ns fs l ev ky) p0
end Ds

/-! A summary that leaves what it was handed as it was: nothing is written. -/
namespace Go.Sx
open Go
/-- The same summary, where all that it hands back is as it was: told as a look alone. -/
def sumStill (s : Nat → List AV → RM Res) : Nat → List AV → RM Res := fun base args => (s base args).bind fun q => lookAll (q.up.map (·.1)) fun os => .ret ⟨(some os = some (q.up.map (·.2))) :: q.need, [], q.new, q.r⟩
section
variable {ρ : Nat → Value} {H : AHeap} {G : Nat → Prop} {w : World} {P : Program} {Z : Glob}
theorem findUp_mem : ∀ {up : List (Nat × AObj)} {j : Nat} {o : AObj}, findUp up j = some o → ∃ k : Nat, up[k]? = some (j, o)
  | [], j, o, h => by simp [findUp] at h
  | (i, x) :: r, j, o, h => by
    unfold findUp at h
    split at h
    · rename_i y hy
      cases h
      obtain ⟨k, hk⟩ := findUp_mem hy
      exact ⟨k + 1, by simpa using hk⟩
    · split at h
      · rename_i e
        cases h
        exact ⟨0, by rw [e]; rfl⟩
      · cases h
theorem sumStill_ok {f : FuncId} {s : Nat → List AV → RM Res} (h : SOk1 P Z f s) : SOk1 P Z f (sumStill s) := by
  intro base args H q hq hn ρ G w vs hfresh hz hs hd
  unfold sumStill at hq
  obtain ⟨q0, h1, h2⟩ := RM.bind_eval hq
  obtain ⟨os, h3, h4, h5⟩ := lookAll_eval h2
  simp only [RM.eval, Option.some.injEq] at h3
  subst h3
  obtain ⟨hos, hn0⟩ := hn
  have same : resH H q0.up base q0.new = resH H [] base q0.new := by
    funext j
    unfold resH
    cases hu : findUp q0.up j with
    | none => rfl
    | some o =>
      obtain ⟨k, hk⟩ := findUp_mem hu
      obtain ⟨g1, g2⟩ := h5 k j (by rw [List.getElem?_map, hk]; rfl)
      have g3 : H j = some o := by rw [g1, hos, List.getElem?_map, hk]; rfl
      have g4 : ¬ (base ≤ j ∧ j < base + q0.new.length) := fun hr => by
        have := hfresh (j - base) (by show j - base < q0.new.length; omega)
        rw [show base + (j - base) = j by omega, g3] at this
        cases this
      show some o = if base ≤ j ∧ j < base + q0.new.length then _ else H j
      rw [if_neg g4, g3]
  have := h base args H q0 h1 hn0 ρ G w vs hfresh hz hs hd
  rw [same] at this
  exact this
end
end Go.Sx

namespace Ds
open Go Go.Sx Go.Proofs Lf
abbrev tNr : Ty := .b (.rrow (.ints .i64) 3)
abbrev sumBr := sumR [tPr, tInt] [tNr] preN (fun ((_, _, ns, _, ()), n, ()) => (boundsF ns n, ()))
abbrev sumAr := sumR [tPr, tInt] [tNr] preN (fun ((_, _, ns, _, ()), n, ()) => (asidesF ns n, ()))
theorem good_frz {ρ : Nat → Value} {G : Nat → Prop} {w w1 : World} {v : Value} {c : Con} {e : TypeId} (h : Good ρ (lk []) G w (lk [.vec c e]) (.vec 0) v w1) : Good ρ (lk []) G w (lk []) (.s (.ro c)) v w1 := by
  obtain ⟨ρ1, g1, g2, g3, g4⟩ := h
  have r0 : Rep ⟨ρ, lk [], G, w, [], fun _ _ => False⟩ ρ1 ⟨[.vec 0], [.vec c e]⟩ { tmps := #[v], defers := [] } w1 := by
    refine ⟨g1, rfl, fun t => ?_, rfl, g3, g4, fun x hx => by cases hx⟩
    cases t with
    | zero => exact g2
    | succ t => simp only [List.getD, Array.getD]; simp; unfold DenV; trivial
  have r1 : Rep ⟨ρ, lk [], G, w, [], fun _ _ => False⟩ ρ1 ⟨[.s (.ro c)], [.dead]⟩ { tmps := #[v], defers := [] } w1 := r0.frz1 0
  have h1 : Good ρ (lk []) G w (lk [.dead]) (.s (.ro c)) v w1 := ⟨ρ1, r1.sat, (by have h := r1.den 0; exact h), r1.from_, r1.frm⟩
  exact good_norm h1 ⟨[], [0], 0, []⟩ (Nat.le_refl _) rfl
theorem fnOk_frz {Z : Glob} {f : FuncId} {ts : List Ty} {r : RK} {e : TypeId} {pre : AL ts → List Prop} {F : AL ts → AL [.b (.row r e)]} (h : FnOk P Z f ts [.b (.row r e)] pre F) : FnOk P Z f ts [.b (.rrow r e)] pre fun x => ((F x).1, ()) :=
  fun x h1 h2 G w vs h3 h4 h5 => (h x h1 h2 G w vs h3 h4 h5).mono fun e' w' ⟨v, h6, h7⟩ => ⟨v, h6, good_frz h7⟩
theorem trClS (l : Ss) : run P tab0.sum Try.f37 [] (start Try.f37 [.s (.ro (.typ cSi l))] []) =
  Tree.both (List.length l = (0 : Nat)) True (Tree.ret [] AV.emp) (Tree.need (((0 : Nat) + List.length l) * (24 : Nat) ≤ (140737488355328 : Nat)) (Tree.ret [AObj.dead, AObj.vec (Con.typ cSi ([] ++ l)) (38 : Nat)] (AV.vec (1 : Nat)))) := by kernel_rfl
abbrev sumCl := sumR [tSs] [tSs] (fun (l, ()) => [(l : Ss).length ≤ 1000000]) (fun (l, ()) => (l, ()))
def mPk : List AV → RM (PkX × List Nat)
  | [.agg [.s (.str a), .s (.ro (.typ [.str, .int .u8, .int .i64, .str] vs)), .s (.ro (.typ [.str, .int .u8, .int .i64, .int .i64, .int .u8, .str, .str, .str, .bool, .rows [.str, .int .u8, .int .i64, .str], .strs] ns)), .s (.ro (.typ [.int .i64, .int .i64, .str, .bool] fs))], .s (.ro (.ints .i64 l)), .s (.int .u8 ev), .s (.str ky), .fn _ [.ptr id 0]] => .ret ((a, vs, ns, fs, l, ev, ky), [id])
  | _ => .fail "no pick"
def isB (l : List AV) : Bool := match l[4]? with
  | some (AV.fn g _) => Nat.beq g 35
  | _ => false
abbrev sumPk := sumIf isB (sumStill (sumS (sPk 35 pkB) mPk)) (sumStill (sumS (sPk 38 pkA) mPk))
def tabHa : Tab := [(32, sumDf), (25, sumNd), (36, sumAc), (20, sumBr), (22, sumAr), (37, sumCl), (34, sumPk)]
abbrev inHa : List FuncId := [33]
def nsHa : List (Nat × Norm) := [(11, ⟨[], [0, 1, 8, 9, 10, 13, 17, 20, 21, 79, 80], 0, []⟩), (midKey + 5000, ⟨[], [0, 1, 7, 8, 9, 10, 13, 15], 0, []⟩), (midKey + 16000, ⟨[], [0, 1, 8, 9, 10, 13, 17, 20, 79, 80], 0, []⟩), (midKey + 23000, ⟨[], [0, 1, 8, 9, 10, 13, 17, 20, 24, 79, 80], 0, []⟩)]
theorem trHa (ps : Ps) (cs : Ss) (nm : ByteArray) (k ev : Int) (ky : ByteArray) : run P tabHa.sum Try.f12 nsHa (start Try.f12 [.s (.ro (.typ cP ps)), .s (.ro (.typ cSi cs)), .agg [.s (.str nm), avI k], avU ev, .s (.str ky)] []) inHa =
  Tree.ite (!inN (pO (getP ps nm)) k) (Tree.ret [AObj.own [AV.s (SV.str nm), AV.s (SV.int IntKind.i64 k)] (38 : Nat), AObj.own [AV.s (SV.int IntKind.u8 ev)] (5 : Nat), AObj.own [AV.s (SV.str ky)] (9 : Nat), AObj.own [AV.s (SV.str ByteArray.empty), AV.s (SV.ilit IntKind.i64 (0 : Int))] (38 : Nat), AObj.own [AV.s (SV.str (pN (getP ps nm))), AV.s (SV.ro (Con.typ cV (pV (getP ps nm)))), AV.s (SV.ro (Con.typ cN (pO (getP ps nm)))), AV.s (SV.ro (Con.typ cF (pF (getP ps nm))))] (26 : Nat), AObj.own [AV.s (SV.str (nN (ndA (pO (getP ps nm)) k))), AV.s (SV.int IntKind.u8 (nK (ndA (pO (getP ps nm)) k))), AV.s (SV.int IntKind.i64 (nI (ndA (pO (getP ps nm)) k))), AV.s (SV.int IntKind.i64 (nO (ndA (pO (getP ps nm)) k))), AV.s (SV.int IntKind.u8 (nE (ndA (pO (getP ps nm)) k))), AV.s (SV.str (nY (ndA (pO (getP ps nm)) k))), AV.s (SV.str (nT (ndA (pO (getP ps nm)) k))), AV.s (SV.str (nS (ndA (pO (getP ps nm)) k))), AV.s (SV.bool (nB (ndA (pO (getP ps nm)) k))), AV.s (SV.ro (Con.typ cV (nV (ndA (pO (getP ps nm)) k)))), AV.s (SV.ro (Con.strs (nZ (ndA (pO (getP ps nm)) k))))] (34 : Nat)] (AV.tup [AV.agg [AV.s (SV.str ByteArray.empty), AV.s (SV.ilit IntKind.i64 (0 : Int))], AV.emp, AV.s (SV.blit false)]))
  (Tree.ite (ev != (4 : Int)) (Tree.ite (ev != (5 : Int)) (Tree.ret [AObj.own [AV.s (SV.str nm), AV.s (SV.int IntKind.i64 k)] (38 : Nat), AObj.own [AV.s (SV.int IntKind.u8 ev)] (5 : Nat), AObj.own [AV.s (SV.str ky)] (9 : Nat), AObj.own [AV.s (SV.str ByteArray.empty), AV.s (SV.ilit IntKind.i64 (0 : Int))] (38 : Nat), AObj.own [AV.s (SV.str (pN (getP ps nm))), AV.s (SV.ro (Con.typ cV (pV (getP ps nm)))), AV.s (SV.ro (Con.typ cN (pO (getP ps nm)))), AV.s (SV.ro (Con.typ cF (pF (getP ps nm))))] (26 : Nat), AObj.own [AV.s (SV.str (nN (ndA (pO (getP ps nm)) k))), AV.s (SV.int IntKind.u8 (nK (ndA (pO (getP ps nm)) k))), AV.s (SV.int IntKind.i64 (nI (ndA (pO (getP ps nm)) k))), AV.s (SV.int IntKind.i64 (nO (ndA (pO (getP ps nm)) k))), AV.s (SV.int IntKind.u8 (nE (ndA (pO (getP ps nm)) k))), AV.s (SV.str (nY (ndA (pO (getP ps nm)) k))), AV.s (SV.str (nT (ndA (pO (getP ps nm)) k))), AV.s (SV.str (nS (ndA (pO (getP ps nm)) k))), AV.s (SV.bool (nB (ndA (pO (getP ps nm)) k))), AV.s (SV.ro (Con.typ cV (nV (ndA (pO (getP ps nm)) k)))), AV.s (SV.ro (Con.strs (nZ (ndA (pO (getP ps nm)) k))))] (34 : Nat)] (AV.tup [AV.agg [AV.s (SV.str ByteArray.empty), AV.s (SV.ilit IntKind.i64 (0 : Int))], AV.emp, AV.s (SV.blit false)])) (Tree.at (Cfg.mk (sl (158 : Nat) [((0 : Nat), AV.s (SV.ro (Con.typ cP ps))), ((1 : Nat), AV.s (SV.ro (Con.typ cSi cs))), ((7 : Nat), AV.ptr (0 : Nat) (0 : Nat)), ((8 : Nat), AV.ptr (1 : Nat) (0 : Nat)), ((9 : Nat), AV.ptr (2 : Nat) (0 : Nat)), ((10 : Nat), AV.ptr (3 : Nat) (0 : Nat)), ((13 : Nat), AV.ptr (4 : Nat) (0 : Nat)), ((15 : Nat), AV.ptr (5 : Nat) (0 : Nat))]) [AObj.own [AV.s (SV.str nm), AV.s (SV.int IntKind.i64 k)] (38 : Nat), AObj.own [AV.s (SV.int IntKind.u8 ev)] (5 : Nat), AObj.own [AV.s (SV.str ky)] (9 : Nat), AObj.own [AV.s (SV.str ByteArray.empty), AV.s (SV.int IntKind.i64 (0 : Int))] (38 : Nat), AObj.own [AV.s (SV.str (pN (getP ps nm))), AV.s (SV.ro (Con.typ cV (pV (getP ps nm)))), AV.s (SV.ro (Con.typ cN (pO (getP ps nm)))), AV.s (SV.ro (Con.typ cF (pF (getP ps nm))))] (26 : Nat), AObj.own [AV.s (SV.str (nN (ndA (pO (getP ps nm)) k))), AV.s (SV.int IntKind.u8 (nK (ndA (pO (getP ps nm)) k))), AV.s (SV.int IntKind.i64 (nI (ndA (pO (getP ps nm)) k))), AV.s (SV.int IntKind.i64 (nO (ndA (pO (getP ps nm)) k))), AV.s (SV.int IntKind.u8 (nE (ndA (pO (getP ps nm)) k))), AV.s (SV.str (nY (ndA (pO (getP ps nm)) k))), AV.s (SV.str (nT (ndA (pO (getP ps nm)) k))), AV.s (SV.str (nS (ndA (pO (getP ps nm)) k))), AV.s (SV.bool (nB (ndA (pO (getP ps nm)) k))), AV.s (SV.ro (Con.typ cV (nV (ndA (pO (getP ps nm)) k)))), AV.s (SV.ro (Con.strs (nZ (ndA (pO (getP ps nm)) k))))] (34 : Nat)] (cal Try.f12 (5 : Nat) (0 : Nat)) (Stk.mk none false (0 : Nat) [] (5 : Nat)))))
    (Tree.at (Cfg.mk (sl (158 : Nat) [((0 : Nat), AV.s (SV.ro (Con.typ cP ps))), ((1 : Nat), AV.s (SV.ro (Con.typ cSi cs))), ((7 : Nat), AV.ptr (0 : Nat) (0 : Nat)), ((8 : Nat), AV.ptr (1 : Nat) (0 : Nat)), ((9 : Nat), AV.ptr (2 : Nat) (0 : Nat)), ((10 : Nat), AV.ptr (3 : Nat) (0 : Nat)), ((13 : Nat), AV.ptr (4 : Nat) (0 : Nat)), ((15 : Nat), AV.ptr (5 : Nat) (0 : Nat))]) [AObj.own [AV.s (SV.str nm), AV.s (SV.int IntKind.i64 k)] (38 : Nat), AObj.own [AV.s (SV.int IntKind.u8 ev)] (5 : Nat), AObj.own [AV.s (SV.str ky)] (9 : Nat), AObj.own [AV.s (SV.str ByteArray.empty), AV.s (SV.int IntKind.i64 (0 : Int))] (38 : Nat), AObj.own [AV.s (SV.str (pN (getP ps nm))), AV.s (SV.ro (Con.typ cV (pV (getP ps nm)))), AV.s (SV.ro (Con.typ cN (pO (getP ps nm)))), AV.s (SV.ro (Con.typ cF (pF (getP ps nm))))] (26 : Nat), AObj.own [AV.s (SV.str (nN (ndA (pO (getP ps nm)) k))), AV.s (SV.int IntKind.u8 (nK (ndA (pO (getP ps nm)) k))), AV.s (SV.int IntKind.i64 (nI (ndA (pO (getP ps nm)) k))), AV.s (SV.int IntKind.i64 (nO (ndA (pO (getP ps nm)) k))), AV.s (SV.int IntKind.u8 (nE (ndA (pO (getP ps nm)) k))), AV.s (SV.str (nY (ndA (pO (getP ps nm)) k))), AV.s (SV.str (nT (ndA (pO (getP ps nm)) k))), AV.s (SV.str (nS (ndA (pO (getP ps nm)) k))), AV.s (SV.bool (nB (ndA (pO (getP ps nm)) k))), AV.s (SV.ro (Con.typ cV (nV (ndA (pO (getP ps nm)) k)))), AV.s (SV.ro (Con.strs (nZ (ndA (pO (getP ps nm)) k))))] (34 : Nat)] (cal Try.f12 (5 : Nat) (0 : Nat)) (Stk.mk none false (0 : Nat) [] (5 : Nat))))) := by kernel_rfl
noncomputable def cHa (ps : Ps) (cs : Ss) (ev : Int) (ky : ByteArray) (a : ByteArray) (vs : Vs) (ns : Ns) (fs : Fs) (ip : Int) (asked : Bool) (n i : Int) : Cfg := ⟨sl 158 [(0, .s (.ro (.typ cP ps))), (1, .s (.ro (.typ cSi cs))), (8, .ptr 0 0), (9, .ptr 1 0), (10, .ptr 2 0), (13, .ptr 3 0), (17, .fn 33 [.ptr 3 0, .ptr 0 0, .ptr 1 0]), (20, avI ip), (21, .s (.bool asked)), (79, avI n), (80, avI i)], [.own [avU ev] 5, .own [.s (.str ky)] 9, .own [.s (.str ByteArray.empty), avI 0] eSi, obPr a vs ns fs], hd Try.f12 11, {}⟩
theorem lpHa (ps : Ps) (cs : Ss) (ev : Int) (ky : ByteArray) (a : ByteArray) (vs : Vs) (ns : Ns) (fs : Fs) (ip : Int) (asked : Bool) (n i : Int) : run P tabHa.sum Try.f12 nsHa (cHa ps cs ev ky a vs ns fs ip asked n i) inHa =
  Tree.ite (decide (i < n)) (Tree.ite asked (Tree.need (List.length ns ≤ (1000000 : Nat)) (Tree.need (Slf (some [AObj.own [AV.s (SV.str a), AV.s (SV.ro (Con.typ cV vs)), AV.s (SV.ro (Con.typ cN ns)), AV.s (SV.ro (Con.typ cF fs))] (26 : Nat)])) (Tree.need (Slf (some [AV.agg [AV.s (SV.str a), AV.s (SV.ro (Con.typ cV vs)), AV.s (SV.ro (Con.typ cN ns)), AV.s (SV.ro (Con.typ cF fs))], AV.s (SV.ro (Con.ints IntKind.i64 (asidesF ns ip))), AV.s (SV.int IntKind.u8 ev), AV.s (SV.str ky), AV.fn (38 : Nat) [AV.ptr (0 : Nat) (0 : Nat)]])) (Tree.need (Slf (some [AObj.own [AV.s (SV.str a), AV.s (SV.ro (Con.typ cV vs)), AV.s (SV.ro (Con.typ cN ns)), AV.s (SV.ro (Con.typ cF fs))] (26 : Nat)])) (Tree.need (List.length ns ≤ (1000000 : Nat)) (Tree.need ((asidesF ns ip).length ≤ (1000000 : Nat)) (Tree.ite (pickF (pkA ns ev) (asidesF ns ip) ky).snd (Tree.need (List.length cs ≤ (1000000 : Nat)) (Tree.ret [AObj.own [AV.s (SV.int IntKind.u8 ev)] (5 : Nat), AObj.own [AV.s (SV.str ky)] (9 : Nat), AObj.own [AV.s (SV.str a), AV.s (SV.int IntKind.i64 (pickF (pkA ns ev) (asidesF ns ip) ky).fst)] (38 : Nat), AObj.own [AV.s (SV.str a), AV.s (SV.ro (Con.typ cV vs)), AV.s (SV.ro (Con.typ cN ns)), AV.s (SV.ro (Con.typ cF fs))] (26 : Nat), AObj.vec (Con.typ cSi cs) (38 : Nat)] (AV.tup [AV.agg [AV.s (SV.str a), AV.s (SV.int IntKind.i64 (pickF (pkA ns ev) (asidesF ns ip) ky).fst)], AV.vec (4 : Nat), AV.s (SV.blit true)]))) (Tree.at (Cfg.mk (sl (158 : Nat) [((0 : Nat), AV.s (SV.ro (Con.typ cP ps))), ((1 : Nat), AV.s (SV.ro (Con.typ cSi cs))), ((8 : Nat), AV.ptr (0 : Nat) (0 : Nat)), ((9 : Nat), AV.ptr (1 : Nat) (0 : Nat)), ((10 : Nat), AV.ptr (2 : Nat) (0 : Nat)), ((13 : Nat), AV.ptr (3 : Nat) (0 : Nat)), ((17 : Nat), AV.fn (33 : Nat) [AV.ptr (3 : Nat) (0 : Nat), AV.ptr (0 : Nat) (0 : Nat), AV.ptr (1 : Nat) (0 : Nat)]), ((20 : Nat), AV.s (SV.int IntKind.i64 ip)), ((79 : Nat), AV.s (SV.int IntKind.i64 n)), ((80 : Nat), AV.s (SV.int IntKind.i64 i))]) [AObj.own [AV.s (SV.int IntKind.u8 ev)] (5 : Nat), AObj.own [AV.s (SV.str ky)] (9 : Nat), AObj.own [AV.s (SV.str ByteArray.empty), AV.s (SV.int IntKind.i64 (0 : Int))] (38 : Nat), AObj.own [AV.s (SV.str a), AV.s (SV.ro (Con.typ cV vs)), AV.s (SV.ro (Con.typ cN ns)), AV.s (SV.ro (Con.typ cF fs))] (26 : Nat)] (cal Try.f12 (16 : Nat) (0 : Nat)) (Stk.mk none false (0 : Nat) [] (16 : Nat))))))))))) (Tree.at (Cfg.mk (sl (158 : Nat) [((0 : Nat), AV.s (SV.ro (Con.typ cP ps))), ((1 : Nat), AV.s (SV.ro (Con.typ cSi cs))), ((8 : Nat), AV.ptr (0 : Nat) (0 : Nat)), ((9 : Nat), AV.ptr (1 : Nat) (0 : Nat)), ((10 : Nat), AV.ptr (2 : Nat) (0 : Nat)), ((13 : Nat), AV.ptr (3 : Nat) (0 : Nat)), ((17 : Nat), AV.fn (33 : Nat) [AV.ptr (3 : Nat) (0 : Nat), AV.ptr (0 : Nat) (0 : Nat), AV.ptr (1 : Nat) (0 : Nat)]), ((20 : Nat), AV.s (SV.int IntKind.i64 ip)), ((79 : Nat), AV.s (SV.int IntKind.i64 n)), ((80 : Nat), AV.s (SV.int IntKind.i64 i))]) [AObj.own [AV.s (SV.int IntKind.u8 ev)] (5 : Nat), AObj.own [AV.s (SV.str ky)] (9 : Nat), AObj.own [AV.s (SV.str ByteArray.empty), AV.s (SV.int IntKind.i64 (0 : Int))] (38 : Nat), AObj.own [AV.s (SV.str a), AV.s (SV.ro (Con.typ cV vs)), AV.s (SV.ro (Con.typ cN ns)), AV.s (SV.ro (Con.typ cF fs))] (26 : Nat)] (cal Try.f12 (16 : Nat) (0 : Nat)) (Stk.mk none false (0 : Nat) [] (16 : Nat))))) (Tree.ret [AObj.own [AV.s (SV.int IntKind.u8 ev)] (5 : Nat), AObj.own [AV.s (SV.str ky)] (9 : Nat), AObj.own [AV.s (SV.str ByteArray.empty), AV.s (SV.ilit IntKind.i64 (0 : Int))] (38 : Nat), AObj.own [AV.s (SV.str a), AV.s (SV.ro (Con.typ cV vs)), AV.s (SV.ro (Con.typ cN ns)), AV.s (SV.ro (Con.typ cF fs))] (26 : Nat)] (AV.tup [AV.agg [AV.s (SV.str ByteArray.empty), AV.s (SV.ilit IntKind.i64 (0 : Int))], AV.emp, AV.s (SV.blit false)])) := by kernel_rfl
noncomputable def cH5 (ps : Ps) (cs : Ss) (nm : ByteArray) (k ev : Int) (ky : ByteArray) (a : ByteArray) (vs : Vs) (ns : Ns) (fs : Fs) (x : CL cN) : Cfg := ⟨sl 158 [(0, .s (.ro (.typ cP ps))), (1, .s (.ro (.typ cSi cs))), (7, .ptr 0 0), (8, .ptr 1 0), (9, .ptr 2 0), (10, .ptr 3 0), (13, .ptr 4 0), (15, .ptr 5 0)], [.own [.s (.str nm), avI k] eSi, .own [avU ev] 5, .own [.s (.str ky)] 9, .own [.s (.str ByteArray.empty), avI 0] eSi, obPr a vs ns fs, obNo x], cal Try.f12 5 0, ⟨none, false, 0, [], 5⟩⟩
noncomputable def cH16 (ps : Ps) (cs : Ss) (ev : Int) (ky : ByteArray) (a : ByteArray) (vs : Vs) (ns : Ns) (fs : Fs) (ip : Int) (n i : Int) : Cfg := ⟨sl 158 [(0, .s (.ro (.typ cP ps))), (1, .s (.ro (.typ cSi cs))), (8, .ptr 0 0), (9, .ptr 1 0), (10, .ptr 2 0), (13, .ptr 3 0), (17, .fn 33 [.ptr 3 0, .ptr 0 0, .ptr 1 0]), (20, avI ip), (79, avI n), (80, avI i)], [.own [avU ev] 5, .own [.s (.str ky)] 9, .own [.s (.str ByteArray.empty), avI 0] eSi, obPr a vs ns fs], cal Try.f12 16 0, ⟨none, false, 0, [], 16⟩⟩
noncomputable def cH23 (ps : Ps) (cs : Ss) (ev : Int) (ky : ByteArray) (a : ByteArray) (vs : Vs) (ns : Ns) (fs : Fs) (ip : Int) (x : CL cN) (n i : Int) : Cfg := ⟨sl 158 [(0, .s (.ro (.typ cP ps))), (1, .s (.ro (.typ cSi cs))), (8, .ptr 0 0), (9, .ptr 1 0), (10, .ptr 2 0), (13, .ptr 3 0), (17, .fn 33 [.ptr 3 0, .ptr 0 0, .ptr 1 0]), (20, avI ip), (24, .ptr 4 0), (79, avI n), (80, avI i)], [.own [avU ev] 5, .own [.s (.str ky)] 9, .own [.s (.str ByteArray.empty), avI 0] eSi, obPr a vs ns fs, obNo x], cal Try.f12 23 0, ⟨none, false, 0, [], 23⟩⟩
theorem trH5 (ps : Ps) (cs : Ss) (nm : ByteArray) (k ev : Int) (ky : ByteArray) (a : ByteArray) (vs : Vs) (ns : Ns) (fs : Fs) (x : CL cN) : run P tabHa.sum Try.f12 nsHa (cH5 ps cs nm k ev ky a vs ns fs x) inHa =
  Tree.need (List.length ns ≤ (1000000 : Nat)) (Tree.need (Slf (some [AObj.own [AV.s (SV.str a), AV.s (SV.ro (Con.typ cV vs)), AV.s (SV.ro (Con.typ cN ns)), AV.s (SV.ro (Con.typ cF fs))] (26 : Nat)])) (Tree.need (Slf (some [AV.agg [AV.s (SV.str a), AV.s (SV.ro (Con.typ cV vs)), AV.s (SV.ro (Con.typ cN ns)), AV.s (SV.ro (Con.typ cF fs))], AV.s (SV.ro (Con.ints IntKind.i64 (boundsF ns k))), AV.s (SV.int IntKind.u8 ev), AV.s (SV.str ky), AV.fn (35 : Nat) [AV.ptr (0 : Nat) (0 : Nat)]])) (Tree.need (Slf (some [AObj.own [AV.s (SV.str a), AV.s (SV.ro (Con.typ cV vs)), AV.s (SV.ro (Con.typ cN ns)), AV.s (SV.ro (Con.typ cF fs))] (26 : Nat)])) (Tree.need (List.length ns ≤ (1000000 : Nat)) (Tree.need ((boundsF ns k).length ≤ (1000000 : Nat)) (Tree.ite (pickF (pkB ns ev) (boundsF ns k) ky).snd (Tree.ite (actF (nK x)) (Tree.need (List.length cs ≤ (1000000 : Nat)) (Tree.ret [AObj.own [AV.s (SV.str nm), AV.s (SV.int IntKind.i64 k)] (38 : Nat), AObj.own [AV.s (SV.int IntKind.u8 ev)] (5 : Nat), AObj.own [AV.s (SV.str ky)] (9 : Nat), AObj.own [AV.s (SV.str a), AV.s (SV.int IntKind.i64 (pickF (pkB ns ev) (boundsF ns k) ky).fst)] (38 : Nat), AObj.own [AV.s (SV.str a), AV.s (SV.ro (Con.typ cV vs)), AV.s (SV.ro (Con.typ cN ns)), AV.s (SV.ro (Con.typ cF fs))] (26 : Nat), AObj.own [AV.s (SV.str (nN x)), AV.s (SV.int IntKind.u8 (nK x)), AV.s (SV.int IntKind.i64 (nI x)), AV.s (SV.int IntKind.i64 (nO x)), AV.s (SV.int IntKind.u8 (nE x)), AV.s (SV.str (nY x)), AV.s (SV.str (nT x)), AV.s (SV.str (nS x)), AV.s (SV.bool (nB x)), AV.s (SV.ro (Con.typ cV (nV x))), AV.s (SV.ro (Con.strs (nZ x)))] (34 : Nat), AObj.vec (Con.typ cSi cs) (38 : Nat)] (AV.tup [AV.agg [AV.s (SV.str a), AV.s (SV.int IntKind.i64 (pickF (pkB ns ev) (boundsF ns k) ky).fst)], AV.vec (6 : Nat), AV.s (SV.blit true)]))) (Tree.need (inI64 ((1 : Int) + (↑(List.length cs) : Int))) (Tree.need (inI64 ((41 : Int) * ((1 : Int) + (↑(List.length cs) : Int)))) (Tree.need (inI64 ((2 : Int) + (41 : Int) * ((1 : Int) + (↑(List.length cs) : Int)))) (Tree.at (cHa ps cs ev ky a vs ns fs (nI x) true ((2 : Int) + (41 : Int) * ((1 : Int) + (↑(List.length cs) : Int))) (0 : Int))))))) (Tree.need (inI64 ((1 : Int) + (↑(List.length cs) : Int))) (Tree.need (inI64 ((41 : Int) * ((1 : Int) + (↑(List.length cs) : Int)))) (Tree.need (inI64 ((2 : Int) + (41 : Int) * ((1 : Int) + (↑(List.length cs) : Int)))) (Tree.at (cHa ps cs ev ky a vs ns fs (nI x) true ((2 : Int) + (41 : Int) * ((1 : Int) + (↑(List.length cs) : Int))) (0 : Int)))))))))))) := by kernel_rfl
theorem trH16 (ps : Ps) (cs : Ss) (ev : Int) (ky : ByteArray) (a : ByteArray) (vs : Vs) (ns : Ns) (fs : Fs) (ip : Int) (n i : Int) : run P tabHa.sum Try.f12 nsHa (cH16 ps cs ev ky a vs ns fs ip n i) inHa =
  Tree.ite (!inN ns ip) (Tree.ite ((↑(List.length cs) : Int) == (0 : Int)) (Tree.ret [AObj.own [AV.s (SV.int IntKind.u8 ev)] (5 : Nat), AObj.own [AV.s (SV.str ky)] (9 : Nat), AObj.own [AV.s (SV.str ByteArray.empty), AV.s (SV.ilit IntKind.i64 (0 : Int))] (38 : Nat), AObj.own [AV.s (SV.str a), AV.s (SV.ro (Con.typ cV vs)), AV.s (SV.ro (Con.typ cN ns)), AV.s (SV.ro (Con.typ cF fs))] (26 : Nat), AObj.own [AV.s (SV.str (nN (ndA ns ip))), AV.s (SV.int IntKind.u8 (nK (ndA ns ip))), AV.s (SV.int IntKind.i64 (nI (ndA ns ip))), AV.s (SV.int IntKind.i64 (nO (ndA ns ip))), AV.s (SV.int IntKind.u8 (nE (ndA ns ip))), AV.s (SV.str (nY (ndA ns ip))), AV.s (SV.str (nT (ndA ns ip))), AV.s (SV.str (nS (ndA ns ip))), AV.s (SV.bool (nB (ndA ns ip))), AV.s (SV.ro (Con.typ cV (nV (ndA ns ip)))), AV.s (SV.ro (Con.strs (nZ (ndA ns ip))))] (34 : Nat)] (AV.tup [AV.agg [AV.s (SV.str ByteArray.empty), AV.s (SV.ilit IntKind.i64 (0 : Int))], AV.emp, AV.s (SV.blit false)])) (Tree.need ((0 : Int) ≤ (0 : Int)) (Tree.need ((0 : Int) < (↑(List.length cs) : Int)) (Tree.need ((0 : Int) ≤ (0 : Int)) (Tree.need ((0 : Int) < (↑(List.length cs) : Int)) (Tree.need ((0 : Int) ≤ (1 : Int)) (Tree.need ((1 : Int) ≤ (↑(List.length cs) : Int)) (Tree.need ((↑(List.length cs) : Int) ≤ (↑(List.length cs) : Int)) (Tree.ite (!inN (pO (getP ps (sP (List.getD cs (0 : Nat) (CL.d cSi))))) (sN (List.getD cs (0 : Nat) (CL.d cSi)))) (Tree.ret [AObj.own [AV.s (SV.int IntKind.u8 ev)] (5 : Nat), AObj.own [AV.s (SV.str ky)] (9 : Nat), AObj.own [AV.s (SV.str ByteArray.empty), AV.s (SV.ilit IntKind.i64 (0 : Int))] (38 : Nat), AObj.own [AV.s (SV.str (pN (getP ps (sP (List.getD cs (0 : Nat) (CL.d cSi)))))), AV.s (SV.ro (Con.typ cV (pV (getP ps (sP (List.getD cs (0 : Nat) (CL.d cSi))))))), AV.s (SV.ro (Con.typ cN (pO (getP ps (sP (List.getD cs (0 : Nat) (CL.d cSi))))))), AV.s (SV.ro (Con.typ cF (pF (getP ps (sP (List.getD cs (0 : Nat) (CL.d cSi)))))))] (26 : Nat), AObj.own [AV.s (SV.str (nN (ndA (pO (getP ps (sP (List.getD cs (0 : Nat) (CL.d cSi))))) (sN (List.getD cs (0 : Nat) (CL.d cSi)))))), AV.s (SV.int IntKind.u8 (nK (ndA (pO (getP ps (sP (List.getD cs (0 : Nat) (CL.d cSi))))) (sN (List.getD cs (0 : Nat) (CL.d cSi)))))), AV.s (SV.int IntKind.i64 (nI (ndA (pO (getP ps (sP (List.getD cs (0 : Nat) (CL.d cSi))))) (sN (List.getD cs (0 : Nat) (CL.d cSi)))))), AV.s (SV.int IntKind.i64 (nO (ndA (pO (getP ps (sP (List.getD cs (0 : Nat) (CL.d cSi))))) (sN (List.getD cs (0 : Nat) (CL.d cSi)))))), AV.s (SV.int IntKind.u8 (nE (ndA (pO (getP ps (sP (List.getD cs (0 : Nat) (CL.d cSi))))) (sN (List.getD cs (0 : Nat) (CL.d cSi)))))), AV.s (SV.str (nY (ndA (pO (getP ps (sP (List.getD cs (0 : Nat) (CL.d cSi))))) (sN (List.getD cs (0 : Nat) (CL.d cSi)))))), AV.s (SV.str (nT (ndA (pO (getP ps (sP (List.getD cs (0 : Nat) (CL.d cSi))))) (sN (List.getD cs (0 : Nat) (CL.d cSi)))))), AV.s (SV.str (nS (ndA (pO (getP ps (sP (List.getD cs (0 : Nat) (CL.d cSi))))) (sN (List.getD cs (0 : Nat) (CL.d cSi)))))), AV.s (SV.bool (nB (ndA (pO (getP ps (sP (List.getD cs (0 : Nat) (CL.d cSi))))) (sN (List.getD cs (0 : Nat) (CL.d cSi)))))), AV.s (SV.ro (Con.typ cV (nV (ndA (pO (getP ps (sP (List.getD cs (0 : Nat) (CL.d cSi))))) (sN (List.getD cs (0 : Nat) (CL.d cSi))))))), AV.s (SV.ro (Con.strs (nZ (ndA (pO (getP ps (sP (List.getD cs (0 : Nat) (CL.d cSi))))) (sN (List.getD cs (0 : Nat) (CL.d cSi)))))))] (34 : Nat)] (AV.tup [AV.agg [AV.s (SV.str ByteArray.empty), AV.s (SV.ilit IntKind.i64 (0 : Int))], AV.emp, AV.s (SV.blit false)])) (Tree.at (cH23 ps (List.drop (Int.toNat (1 : Int)) (List.take (↑(List.length cs) : Int).toNat cs)) ev ky (pN (getP ps (sP (List.getD cs (0 : Nat) (CL.d cSi))))) (pV (getP ps (sP (List.getD cs (0 : Nat) (CL.d cSi))))) (pO (getP ps (sP (List.getD cs (0 : Nat) (CL.d cSi))))) (pF (getP ps (sP (List.getD cs (0 : Nat) (CL.d cSi))))) (sN (List.getD cs (0 : Nat) (CL.d cSi))) (ndA (pO (getP ps (sP (List.getD cs (0 : Nat) (CL.d cSi))))) (sN (List.getD cs (0 : Nat) (CL.d cSi)))) n i)))))))))))
  (Tree.at (cH23 ps cs ev ky a vs ns fs ip (ndA ns ip) n i)) := by kernel_rfl
theorem trH23 (ps : Ps) (cs : Ss) (ev : Int) (ky : ByteArray) (a : ByteArray) (vs : Vs) (ns : Ns) (fs : Fs) (ip : Int) (x : CL cN) (n i : Int) : run P tabHa.sum Try.f12 nsHa (cH23 ps cs ev ky a vs ns fs ip x n i) inHa =
  Tree.need (List.length ns ≤ (1000000 : Nat)) (Tree.need (Slf (some [AObj.own [AV.s (SV.str a), AV.s (SV.ro (Con.typ cV vs)), AV.s (SV.ro (Con.typ cN ns)), AV.s (SV.ro (Con.typ cF fs))] (26 : Nat)])) (Tree.need (Slf (some [AV.agg [AV.s (SV.str a), AV.s (SV.ro (Con.typ cV vs)), AV.s (SV.ro (Con.typ cN ns)), AV.s (SV.ro (Con.typ cF fs))], AV.s (SV.ro (Con.ints IntKind.i64 (boundsF ns ip))), AV.s (SV.int IntKind.u8 ev), AV.s (SV.str ky), AV.fn (35 : Nat) [AV.ptr (0 : Nat) (0 : Nat)]])) (Tree.need (Slf (some [AObj.own [AV.s (SV.str a), AV.s (SV.ro (Con.typ cV vs)), AV.s (SV.ro (Con.typ cN ns)), AV.s (SV.ro (Con.typ cF fs))] (26 : Nat)])) (Tree.need (List.length ns ≤ (1000000 : Nat)) (Tree.need ((boundsF ns ip).length ≤ (1000000 : Nat)) (Tree.ite (nK x != (13 : Int)) (Tree.ite (pickF (pkB ns ev) (boundsF ns ip) ky).snd (Tree.need (List.length cs ≤ (1000000 : Nat)) (Tree.ret [AObj.own [AV.s (SV.int IntKind.u8 ev)] (5 : Nat), AObj.own [AV.s (SV.str ky)] (9 : Nat), AObj.own [AV.s (SV.str a), AV.s (SV.int IntKind.i64 (pickF (pkB ns ev) (boundsF ns ip) ky).fst)] (38 : Nat), AObj.own [AV.s (SV.str a), AV.s (SV.ro (Con.typ cV vs)), AV.s (SV.ro (Con.typ cN ns)), AV.s (SV.ro (Con.typ cF fs))] (26 : Nat), AObj.own [AV.s (SV.str (nN x)), AV.s (SV.int IntKind.u8 (nK x)), AV.s (SV.int IntKind.i64 (nI x)), AV.s (SV.int IntKind.i64 (nO x)), AV.s (SV.int IntKind.u8 (nE x)), AV.s (SV.str (nY x)), AV.s (SV.str (nT x)), AV.s (SV.str (nS x)), AV.s (SV.bool (nB x)), AV.s (SV.ro (Con.typ cV (nV x))), AV.s (SV.ro (Con.strs (nZ x)))] (34 : Nat), AObj.vec (Con.typ cSi cs) (38 : Nat)] (AV.tup [AV.agg [AV.s (SV.str a), AV.s (SV.int IntKind.i64 (pickF (pkB ns ev) (boundsF ns ip) ky).fst)], AV.vec (5 : Nat), AV.s (SV.blit true)]))) (Tree.need (inI64 (i + (1 : Int))) (Tree.at (cHa ps cs ev ky a vs ns fs (nI x) (nK x != (13 : Int)) n (i + (1 : Int)))))) (Tree.need (inI64 (i + (1 : Int))) (Tree.at (cHa ps cs ev ky a vs ns fs (nI x) (nK x != (13 : Int)) n (i + (1 : Int))))))))))) := by kernel_rfl
end Ds

namespace Ds
open Go Go.Sx Go.Proofs Lf
abbrev prK (a : ByteArray) (vs : Vs) (ns : Ns) (fs : Fs) : CL cP := (a, vs, ns, fs, ())
abbrev HR : Type := CL cSi × Ss × Bool
abbrev siO (a : ByteArray) (k : Int) : CL cSi := (a, k, ())
def noH : HR := (siO ByteArray.empty 0, [], false)
def hTail (ev : Int) (ky : ByteArray) (cs : Ss) (p : CL cP) (ip : Int) (k : Int → Bool → HR) : HR :=
  if (nK (ndA (pO p) ip) != 13) && (pickF (pkB (pO p) ev) (boundsF (pO p) ip) ky).2 then (siO (pN p) (pickF (pkB (pO p) ev) (boundsF (pO p) ip) ky).1, cs, true)
  else k (nI (ndA (pO p) ip)) (nK (ndA (pO p) ip) != 13)
def hNext (ps : Ps) (ev : Int) (ky : ByteArray) (k : Ss → CL cP → Int → Bool → HR) : Ss → HR
  | [] => noH
  | c :: cs' => if inN (pO (getP ps (sP c))) (sN c) then hTail ev ky cs' (getP ps (sP c)) (sN c) (k cs' (getP ps (sP c))) else noH
def hLoop (ps : Ps) (ev : Int) (ky : ByteArray) : Nat → Ss → CL cP → Int → Bool → HR
  | 0, _, _, _, _ => noH
  | d + 1, cs, p, ip, asked =>
    if asked && (pickF (pkA (pO p) ev) (asidesF (pO p) ip) ky).2 then (siO (pN p) (pickF (pkA (pO p) ev) (asidesF (pO p) ip) ky).1, cs, true)
    else if inN (pO p) ip then hTail ev ky cs p ip (hLoop ps ev ky d cs p)
    else hNext ps ev ky (hLoop ps ev ky d) cs
def handG (ps : Ps) (cs : Ss) (p : CL cP) (k ev : Int) (ky : ByteArray) : HR :=
  if (pickF (pkB (pO p) ev) (boundsF (pO p) k) ky).2 && actF (nK (ndA (pO p) k)) then (siO (pN p) (pickF (pkB (pO p) ev) (boundsF (pO p) k) ky).1, cs, true)
  else hLoop ps ev ky (2 + 41 * (1 + cs.length)) cs p (nI (ndA (pO p) k)) true
def handF (ps : Ps) (cs : Ss) (nm : ByteArray) (k ev : Int) (ky : ByteArray) : HR :=
  if !inN (pO (getP ps nm)) k then noH else if ev != 4 && ev != 5 then noH else handG ps cs (getP ps nm) k ev ky
abbrev outHa (r : HR) : AL [tSi, tSs, tBool] := (r.1, r.2.1, r.2.2, ())
def smallPs (ps : Ps) : Prop := ∀ p ∈ ps, (pO p).length ≤ 1000000 ∧ (pF p).length ≤ 1000000
abbrev preHa : AL [tDefs, tSs, tSi, tU8, tStr] → List Prop := fun (ps, cs, _, _, _, ()) => [smallPs ps, (cs : Ss).length ≤ 1000000]
abbrev FHa : AL [tDefs, tSs, tSi, tU8, tStr] → AL [tSi, tSs, tBool] := fun (ps, cs, (nm, k, ()), ev, ky, ()) => outHa (handF ps cs nm k ev ky)
abbrev sumHa := sumR [tDefs, tSs, tSi, tU8, tStr] [tSi, tSs, tBool] preHa FHa
theorem smallPs.el {ps : Ps} (h : smallPs ps) (i : Int) : (pO (el ps i)).length ≤ 1000000 ∧ (pF (el ps i)).length ≤ 1000000 := by
  show (pO (ps.getD i.toNat (CL.d cP))).length ≤ 1000000 ∧ (pF (ps.getD i.toNat (CL.d cP))).length ≤ 1000000
  by_cases hi : i.toNat < ps.length
  · rw [getD_lt hi]; exact h _ (List.getElem_mem hi)
  · rw [List.getD_eq_getElem?_getD, List.getElem?_eq_none (by omega)]
    exact ⟨Nat.zero_le _, Nat.zero_le _⟩
theorem smallPs.get {ps : Ps} (h : smallPs ps) (nm : ByteArray) : (pO (getP ps nm)).length ≤ 1000000 ∧ (pF (getP ps nm)).length ≤ 1000000 := h.el _
theorem br_ok {Z : Glob} : FnOk P Z 20 [tPr, tInt] [tNr] preN (fun ((_, _, ns, _, ()), n, ()) => (boundsF ns n, ())) := fnOk_frz bo_ok
theorem ar_ok {Z : Glob} : FnOk P Z 22 [tPr, tInt] [tNr] preN (fun ((_, _, ns, _, ()), n, ()) => (asidesF ns n, ())) := fnOk_frz as_ok
theorem cl_ok {Z : Glob} : FnOk P Z 37 [tSs] [tSs] (fun (l, ()) => [(l : Ss).length ≤ 1000000]) (fun (l, ()) => (l, ())) := by
  refine fnOk_of_safe Try.func37 (by kernel_rfl) (by kernel_rfl) ?_
  rintro ⟨(l : Ss), ⟨⟩⟩ _ ⟨(hl : l.length ≤ 1000000), _⟩ X hX hz
  show Safe P 37 X (Ends [tSs] (l, ())) _
  refine go hz hX Tab.Ok.nil Try.func37 (trClS l) ⟨fun h => ?_, fun _ => ⟨by omega, ?_⟩⟩
  · obtain rfl := List.eq_nil_of_length_eq_zero h
    exact ends_eq _ rfl (by kernel_rfl)
  · exact ends_eq _ rfl (by kernel_rfl)
theorem tabHa_ok {Z : Glob} : tabHa.Ok P Z := Tab.Ok.cons def_ok.sumR (Tab.Ok.cons nd2_ok.sumR (Tab.Ok.cons ac_ok.sum (Tab.Ok.cons br_ok.sumR (Tab.Ok.cons ar_ok.sumR (Tab.Ok.cons cl_ok.sumR (Tab.Ok.cons (sumIf_ok (sumStill_ok (pickk_ok.sum mPk)) (sumStill_ok (pickj_ok.sum mPk))) Tab.Ok.nil))))))
section
variable {Z : Glob} {X : Ctx} {ps : Ps} {cs : Ss} {ev : Int} {ky : ByteArray} {a : ByteArray} {vs : Vs} {ns : Ns} {fs : Fs}
abbrev SafeHa (X : Ctx) (r : HR) (c : Cfg) : Prop := Safe P 12 X (Ends [tSi, tSs, tBool] (outHa r)) c
theorem tail_safe {d : Nat} {ip n i : Int} {p : CL cP} (hX : ∀ id, X.H id = none) (hz : ZCtx Z X) (hp : p = (prK a vs ns fs)) (hn : ns.length ≤ 1000000) (hc : cs.length ≤ 1000000) (hi : inI64 (i + 1))
    (k : ∀ ip asked, SafeHa X (hLoop ps ev ky d cs p ip asked) (cHa ps cs ev ky a vs ns fs ip asked n (i + 1))) : SafeHa X (hTail ev ky cs p ip (hLoop ps ev ky d cs p)) (cH23 ps cs ev ky a vs ns fs ip (ndA ns ip) n i) := by
  subst hp
  have hb : (boundsF ns ip).length ≤ 1000000 := Nat.le_trans (idxs_len _ _) hn
  refine go hz hX tabHa_ok Try.func12 (trH23 ps cs ev ky a vs ns fs ip (ndA ns ip) n i) ⟨hn, rfl, rfl, rfl, hn, hb, ?_⟩
  unfold hTail
  simp only [pO, pN]
  generalize ndA ns ip = x
  cases h1 : nK x != 13 with
  | false => exact no_and rfl ⟨hi, by have k' := k (nI x) (nK x != 13); rw [h1] at k'; exact k'⟩
  | true =>
    refine yes_and rfl ?_
    generalize pickF (pkB ns ev) (boundsF ns ip) ky = q
    cases h2 : q.2 with
    | true => exact yes_and rfl ⟨hc, ends_eq _ rfl (by kernel_rfl)⟩
    | false => exact no_and rfl ⟨hi, by have k' := k (nI x) (nK x != 13); rw [h1] at k'; exact k'⟩
theorem hLoop_succ (ps : Ps) (ev : Int) (ky : ByteArray) (d : Nat) (cs : Ss) (p : CL cP) (ip : Int) (asked : Bool) : hLoop ps ev ky (d + 1) cs p ip asked = if asked && (pickF (pkA (pO p) ev) (asidesF (pO p) ip) ky).2 then (siO (pN p) (pickF (pkA (pO p) ev) (asidesF (pO p) ip) ky).1, cs, true)
    else if inN (pO p) ip then hTail ev ky cs p ip (hLoop ps ev ky d cs p)
    else hNext ps ev ky (hLoop ps ev ky d) cs := rfl
theorem get_eta (ps : Ps) (nm : ByteArray) : getP ps nm = prK (pN (getP ps nm)) (pV (getP ps nm)) (pO (getP ps nm)) (pF (getP ps nm)) := rfl
theorem hNext_no {k : Ss → CL cP → Int → Bool → HR} {c : CL cSi} {cs' : Ss} (h : inN (pO (getP ps (sP c))) (sN c) = false) : hNext ps ev ky k (c :: cs') = noH := by
  show (if inN (pO (getP ps (sP c))) (sN c) = true then _ else _) = _
  rw [h]; rfl
theorem hNext_yes {k : Ss → CL cP → Int → Bool → HR} {c : CL cSi} {cs' : Ss} (h : inN (pO (getP ps (sP c))) (sN c) = true) : hNext ps ev ky k (c :: cs') = hTail ev ky cs' (getP ps (sP c)) (sN c) (k cs' (getP ps (sP c))) := by
  show (if inN (pO (getP ps (sP c))) (sN c) = true then _ else _) = _
  rw [h]; rfl
theorem next_safeH {d : Nat} {ip n i : Int} (hX : ∀ id, X.H id = none) (hz : ZCtx Z X) (hs : smallPs ps) (hin : inN ns ip = false) (hc : cs.length ≤ 1000000) (hi : inI64 (i + 1))
    (k : ∀ (cs : Ss) (a : ByteArray) (vs : Vs) (ns : Ns) (fs : Fs) (ip : Int) (asked : Bool), cs.length ≤ 1000000 → ns.length ≤ 1000000 → SafeHa X (hLoop ps ev ky d cs (prK a vs ns fs) ip asked) (cHa ps cs ev ky a vs ns fs ip asked n (i + 1))) :
    SafeHa X (hNext ps ev ky (hLoop ps ev ky d) cs) (cH16 ps cs ev ky a vs ns fs ip n i) := by
  refine go hz hX tabHa_ok Try.func12 (trH16 ps cs ev ky a vs ns fs ip n i) (yes_and (by rw [hin]; rfl) ?_)
  cases cs with
  | nil => exact yes_and rfl (ends_eq _ rfl (by kernel_rfl))
  | cons c cs' =>
    have hl : ((c :: cs').length : Int) = (cs'.length : Int) + 1 := by simp
    refine no_and (by rw [hl]; simp; omega) ⟨by omega, by omega, by omega, by omega, by omega, by omega, by omega, ?_⟩
    have e1 : List.drop (Int.toNat 1) (List.take (((c :: cs').length : Nat) : Int).toNat (c :: cs')) = cs' := by rw [Int.toNat_natCast, List.take_length]; rfl
    have hq := hs.get (sP c)
    show ((!inN (pO (getP ps (sP c))) (sN c)) = true → _) ∧ ((!inN (pO (getP ps (sP c))) (sN c)) = false → _)
    cases hin2 : inN (pO (getP ps (sP c))) (sN c) with
    | false =>
      refine yes_and rfl ?_
      rw [hNext_no hin2]
      exact ends_eq _ rfl (by kernel_rfl)
    | true =>
      refine no_and rfl ?_
      rw [hNext_yes hin2, e1]
      exact tail_safe hX hz (get_eta ps (sP c)) hq.1 (by simp at hc; omega) hi fun ip asked => k cs' _ _ _ _ ip asked (by simp at hc; omega) hq.1
theorem loop_safe (hX : ∀ id, X.H id = none) (hz : ZCtx Z X) (hs : smallPs ps) (n : Int) (hn0 : 0 ≤ n ∧ n ≤ 100000000) : ∀ (d : Nat) (cs : Ss) (a : ByteArray) (vs : Vs) (ns : Ns) (fs : Fs) (ip : Int) (asked : Bool) (i : Int), 0 ≤ i → i + d = n → cs.length ≤ 1000000 → ns.length ≤ 1000000 →
    SafeHa X (hLoop ps ev ky d cs (prK a vs ns fs) ip asked) (cHa ps cs ev ky a vs ns fs ip asked n i) := by
  intro d
  induction d with
  | zero =>
    intro cs a vs ns fs ip asked i h0 hi hc hn
    exact go hz hX tabHa_ok Try.func12 (lpHa ps cs ev ky a vs ns fs ip asked n i) (no_and (decide_eq_false (by omega)) (ends_eq _ rfl (by kernel_rfl)))
  | succ d ih =>
    intro cs a vs ns fs ip asked i h0 hi hc hn
    have hi1 : inI64 (i + 1) := ⟨by omega, by omega⟩
    have hb : (asidesF ns ip).length ≤ 1000000 := Nat.le_trans (idxs_len _ _) hn
    have mid : (asked && (pickF (pkA ns ev) (asidesF ns ip) ky).2) = false → SafeHa X (hLoop ps ev ky (d + 1) cs (prK a vs ns fs) ip asked) (cH16 ps cs ev ky a vs ns fs ip n i) := fun hno => by
      have e : hLoop ps ev ky (d + 1) cs (prK a vs ns fs) ip asked = if inN ns ip then hTail ev ky cs (prK a vs ns fs) ip (hLoop ps ev ky d cs (prK a vs ns fs)) else hNext ps ev ky (hLoop ps ev ky d) cs := by
        refine (hLoop_succ ps ev ky d cs (prK a vs ns fs) ip asked).trans ?_
        show (if (asked && (pickF (pkA ns ev) (asidesF ns ip) ky).2) = true then _ else _) = _
        rw [hno]
        rfl
      rw [e]
      cases hin : inN ns ip with
      | true =>
        refine go hz hX tabHa_ok Try.func12 (trH16 ps cs ev ky a vs ns fs ip n i) (no_and (by rw [hin]; rfl) ?_)
        exact tail_safe hX hz rfl hn hc hi1 fun ip asked => ih cs a vs ns fs ip asked (i + 1) (by omega) (by omega) hc hn
      | false => exact next_safeH hX hz hs hin hc hi1 fun cs' a vs ns fs ip asked hc' hn' => ih cs' a vs ns fs ip asked (i + 1) (by omega) (by omega) hc' hn'
    refine go hz hX tabHa_ok Try.func12 (lpHa ps cs ev ky a vs ns fs ip asked n i) (yes_and (decide_eq_true (by omega)) ?_)
    cases hk : asked with
    | false => exact no_and rfl (by rw [hk] at mid; exact mid rfl)
    | true =>
      rw [hk] at mid
      refine yes_and rfl ⟨hn, rfl, rfl, rfl, hn, hb, ?_⟩
      cases hq : (pickF (pkA ns ev) (asidesF ns ip) ky).2 with
      | false => exact no_and rfl (mid (by rw [hq]; rfl))
      | true =>
        refine yes_and rfl ⟨hc, ?_⟩
        have e : hLoop ps ev ky (d + 1) cs (prK a vs ns fs) ip true = (siO a (pickF (pkA ns ev) (asidesF ns ip) ky).1, cs, true) := by
          refine (hLoop_succ ps ev ky d cs (prK a vs ns fs) ip true).trans ?_
          show (if (true && (pickF (pkA ns ev) (asidesF ns ip) ky).2) = true then _ else _) = _
          rw [hq]
          rfl
        rw [e]
        generalize (pickF (pkA ns ev) (asidesF ns ip) ky).1 = z
        exact ends_eq _ rfl (by kernel_rfl)
end
theorem hand_ok {Z : Glob} : FnOk P Z 12 [tDefs, tSs, tSi, tU8, tStr] [tSi, tSs, tBool] preHa FHa := by
  refine fnOk_of_safe Try.func12 (by kernel_rfl) (by kernel_rfl) ?_
  rintro ⟨(ps : Ps), (cs : Ss), ⟨(nm : ByteArray), (k : Int), ⟨⟩⟩, (ev : Int), (ky : ByteArray), ⟨⟩⟩ _ ⟨(hs : smallPs ps), (hc : cs.length ≤ 1000000), _⟩ X hX hz
  show SafeHa X (handF ps cs nm k ev ky) _
  have hq := hs.get nm
  refine go hz hX tabHa_ok Try.func12 (trHa ps cs nm k ev ky) ?_
  unfold handF
  cases hin : inN (pO (getP ps nm)) k with
  | false =>
    refine yes_and rfl ?_
    generalize getP ps nm = q
    exact ends_eq _ rfl (by kernel_rfl)
  | true =>
    refine no_and rfl ?_
    have mid : SafeHa X (handG ps cs (getP ps nm) k ev ky) (cH5 ps cs nm k ev ky (pN (getP ps nm)) (pV (getP ps nm)) (pO (getP ps nm)) (pF (getP ps nm)) (ndA (pO (getP ps nm)) k)) := by
      have hb : (boundsF (pO (getP ps nm)) k).length ≤ 1000000 := Nat.le_trans (idxs_len _ _) hq.1
      have lp := loop_safe (ev := ev) (ky := ky) hX hz hs (2 + 41 * (1 + (cs.length : Int))) ⟨by omega, by omega⟩ (2 + 41 * (1 + cs.length)) cs (pN (getP ps nm)) (pV (getP ps nm)) (pO (getP ps nm)) (pF (getP ps nm)) (nI (ndA (pO (getP ps nm)) k)) true 0 (by omega) (by omega) hc hq.1
      change SafeHa X (hLoop ps ev ky (2 + 41 * (1 + cs.length)) cs (getP ps nm) (nI (ndA (pO (getP ps nm)) k)) true) _ at lp
      refine go hz hX tabHa_ok Try.func12 (trH5 ps cs nm k ev ky _ _ _ _ _) ⟨hq.1, rfl, rfl, rfl, hq.1, hb, ?_⟩
      unfold handG
      generalize ndA (pO (getP ps nm)) k = x at lp
      generalize pickF (pkB (pO (getP ps nm)) ev) (boundsF (pO (getP ps nm)) k) ky = z
      cases h1 : z.2 with
      | false => exact no_and rfl ⟨⟨by omega, by omega⟩, ⟨by omega, by omega⟩, ⟨by omega, by omega⟩, lp⟩
      | true =>
        refine yes_and rfl ?_
        cases h2 : actF (nK x) with
        | false => exact no_and rfl ⟨⟨by omega, by omega⟩, ⟨by omega, by omega⟩, ⟨by omega, by omega⟩, lp⟩
        | true =>
          refine yes_and rfl ⟨hc, ?_⟩
          generalize getP ps nm = q
          exact ends_eq _ rfl (by kernel_rfl)
    generalize ndA (pO (getP ps nm)) k = x at mid ⊢
    cases h4 : ev != 4 with
    | false => exact no_and rfl mid
    | true =>
      refine yes_and rfl ?_
      cases h5 : ev != 5 with
      | false => exact no_and rfl mid
      | true =>
        refine yes_and rfl ?_
        generalize getP ps nm = q
        exact ends_eq _ rfl (by kernel_rfl)
end Ds

namespace Ds
open Go Go.Sx Go.Proofs Lf
abbrev nKo (a : ByteArray) (k i o e : Int) (y t s : ByteArray) (b : Bool) (v : List (CL cV)) (z : List ByteArray) : CL cN := (a, k, i, o, e, y, t, s, b, v, z, ())
abbrev sumNk := sumR [tU8] [tNoR] (fun _ => []) (fun (k, ()) => (nOf k, ()))
def mLn : List AV → RM ((ByteArray × Ns) × List Nat)
  | [.s (.str nm), .vec id] => .look id fun o => match o with
    | some (.vec (.typ [.str, .int .u8, .int .i64, .int .i64, .int .u8, .str, .str, .str, .bool, .rows [.str, .int .u8, .int .i64, .str], .strs] ns) _) => .ret ((nm, ns), [id])
    | _ => .fail "no nodes"
  | _ => .fail "no line"
abbrev sumLn := sumS sLn mLn
def tabFa : Tab := [(14, sumNk), (13, sumLn)]
def nsFa : List (Nat × Norm) := []
theorem trFa (ky bo : ByteArray) : run P tabFa.sum Try.f10 nsFa (start Try.f10 [.s (.str ky), .s (.str bo)] []) =
  Tree.need (Slf (some [AV.s (SV.str (ByteArray.mk #[(112 : UInt8)])), AV.vec (0 : Nat)]))
  (Tree.need (Slf (some [AObj.vec (Con.typ cN [nKo ByteArray.empty (1 : Int) (-1 : Int) (-1 : Int) (0 : Int) ByteArray.empty ByteArray.empty ByteArray.empty false [] [], nKo ByteArray.empty (11 : Int) (-1 : Int) (-1 : Int) (0 : Int) ByteArray.empty ByteArray.empty ByteArray.empty false [] [], nKo ByteArray.empty (2 : Int) (-1 : Int) (-1 : Int) (0 : Int) ByteArray.empty ByteArray.empty ByteArray.empty false [] []]) (34 : Nat)]))
    (Tree.need ((1 : Nat) ≤ [nKo ByteArray.empty (1 : Int) (-1 : Int) (-1 : Int) (0 : Int) ByteArray.empty ByteArray.empty ByteArray.empty false [] [], nKo ByteArray.empty (11 : Int) (-1 : Int) (-1 : Int) (0 : Int) ByteArray.empty ByteArray.empty ByteArray.empty false [] [], nKo ByteArray.empty (2 : Int) (-1 : Int) (-1 : Int) (0 : Int) ByteArray.empty ByteArray.empty ByteArray.empty false [] []].length ∧ [nKo ByteArray.empty (1 : Int) (-1 : Int) (-1 : Int) (0 : Int) ByteArray.empty ByteArray.empty ByteArray.empty false [] [], nKo ByteArray.empty (11 : Int) (-1 : Int) (-1 : Int) (0 : Int) ByteArray.empty ByteArray.empty ByteArray.empty false [] [], nKo ByteArray.empty (2 : Int) (-1 : Int) (-1 : Int) (0 : Int) ByteArray.empty ByteArray.empty ByteArray.empty false [] []].length ≤ (1000 : Nat))
      (Tree.need (((3 : Nat) + (3 : Nat)) * (152 : Nat) ≤ (140737488355328 : Nat)) (Tree.need (((2 : Nat) + (2 : Nat)) * (40 : Nat) ≤ (140737488355328 : Nat)) (Tree.ret [AObj.own [AV.s (SV.str (ByteArray.mk #[(112 : UInt8)])), AV.emp, AV.vec (8 : Nat), AV.vec (10 : Nat)] (26 : Nat), AObj.dead, AObj.dead, AObj.own [AV.s (SV.str (ByteArray.mk #[(112 : UInt8)])), AV.emp, AV.vec (8 : Nat), AV.vec (10 : Nat)] (26 : Nat), AObj.own [AV.s (SV.str ByteArray.empty), AV.s (SV.int IntKind.u8 (1 : Int)), AV.s (SV.ilit IntKind.i64 (1 : Int)), AV.s (SV.int IntKind.i64 (-1 : Int)), AV.s (SV.int IntKind.u8 (0 : Int)), AV.s (SV.str ByteArray.empty), AV.s (SV.str ByteArray.empty), AV.s (SV.str ByteArray.empty), AV.s (SV.bool false), AV.s (SV.ro (Con.typ cV [])), AV.s (SV.ro (Con.strs []))] (34 : Nat), AObj.own [AV.s (SV.str ByteArray.empty), AV.s (SV.int IntKind.u8 (2 : Int)), AV.s (SV.ilit IntKind.i64 (1 : Int)), AV.s (SV.int IntKind.i64 (-1 : Int)), AV.s (SV.ilit IntKind.u8 (4 : Int)), AV.s (SV.str ky), AV.s (SV.str ByteArray.empty), AV.s (SV.str ByteArray.empty), AV.s (SV.bool false), AV.s (SV.ro (Con.typ cV [])), AV.s (SV.ro (Con.strs []))] (34 : Nat), AObj.own [AV.s (SV.str ByteArray.empty), AV.s (SV.int IntKind.u8 (15 : Int)), AV.s (SV.int IntKind.i64 (-1 : Int)), AV.s (SV.ilit IntKind.i64 (1 : Int)), AV.s (SV.ilit IntKind.u8 (4 : Int)), AV.s (SV.str bo), AV.s (SV.str ByteArray.empty), AV.s (SV.str ByteArray.empty), AV.s (SV.blit true), AV.s (SV.ro (Con.typ cV [])), AV.s (SV.ro (Con.strs []))] (34 : Nat), AObj.vec (Con.typ cN [nKo ByteArray.empty (1 : Int) (1 : Int) (-1 : Int) (0 : Int) ByteArray.empty ByteArray.empty ByteArray.empty false [] [], nKo ByteArray.empty (2 : Int) (1 : Int) (-1 : Int) (4 : Int) ky ByteArray.empty ByteArray.empty false [] [], nKo ByteArray.empty (15 : Int) (-1 : Int) (1 : Int) (4 : Int) bo ByteArray.empty ByteArray.empty true [] []]) (34 : Nat), AObj.vec (Con.typ cN ([nKo ByteArray.empty (1 : Int) (-1 : Int) (-1 : Int) (0 : Int) ByteArray.empty ByteArray.empty ByteArray.empty false [] [], nKo ByteArray.empty (11 : Int) (-1 : Int) (-1 : Int) (0 : Int) ByteArray.empty ByteArray.empty ByteArray.empty false [] [], nKo ByteArray.empty (2 : Int) (-1 : Int) (-1 : Int) (0 : Int) ByteArray.empty ByteArray.empty ByteArray.empty false [] []] ++ [nKo ByteArray.empty (1 : Int) (1 : Int) (-1 : Int) (0 : Int) ByteArray.empty ByteArray.empty ByteArray.empty false [] [], nKo ByteArray.empty (2 : Int) (1 : Int) (-1 : Int) (4 : Int) ky ByteArray.empty ByteArray.empty false [] [], nKo ByteArray.empty (15 : Int) (-1 : Int) (1 : Int) (4 : Int) bo ByteArray.empty ByteArray.empty true [] []])) (34 : Nat), AObj.vec (Con.typ cF [fKo (3 : Int) (4 : Int) ByteArray.empty false, fKo (5 : Int) (2 : Int) ByteArray.empty false]) (46 : Nat), AObj.vec (Con.typ cF (lnF ([nKo ByteArray.empty (1 : Int) (-1 : Int) (-1 : Int) (0 : Int) ByteArray.empty ByteArray.empty ByteArray.empty false [] [], nKo ByteArray.empty (11 : Int) (-1 : Int) (-1 : Int) (0 : Int) ByteArray.empty ByteArray.empty ByteArray.empty false [] [], nKo ByteArray.empty (2 : Int) (-1 : Int) (-1 : Int) (0 : Int) ByteArray.empty ByteArray.empty ByteArray.empty false [] []].length - (1 : Nat)) ++ [fKo (3 : Int) (4 : Int) ByteArray.empty false, fKo (5 : Int) (2 : Int) ByteArray.empty false])) (46 : Nat)] (AV.agg [AV.s (SV.str (ByteArray.mk #[(112 : UInt8)])), AV.emp, AV.vec (8 : Nat), AV.vec (10 : Nat)])))))) := by kernel_rfl
end Ds

namespace Ds
open Go Go.Sx Go.Proofs Lf
abbrev bPp : ByteArray := ⟨#[112]⟩
def failN (ky bo : ByteArray) : Ns := [nKo ByteArray.empty 1 (-1) (-1) 0 ByteArray.empty ByteArray.empty ByteArray.empty false [] [], nKo ByteArray.empty 11 (-1) (-1) 0 ByteArray.empty ByteArray.empty ByteArray.empty false [] [], nKo ByteArray.empty 2 (-1) (-1) 0 ByteArray.empty ByteArray.empty ByteArray.empty false [] [],
  nKo ByteArray.empty 1 1 (-1) 0 ByteArray.empty ByteArray.empty ByteArray.empty false [] [], nKo ByteArray.empty 2 1 (-1) 4 ky ByteArray.empty ByteArray.empty false [] [], nKo ByteArray.empty 15 (-1) 1 4 bo ByteArray.empty ByteArray.empty true [] []]
def failFs : Fs := [fOf 0 1, fOf 1 2, fOf 3 4, fOf 5 2]
abbrev FFa : AL [tStr, tStr] → AL [tPrr] := fun (ky, bo, ()) => ((bPp, [], failN ky bo, failFs, ()), ())
abbrev sumFa := sumR [tStr, tStr] [tPrr] (fun _ => []) FFa
theorem tabFa_ok {Z : Glob} : tabFa.Ok P Z := Tab.Ok.cons nk_ok.sumR (Tab.Ok.cons (ln_ok.sum mLn) Tab.Ok.nil)
theorem fail_ok {Z : Glob} : FnOk P Z 10 [tStr, tStr] [tPrr] (fun _ => []) FFa := by
  refine fnOk_of_safe Try.func10 (by kernel_rfl) (by kernel_rfl) ?_
  rintro ⟨(ky : ByteArray), (bo : ByteArray), ⟨⟩⟩ _ _ X hX hz
  show Safe P 10 X (Ends [tPrr] ((bPp, [], failN ky bo, failFs, ()), ())) _
  exact go hz hX tabFa_ok Try.func10 (trFa ky bo) ⟨rfl, rfl, ⟨Nat.le_of_ble_eq_true rfl, Nat.le_of_ble_eq_true rfl⟩, Nat.le_of_ble_eq_true rfl, Nat.le_of_ble_eq_true rfl, ends_eq _ rfl (by kernel_rfl)⟩
noncomputable def tabW (C1 C2 : Cnt) : Tab := [(14, sumNk), (13, sumLn), (10, sumFa), (12, sumHa), (11, sumOf [tPr, tInt, tInt, tInt] [tBool] (fun ((a, vs, ns, fs, ()), n, _, _, ()) => [StOk 40 [(a, vs, ns, fs, ())] a n (C1 [(a, vs, ns, fs, ())] a n), StOk 57 [(a, vs, ns, fs, ())] a n (C2 [(a, vs, ns, fs, ())] a n)])
    (fun ((a, vs, ns, fs, ()), n, want, al, ()) => ((C1 [(a, vs, ns, fs, ())] a n == want) && (C2 [(a, vs, ns, fs, ())] a n == al), ()))), (9, sumCi)]
def nsW : List (Nat × Norm) := [(midKey + 5000, ⟨[], [1, 2, 3, 4, 5], 0, [(0, 1, true, .typ cV [], eV), (0, 2, true, .typ cN [], eN), (0, 3, true, .typ cF [], eF), (1, 1, true, .typ cV [], eV), (1, 2, true, .typ cN [], eN), (1, 3, true, .typ cF [], eF)]⟩)]
theorem trW (C1 C2 : Cnt) : run P (tabW C1 C2).sum Try.f5 nsW (start Try.f5 [] []) =
  Tree.need (Slf (some [AV.s (SV.str (ByteArray.mk #[(97 : UInt8)])), AV.vec (0 : Nat)]))
  (Tree.need (Slf (some [AObj.vec (Con.typ cN [nKo ByteArray.empty (1 : Int) (-1 : Int) (-1 : Int) (0 : Int) ByteArray.empty ByteArray.empty ByteArray.empty false [] [], nKo ByteArray.empty (3 : Int) (-1 : Int) (-1 : Int) (0 : Int) ByteArray.empty ByteArray.empty ByteArray.empty false [] [], nKo ByteArray.empty (2 : Int) (-1 : Int) (-1 : Int) (0 : Int) ByteArray.empty ByteArray.empty ByteArray.empty false [] []]) (34 : Nat)]))
    (Tree.need ((1 : Nat) ≤ [nKo ByteArray.empty (1 : Int) (-1 : Int) (-1 : Int) (0 : Int) ByteArray.empty ByteArray.empty ByteArray.empty false [] [], nKo ByteArray.empty (3 : Int) (-1 : Int) (-1 : Int) (0 : Int) ByteArray.empty ByteArray.empty ByteArray.empty false [] [], nKo ByteArray.empty (2 : Int) (-1 : Int) (-1 : Int) (0 : Int) ByteArray.empty ByteArray.empty ByteArray.empty false [] []].length ∧ [nKo ByteArray.empty (1 : Int) (-1 : Int) (-1 : Int) (0 : Int) ByteArray.empty ByteArray.empty ByteArray.empty false [] [], nKo ByteArray.empty (3 : Int) (-1 : Int) (-1 : Int) (0 : Int) ByteArray.empty ByteArray.empty ByteArray.empty false [] [], nKo ByteArray.empty (2 : Int) (-1 : Int) (-1 : Int) (0 : Int) ByteArray.empty ByteArray.empty ByteArray.empty false [] []].length ≤ (1000 : Nat))
      (Tree.need (Slf (some [AV.s (SV.str (ByteArray.mk #[(98 : UInt8)])), AV.vec (0 : Nat)]))
        (Tree.need (Slf (some [AObj.vec (Con.typ cN [nKo ByteArray.empty (1 : Int) (-1 : Int) (-1 : Int) (0 : Int) ByteArray.empty ByteArray.empty ByteArray.empty false [] [], nKo ByteArray.empty (4 : Int) (-1 : Int) (-1 : Int) (0 : Int) ByteArray.empty ByteArray.empty ByteArray.empty false [] [], nKo ByteArray.empty (4 : Int) (-1 : Int) (-1 : Int) (0 : Int) ByteArray.empty ByteArray.empty ByteArray.empty false [] []]) (34 : Nat)]))
          (Tree.need ((1 : Nat) ≤ [nKo ByteArray.empty (1 : Int) (-1 : Int) (-1 : Int) (0 : Int) ByteArray.empty ByteArray.empty ByteArray.empty false [] [], nKo ByteArray.empty (4 : Int) (-1 : Int) (-1 : Int) (0 : Int) ByteArray.empty ByteArray.empty ByteArray.empty false [] [], nKo ByteArray.empty (4 : Int) (-1 : Int) (-1 : Int) (0 : Int) ByteArray.empty ByteArray.empty ByteArray.empty false [] []].length ∧ [nKo ByteArray.empty (1 : Int) (-1 : Int) (-1 : Int) (0 : Int) ByteArray.empty ByteArray.empty ByteArray.empty false [] [], nKo ByteArray.empty (4 : Int) (-1 : Int) (-1 : Int) (0 : Int) ByteArray.empty ByteArray.empty ByteArray.empty false [] [], nKo ByteArray.empty (4 : Int) (-1 : Int) (-1 : Int) (0 : Int) ByteArray.empty ByteArray.empty ByteArray.empty false [] []].length ≤ (1000 : Nat)) (Tree.need (((2 : Nat) + (1 : Nat)) * (40 : Nat) ≤ (140737488355328 : Nat)) (Tree.need (smallPs [(bPp, [], failN (ByteArray.mk #[(101 : UInt8)]) (ByteArray.mk #[(101 : UInt8)]), failFs, ())]) (Tree.need ((0 : Nat) ≤ (1000000 : Nat)) (Tree.at (Cfg.mk (sl (62 : Nat) [((1 : Nat), AV.ptr (0 : Nat) (0 : Nat)), ((2 : Nat), AV.ptr (1 : Nat) (0 : Nat)), ((3 : Nat), AV.ptr (2 : Nat) (0 : Nat)), ((4 : Nat), AV.vec (3 : Nat)), ((5 : Nat), AV.s (SV.bool true))]) [AObj.own [AV.s (SV.str (ByteArray.mk #[(97 : UInt8)])), AV.s (SV.ro (Con.typ cV [])), AV.s (SV.ro (Con.typ cN [nKo ByteArray.empty (1 : Int) (-1 : Int) (-1 : Int) (0 : Int) ByteArray.empty ByteArray.empty ByteArray.empty false [] [], nKo ByteArray.empty (3 : Int) (-1 : Int) (-1 : Int) (0 : Int) ByteArray.empty ByteArray.empty ByteArray.empty false [] [], nKo ByteArray.empty (2 : Int) (-1 : Int) (-1 : Int) (0 : Int) ByteArray.empty ByteArray.empty ByteArray.empty false [] []])), AV.s (SV.ro (Con.typ cF (lnF ([nKo ByteArray.empty (1 : Int) (-1 : Int) (-1 : Int) (0 : Int) ByteArray.empty ByteArray.empty ByteArray.empty false [] [], nKo ByteArray.empty (3 : Int) (-1 : Int) (-1 : Int) (0 : Int) ByteArray.empty ByteArray.empty ByteArray.empty false [] [], nKo ByteArray.empty (2 : Int) (-1 : Int) (-1 : Int) (0 : Int) ByteArray.empty ByteArray.empty ByteArray.empty false [] []].length - (1 : Nat)))))] (26 : Nat), AObj.own [AV.s (SV.str (ByteArray.mk #[(98 : UInt8)])), AV.s (SV.ro (Con.typ cV [])), AV.s (SV.ro (Con.typ cN [nKo ByteArray.empty (1 : Int) (-1 : Int) (-1 : Int) (0 : Int) ByteArray.empty ByteArray.empty ByteArray.empty false [] [], nKo ByteArray.empty (4 : Int) (-1 : Int) (-1 : Int) (0 : Int) ByteArray.empty ByteArray.empty ByteArray.empty false [] [], nKo ByteArray.empty (4 : Int) (-1 : Int) (-1 : Int) (0 : Int) ByteArray.empty ByteArray.empty ByteArray.empty false [] []])), AV.s (SV.ro (Con.typ cF (lnF ([nKo ByteArray.empty (1 : Int) (-1 : Int) (-1 : Int) (0 : Int) ByteArray.empty ByteArray.empty ByteArray.empty false [] [], nKo ByteArray.empty (4 : Int) (-1 : Int) (-1 : Int) (0 : Int) ByteArray.empty ByteArray.empty ByteArray.empty false [] [], nKo ByteArray.empty (4 : Int) (-1 : Int) (-1 : Int) (0 : Int) ByteArray.empty ByteArray.empty ByteArray.empty false [] []].length - (1 : Nat)) ++ [fKo (2 : Int) (1 : Int) ByteArray.empty false])))] (26 : Nat), AObj.own [AV.s (SV.str (pN (getP [(bPp, [], failN (ByteArray.mk #[(101 : UInt8)]) (ByteArray.mk #[(101 : UInt8)]), failFs, ())] (ByteArray.mk #[(112 : UInt8)])))), AV.s (SV.int IntKind.i64 (5 : Int))] (38 : Nat), AObj.vec (Con.typ cSi (handF [(bPp, [], failN (ByteArray.mk #[(101 : UInt8)]) (ByteArray.mk #[(101 : UInt8)]), failFs, ())] [] (ByteArray.mk #[(112 : UInt8)]) (4 : Int) (4 : Int) (ByteArray.mk #[(101 : UInt8)])).snd.fst) (38 : Nat)] (cal Try.f5 (5 : Nat) (0 : Nat)) (Stk.mk none false (0 : Nat) [] (5 : Nat)))))))))))) := by kernel_rfl
noncomputable def cW (nA nB : Ns) (fA' fB' : Fs) (h : ByteArray) (l : Ss) : Cfg := ⟨sl 62 [(1, .ptr 0 0), (2, .ptr 1 0), (3, .ptr 2 0), (4, .vec 3), (5, .s (.bool true))], [obPr bA [] nA fA', obPr bB [] nB fB', .own [.s (.str h), avI 5] eSi, .vec (.typ cSi l) eSi], cal Try.f5 5 0, ⟨none, false, 0, [], 5⟩⟩
theorem trW5 (C1 C2 : Cnt) (nA nB : Ns) (fA' fB' : Fs) (h : ByteArray) (l : Ss) : run P (tabW C1 C2).sum Try.f5 nsW (cW nA nB fA' fB' h l) =
  Tree.need (StOk (40 : FuncId) [(bA, [], nA, fA', ())] bA (0 : Int) (C1 [(bA, [], nA, fA', ())] bA (0 : Int)))
  (Tree.need (StOk (57 : FuncId) [(bA, [], nA, fA', ())] bA (0 : Int) (C2 [(bA, [], nA, fA', ())] bA (0 : Int)))
    (Tree.ite (C1 [(bA, [], nA, fA', ())] bA (0 : Int) == (2 : Int) && C2 [(bA, [], nA, fA', ())] bA (0 : Int) == (1 : Int))
      (Tree.need (StOk (40 : FuncId) [(bA, [], nA, fA', ())] bA (1 : Int) (C1 [(bA, [], nA, fA', ())] bA (1 : Int))) (Tree.need (StOk (57 : FuncId) [(bA, [], nA, fA', ())] bA (1 : Int) (C2 [(bA, [], nA, fA', ())] bA (1 : Int))) (Tree.ite (C1 [(bA, [], nA, fA', ())] bA (1 : Int) == (1 : Int) && C2 [(bA, [], nA, fA', ())] bA (1 : Int) == (1 : Int)) (Tree.need (StOk (40 : FuncId) [(bB, [], nB, fB', ())] bB (1 : Int) (C1 [(bB, [], nB, fB', ())] bB (1 : Int))) (Tree.need (StOk (57 : FuncId) [(bB, [], nB, fB', ())] bB (1 : Int) (C2 [(bB, [], nB, fB', ())] bB (1 : Int))) (Tree.ite (C1 [(bB, [], nB, fB', ())] bB (1 : Int) == (2001 : Int) && C2 [(bB, [], nB, fB', ())] bB (1 : Int) == (2001 : Int)) (Tree.need (List.length nB ≤ (400000 : Nat)) (Tree.need (List.length fB' ≤ (400000 : Nat)) (Tree.ite (circB nB fB') (Tree.need (List.length nA ≤ (400000 : Nat)) (Tree.need (List.length fA' ≤ (400000 : Nat)) (Tree.ite (!circB nA fA') (Tree.ite true (Tree.ite (decide (h = ByteArray.mk #[(112 : UInt8)]) && ((5 : Int) == (5 : Int) && true)) (Tree.ret [AObj.own [AV.s (SV.str bA), AV.s (SV.ro (Con.typ cV [])), AV.s (SV.ro (Con.typ cN nA)), AV.s (SV.ro (Con.typ cF fA'))] (26 : Nat), AObj.own [AV.s (SV.str bB), AV.s (SV.ro (Con.typ cV [])), AV.s (SV.ro (Con.typ cN nB)), AV.s (SV.ro (Con.typ cF fB'))] (26 : Nat), AObj.own [AV.s (SV.str h), AV.s (SV.int IntKind.i64 (5 : Int))] (38 : Nat), AObj.vec (Con.typ cSi l) (38 : Nat)] (AV.s (SV.bool ((↑(List.length l) : Int) == (0 : Int))))) (Tree.ret [AObj.own [AV.s (SV.str bA), AV.s (SV.ro (Con.typ cV [])), AV.s (SV.ro (Con.typ cN nA)), AV.s (SV.ro (Con.typ cF fA'))] (26 : Nat), AObj.own [AV.s (SV.str bB), AV.s (SV.ro (Con.typ cV [])), AV.s (SV.ro (Con.typ cN nB)), AV.s (SV.ro (Con.typ cF fB'))] (26 : Nat), AObj.own [AV.s (SV.str h), AV.s (SV.int IntKind.i64 (5 : Int))] (38 : Nat), AObj.vec (Con.typ cSi l) (38 : Nat)] (AV.s (SV.blit false)))) (Tree.ret [AObj.own [AV.s (SV.str bA), AV.s (SV.ro (Con.typ cV [])), AV.s (SV.ro (Con.typ cN nA)), AV.s (SV.ro (Con.typ cF fA'))] (26 : Nat), AObj.own [AV.s (SV.str bB), AV.s (SV.ro (Con.typ cV [])), AV.s (SV.ro (Con.typ cN nB)), AV.s (SV.ro (Con.typ cF fB'))] (26 : Nat), AObj.own [AV.s (SV.str h), AV.s (SV.int IntKind.i64 (5 : Int))] (38 : Nat), AObj.vec (Con.typ cSi l) (38 : Nat)] (AV.s (SV.blit false)))) (Tree.ret [AObj.own [AV.s (SV.str bA), AV.s (SV.ro (Con.typ cV [])), AV.s (SV.ro (Con.typ cN nA)), AV.s (SV.ro (Con.typ cF fA'))] (26 : Nat), AObj.own [AV.s (SV.str bB), AV.s (SV.ro (Con.typ cV [])), AV.s (SV.ro (Con.typ cN nB)), AV.s (SV.ro (Con.typ cF fB'))] (26 : Nat), AObj.own [AV.s (SV.str h), AV.s (SV.int IntKind.i64 (5 : Int))] (38 : Nat), AObj.vec (Con.typ cSi l) (38 : Nat)] (AV.s (SV.blit false)))))) (Tree.ret [AObj.own [AV.s (SV.str bA), AV.s (SV.ro (Con.typ cV [])), AV.s (SV.ro (Con.typ cN nA)), AV.s (SV.ro (Con.typ cF fA'))] (26 : Nat), AObj.own [AV.s (SV.str bB), AV.s (SV.ro (Con.typ cV [])), AV.s (SV.ro (Con.typ cN nB)), AV.s (SV.ro (Con.typ cF fB'))] (26 : Nat), AObj.own [AV.s (SV.str h), AV.s (SV.int IntKind.i64 (5 : Int))] (38 : Nat), AObj.vec (Con.typ cSi l) (38 : Nat)] (AV.s (SV.blit false)))))) (Tree.ret [AObj.own [AV.s (SV.str bA), AV.s (SV.ro (Con.typ cV [])), AV.s (SV.ro (Con.typ cN nA)), AV.s (SV.ro (Con.typ cF fA'))] (26 : Nat), AObj.own [AV.s (SV.str bB), AV.s (SV.ro (Con.typ cV [])), AV.s (SV.ro (Con.typ cN nB)), AV.s (SV.ro (Con.typ cF fB'))] (26 : Nat), AObj.own [AV.s (SV.str h), AV.s (SV.int IntKind.i64 (5 : Int))] (38 : Nat), AObj.vec (Con.typ cSi l) (38 : Nat)] (AV.s (SV.blit false)))))) (Tree.ret [AObj.own [AV.s (SV.str bA), AV.s (SV.ro (Con.typ cV [])), AV.s (SV.ro (Con.typ cN nA)), AV.s (SV.ro (Con.typ cF fA'))] (26 : Nat), AObj.own [AV.s (SV.str bB), AV.s (SV.ro (Con.typ cV [])), AV.s (SV.ro (Con.typ cN nB)), AV.s (SV.ro (Con.typ cF fB'))] (26 : Nat), AObj.own [AV.s (SV.str h), AV.s (SV.int IntKind.i64 (5 : Int))] (38 : Nat), AObj.vec (Con.typ cSi l) (38 : Nat)] (AV.s (SV.blit false))))))
      (Tree.ret [AObj.own [AV.s (SV.str bA), AV.s (SV.ro (Con.typ cV [])), AV.s (SV.ro (Con.typ cN nA)), AV.s (SV.ro (Con.typ cF fA'))] (26 : Nat), AObj.own [AV.s (SV.str bB), AV.s (SV.ro (Con.typ cV [])), AV.s (SV.ro (Con.typ cN nB)), AV.s (SV.ro (Con.typ cF fB'))] (26 : Nat), AObj.own [AV.s (SV.str h), AV.s (SV.int IntKind.i64 (5 : Int))] (38 : Nat), AObj.vec (Con.typ cSi l) (38 : Nat)] (AV.s (SV.blit false))))) := by kernel_rfl
def nsA : Ns := [nOf 1, nOf 3, nOf 2]
def fsA : Fs := [fOf 0 1, fOf 1 2]
def nsB : Ns := [nOf 1, nOf 4, nOf 4]
def fsB : Fs := [fOf 0 1, fOf 1 2, fOf 2 1]
abbrev bE : ByteArray := ⟨#[101]⟩
abbrev bF : ByteArray := ⟨#[102]⟩
abbrev bQ : ByteArray := ⟨#[113]⟩
/-- The steps of the examples. -/
def c1F : Cnt := fun ps nm k => if nm = bA then (if k == 0 then 2 else 1) else if nm = bB then 2001 else if nm = bQ then 5 else if k == 0 then 7 else if k == 1 then 6 else if k == 4 then (if nY (el (pO (getP ps nm)) 5) = bF then 1 else 2) else 1
def c2F : Cnt := fun _ nm k => if nm = bA then 1 else if nm = bB then 2001 else if nm = bQ then 0 else if k == 0 then 6 else if k == 1 then 1 else 0
def closedB (thr : CL cN → Bool) (ns : Ns) (fs : Fs) (x : Int) (S : List Int) : Bool := (comesL ns fs x).all (fun z => S.contains z) && S.all fun w => !inN ns w || !thr (nodeAt ns w) || (comesL ns fs w).all fun z => S.contains z
theorem mem_comes {ns : Ns} {fs : Fs} {n z : Int} : z ∈ comesF ns fs n ↔ inN ns n = true ∧ z ∈ comesL ns fs n := by
  unfold comesF
  cases h : inN ns n with
  | true => simp [mem_cmpF, (srtZ_perm _).mem_iff]
  | false => simp
theorem not_reach {thr : CL cN → Bool} {ns : Ns} {fs : Fs} {x y : Int} (S : List Int) (h : closedB thr ns fs x S = true) (hy : S.contains y = false) : reachB thr ns fs x y = false := by
  unfold closedB at h
  rw [Bool.and_eq_true, List.all_eq_true, List.all_eq_true] at h
  obtain ⟨h1, h2⟩ := h
  have key : ∀ z, Fr thr ns fs x z → z ∈ S := by
    intro z hz
    induction hz with
    | a hz => exact List.contains_iff_mem.1 (h1 _ (mem_comes.1 hz).2)
    | b hw hi ht hz ih =>
      have := h2 _ ih
      rw [hi, ht] at this
      simp only [Bool.not_true, Bool.false_or, List.all_eq_true] at this
      exact List.contains_iff_mem.1 (this _ (mem_comes.1 hz).2)
  cases e : reachB thr ns fs x y with
  | false => rfl
  | true =>
    have := List.contains_iff_mem.2 (key y (reachB_iff.1 e).1)
    rw [hy] at this; cases this
theorem circ_no {ns : Ns} {fs : Fs} (S : Nat → List Int) (h : ((List.range ns.length).all fun i => !nwF (el ns (i : Int)) || (closedB nwF ns fs (i : Int) (S i) && !(S i).contains (i : Int))) = true) : circB ns fs = false := by
  unfold circB
  rw [List.any_eq_false]
  intro i hi
  have := (List.all_eq_true.1 h) i hi
  unfold pCi
  cases hn : nwF (el ns (i : Int)) with
  | false => simp
  | true =>
    rw [hn] at this
    simp only [Bool.not_true, Bool.false_or, Bool.and_eq_true, Bool.not_eq_true'] at this
    rw [not_reach (S i) this.1 this.2]
    simp
theorem circ_yes {ns : Ns} {fs : Fs} {i : Nat} (hi : i < ns.length) (hn : nwF (el ns (i : Int)) = true) (h : Fr nwF ns fs (i : Int) (i : Int)) : circB ns fs = true := by
  unfold circB
  refine List.any_eq_true.2 ⟨i, List.mem_range.2 hi, ?_⟩
  unfold pCi
  rw [hn, reachB_iff.2 ⟨h, decide_eq_true ⟨by omega, by omega⟩⟩]
  rfl
theorem fr_a {thr : CL cN → Bool} {ns : Ns} {fs : Fs} {x z : Int} (h1 : inN ns x = true) (h : (comesL ns fs x).contains z = true) : Fr thr ns fs x z := .a (mem_comes.2 ⟨h1, List.contains_iff_mem.1 h⟩)
theorem fr_b {thr : CL cN → Bool} {ns : Ns} {fs : Fs} {x w z : Int} (k : Fr thr ns fs x w) (h1 : inN ns w = true) (ht : thr (nodeAt ns w) = true) (h : (comesL ns fs w).contains z = true) : Fr thr ns fs x z := .b k h1 ht (mem_comes.2 ⟨h1, List.contains_iff_mem.1 h⟩)
theorem circ_A : circB nsA fsA = false := circ_no (fun i => if i == 0 then [1] else []) (by kernel_rfl)
theorem circ_B : circB nsB fsB = true := circ_yes (i := 1) (Nat.le_of_ble_eq_true rfl) (by kernel_rfl) (fr_b (w := 2) (fr_a (by kernel_rfl) (by kernel_rfl)) (by kernel_rfl) (by kernel_rfl) (by kernel_rfl))
theorem tabW_ok {Z : Glob} {C1 C2 : Cnt} : (tabW C1 C2).Ok P Z := Tab.Ok.cons nk_ok.sumR (Tab.Ok.cons (ln_ok.sum mLn) (Tab.Ok.cons fail_ok.sumR (Tab.Ok.cons hand_ok.sumR (Tab.Ok.cons (FnOk.sum (Ds.step_ok C1 C2)) (Tab.Ok.cons circle_ok.sum Tab.Ok.nil)))))
theorem stok_c {g : FuncId} {C : Cnt} {ps : Ps} {nm : ByteArray} {k : Int} (m : Int) (e : C ps nm k = m) (h : StOk g ps nm k m) : StOk g ps nm k (C ps nm k) := by rw [e]; exact h
theorem works_ok {Z : Glob} : FnOk P Z 5 [] [tBool] (fun _ => []) (fun () => (true, ())) := by
  refine fnOk_of_safe Try.func5 (by kernel_rfl) (by kernel_rfl) ?_
  rintro ⟨⟩ _ _ X hX hz
  show Safe P 5 X (Ends [tBool] (true, ())) _
  refine go hz hX (tabW_ok (C1 := c1F) (C2 := c2F)) Try.func5 (trW c1F c2F) ⟨rfl, rfl, ⟨Nat.le_of_ble_eq_true rfl, Nat.le_of_ble_eq_true rfl⟩, rfl, rfl, ⟨Nat.le_of_ble_eq_true rfl, Nat.le_of_ble_eq_true rfl⟩, Nat.le_of_ble_eq_true rfl, ?_, Nat.zero_le _, ?_⟩
  · intro p hp
    rcases List.mem_singleton.1 hp with rfl
    exact ⟨Nat.le_of_ble_eq_true rfl, Nat.le_of_ble_eq_true rfl⟩
  show Safe P 5 X (Ends [tBool] (true, ())) (cW nsA nsB fsA fsB bPp [])
  refine go hz hX (tabW_ok (C1 := c1F) (C2 := c2F)) Try.func5 (trW5 c1F c2F nsA nsB fsA fsB bPp []) ?_
  have f2 : ∀ {l : Fs}, l = fsA ∨ l = fsB → l.length ≤ 400000 := fun h => by rcases h with rfl | rfl <;> exact Nat.le_of_ble_eq_true rfl
  refine ⟨stok_c 2 (by kernel_rfl) a_s0, stok_c 1 (by kernel_rfl) a_a0, yes_and (by kernel_rfl) ⟨stok_c 1 (by kernel_rfl) a_s1, stok_c 1 (by kernel_rfl) a_a1, yes_and (by kernel_rfl) ⟨stok_c 2001 (by kernel_rfl) circle_steps, stok_c 2001 (by kernel_rfl) circle_along, yes_and (by kernel_rfl) ⟨Nat.le_of_ble_eq_true rfl, f2 (.inr rfl), yes_and circ_B ⟨Nat.le_of_ble_eq_true rfl, f2 (.inl rfl), yes_and (by rw [circ_A]; rfl) (yes_and rfl (yes_and (by kernel_rfl) (ends_eq _ rfl (by kernel_rfl))))⟩⟩⟩⟩⟩

end Ds

namespace Ds
open Go Go.Sx Go.Proofs Lf
abbrev sNq (b : Prop) (ps : Ps) (cs : Ss) (nm : ByteArray) (k n m : Int) : Spec Unit := ⟨fun _ => [.ptr 0 0, avSs cs, .agg [.s (.str nm), avI k]], fun _ => [obCo ps n], fun _ => [b], fun _ => [obCo ps m], fun _ => .tup []⟩
abbrev sRa (b : Prop) (ps : Ps) (cs : Ss) (nm : ByteArray) (k : Int) (x : CL cN) (n m : Int) : Spec Unit := ⟨fun _ => [.ptr 0 0, avSs cs, .agg [.s (.str nm), avI k], avNo x], fun _ => [obCo ps n], fun _ => [b], fun _ => [obCo ps m], fun _ => .tup []⟩
abbrev cNil : Con := .typ cSi []
abbrev sumNn (b : Prop) (ps : Ps) (cs : Ss) (nm : ByteArray) (k n m : Int) := sumFrz 1 cNil (sumS (sNq b ps cs nm k n m) mX)
def tabP3 (b b2 : Prop) (ps : Ps) (cs : Ss) (nm : ByteArray) (k : Int) (x : CL cN) (cs' : Ss) (nm' : ByteArray) (k' n m : Int) : Tab := [(64, sumOne), (32, sumDf), (25, sumNd), (29, sumWa), (17, sumSo), (16, sumLk), (41, sumNn b ps cs' nm' k' n m), (65, sumS (sRa b2 ps cs nm k x n m) mX)]
def nsP3 : List (Nat × Norm) := [(midKey + 25003, ⟨[], [164, 165, 166], 1, []⟩)]
def tabR3 (b b2 : Prop) (ps : Ps) (cs' : Ss) (nm' : ByteArray) (k' n m : Int) : Tab := [(64, sumOne), (32, sumDf), (25, sumNd), (17, sumSo), (12, sumHa), (41, sumNn b ps cs' nm' k' n m), (58, sumNn b2 ps cs' nm' k' n m)]
theorem trP3 (b b2 : Prop) (ps : Ps) (n0 : Int) (cs : Ss) (nm : ByteArray) (k : Int) (x : CL cN) (cs' : Ss) (nm' : ByteArray) (k' n m : Int) : run P (tabP3 b b2 ps cs nm k x cs' nm' k' n m).sum Try.f41 nsP3 (start Try.f41 [.ptr 0 0, avSs cs, .agg [.s (.str nm), avI k]] [obCo ps n0]) =
  Tree.need (Slf (some [AV.ptr (0 : Nat) (0 : Nat)]))
  (Tree.need (Slf (some [AObj.own [AV.s (SV.ro (Con.typ cP ps)), AV.s (SV.int IntKind.i64 n0)] (82 : Nat)]))
    (Tree.need ((0 : Int) ≤ n0 ∧ n0 < (2000 : Int))
      (Tree.ite (!inN (pO (getP ps nm)) k) (Tree.ret [AObj.own [AV.s (SV.ro (Con.typ cP ps)), AV.s (SV.int IntKind.i64 (n0 + (1 : Int)))] (82 : Nat), AObj.own [AV.s (SV.str nm), AV.s (SV.int IntKind.i64 k)] (38 : Nat), AObj.own [AV.s (SV.str (pN (getP ps nm))), AV.s (SV.ro (Con.typ cV (pV (getP ps nm)))), AV.s (SV.ro (Con.typ cN (pO (getP ps nm)))), AV.s (SV.ro (Con.typ cF (pF (getP ps nm))))] (26 : Nat), AObj.own [AV.s (SV.str (nN (ndA (pO (getP ps nm)) k))), AV.s (SV.int IntKind.u8 (nK (ndA (pO (getP ps nm)) k))), AV.s (SV.int IntKind.i64 (nI (ndA (pO (getP ps nm)) k))), AV.s (SV.int IntKind.i64 (nO (ndA (pO (getP ps nm)) k))), AV.s (SV.int IntKind.u8 (nE (ndA (pO (getP ps nm)) k))), AV.s (SV.str (nY (ndA (pO (getP ps nm)) k))), AV.s (SV.str (nT (ndA (pO (getP ps nm)) k))), AV.s (SV.str (nS (ndA (pO (getP ps nm)) k))), AV.s (SV.bool (nB (ndA (pO (getP ps nm)) k))), AV.s (SV.ro (Con.typ cV (nV (ndA (pO (getP ps nm)) k)))), AV.s (SV.ro (Con.strs (nZ (ndA (pO (getP ps nm)) k))))] (34 : Nat)] (AV.tup []))
        (Tree.ite (nK (ndA (pO (getP ps nm)) k) == (3 : Int) || nK (ndA (pO (getP ps nm)) k) == (10 : Int) || nK (ndA (pO (getP ps nm)) k) == (6 : Int) && (nE (ndA (pO (getP ps nm)) k) == (1 : Int) || nE (ndA (pO (getP ps nm)) k) == (2 : Int) || nE (ndA (pO (getP ps nm)) k) == (3 : Int))) (Tree.ret [AObj.own [AV.s (SV.ro (Con.typ cP ps)), AV.s (SV.int IntKind.i64 (n0 + (1 : Int)))] (82 : Nat), AObj.own [AV.s (SV.str nm), AV.s (SV.int IntKind.i64 k)] (38 : Nat), AObj.own [AV.s (SV.str (pN (getP ps nm))), AV.s (SV.ro (Con.typ cV (pV (getP ps nm)))), AV.s (SV.ro (Con.typ cN (pO (getP ps nm)))), AV.s (SV.ro (Con.typ cF (pF (getP ps nm))))] (26 : Nat), AObj.own [AV.s (SV.str (nN (ndA (pO (getP ps nm)) k))), AV.s (SV.int IntKind.u8 (nK (ndA (pO (getP ps nm)) k))), AV.s (SV.int IntKind.i64 (nI (ndA (pO (getP ps nm)) k))), AV.s (SV.int IntKind.i64 (nO (ndA (pO (getP ps nm)) k))), AV.s (SV.int IntKind.u8 (nE (ndA (pO (getP ps nm)) k))), AV.s (SV.str (nY (ndA (pO (getP ps nm)) k))), AV.s (SV.str (nT (ndA (pO (getP ps nm)) k))), AV.s (SV.str (nS (ndA (pO (getP ps nm)) k))), AV.s (SV.bool (nB (ndA (pO (getP ps nm)) k))), AV.s (SV.ro (Con.typ cV (nV (ndA (pO (getP ps nm)) k)))), AV.s (SV.ro (Con.strs (nZ (ndA (pO (getP ps nm)) k))))] (34 : Nat)] (AV.tup []))
          (Tree.ite (nK (ndA (pO (getP ps nm)) k) == (11 : Int)) (Tree.need (Slf (some [AV.ptr (0 : Nat) (0 : Nat)])) (Tree.need (Slf (some [AObj.own [AV.s (SV.ro (Con.typ cP ps)), AV.s (SV.int IntKind.i64 (n0 + (1 : Int)))] (82 : Nat)])) (Tree.need ((0 : Int) ≤ n0 + (1 : Int) ∧ n0 + (1 : Int) < (2000 : Int)) (Tree.need ((pO (getP ps nm)).length ≤ (1000000 : Nat)) (Tree.ite (hasSt (pO (getP ps nm)) k) (Tree.need (some [AV.ptr (0 : Nat) (0 : Nat), AV.s (SV.ro (Con.typ cSi cs)), AV.agg [AV.s (SV.str nm), AV.s (SV.int IntKind.i64 (startF (pO (getP ps nm)) k))]] = some [AV.ptr (0 : Nat) (0 : Nat), AV.s (SV.ro (Con.typ cSi cs')), AV.agg [AV.s (SV.str nm'), AV.s (SV.int IntKind.i64 k')]]) (Tree.need (some [AObj.own [AV.s (SV.ro (Con.typ cP ps)), AV.s (SV.int IntKind.i64 (n0 + (1 : Int) + (1 : Int)))] (82 : Nat)] = some [AObj.own [AV.s (SV.ro (Con.typ cP ps)), AV.s (SV.int IntKind.i64 n)] (82 : Nat)]) (Tree.need b (Tree.at (Cfg.mk (sl (168 : Nat) [((164 : Nat), AV.ptr (0 : Nat) (0 : Nat)), ((165 : Nat), AV.s (SV.ro (Con.typ cSi cs))), ((166 : Nat), AV.agg [AV.s (SV.str nm), AV.s (SV.int IntKind.i64 k)])]) [AObj.own [AV.s (SV.ro (Con.typ cP ps)), AV.s (SV.int IntKind.i64 m)] (82 : Nat)] (cal Try.f41 (25 : Nat) (3 : Nat)) (Stk.mk none false (0 : Nat) [] (25 : Nat))))))) (Tree.at (Cfg.mk (sl (168 : Nat) [((164 : Nat), AV.ptr (0 : Nat) (0 : Nat)), ((165 : Nat), AV.s (SV.ro (Con.typ cSi cs))), ((166 : Nat), AV.agg [AV.s (SV.str nm), AV.s (SV.int IntKind.i64 k)])]) [AObj.own [AV.s (SV.ro (Con.typ cP ps)), AV.s (SV.int IntKind.i64 (n0 + (1 : Int) + (1 : Int)))] (82 : Nat)] (cal Try.f41 (25 : Nat) (3 : Nat)) (Stk.mk none false (0 : Nat) [] (25 : Nat)))))))))
            (Tree.ite (nK (ndA (pO (getP ps nm)) k) == (12 : Int)) (Tree.need (Slf (some [AV.ptr (0 : Nat) (0 : Nat)])) (Tree.need (Slf (some [AObj.own [AV.s (SV.ro (Con.typ cP ps)), AV.s (SV.int IntKind.i64 (n0 + (1 : Int)))] (82 : Nat)])) (Tree.need ((0 : Int) ≤ n0 + (1 : Int) ∧ n0 + (1 : Int) < (2000 : Int)) (Tree.at (Cfg.mk (sl (168 : Nat) [((164 : Nat), AV.ptr (0 : Nat) (0 : Nat)), ((165 : Nat), AV.s (SV.ro (Con.typ cSi cs))), ((166 : Nat), AV.agg [AV.s (SV.str nm), AV.s (SV.int IntKind.i64 k)])]) [AObj.own [AV.s (SV.ro (Con.typ cP ps)), AV.s (SV.int IntKind.i64 (n0 + (1 : Int) + (1 : Int)))] (82 : Nat)] (cal Try.f41 (25 : Nat) (3 : Nat)) (Stk.mk none false (0 : Nat) [] (25 : Nat)))))))
              (Tree.ite (nK (ndA (pO (getP ps nm)) k) == (8 : Int)) (Tree.need (Slf (some [AV.ptr (0 : Nat) (0 : Nat)])) (Tree.need (Slf (some [AObj.own [AV.s (SV.ro (Con.typ cP ps)), AV.s (SV.int IntKind.i64 (n0 + (1 : Int)))] (82 : Nat)])) (Tree.need ((0 : Int) ≤ n0 + (1 : Int) ∧ n0 + (1 : Int) < (2000 : Int)) (Tree.at (Cfg.mk (sl (168 : Nat) [((164 : Nat), AV.ptr (0 : Nat) (0 : Nat)), ((165 : Nat), AV.s (SV.ro (Con.typ cSi cs))), ((166 : Nat), AV.agg [AV.s (SV.str nm), AV.s (SV.int IntKind.i64 k)])]) [AObj.own [AV.s (SV.ro (Con.typ cP ps)), AV.s (SV.int IntKind.i64 (n0 + (1 : Int) + (1 : Int)))] (82 : Nat)] (cal Try.f41 (25 : Nat) (3 : Nat)) (Stk.mk none false (0 : Nat) [] (25 : Nat)))))))
                (Tree.ite (nK (ndA (pO (getP ps nm)) k) == (9 : Int)) (Tree.need (Slf (some [AV.ptr (0 : Nat) (0 : Nat)])) (Tree.need (Slf (some [AObj.own [AV.s (SV.ro (Con.typ cP ps)), AV.s (SV.int IntKind.i64 (n0 + (1 : Int)))] (82 : Nat)])) (Tree.need ((0 : Int) ≤ n0 + (1 : Int) ∧ n0 + (1 : Int) < (2000 : Int)) (Tree.at (Cfg.mk (sl (168 : Nat) [((164 : Nat), AV.ptr (0 : Nat) (0 : Nat)), ((165 : Nat), AV.s (SV.ro (Con.typ cSi cs))), ((166 : Nat), AV.agg [AV.s (SV.str nm), AV.s (SV.int IntKind.i64 k)])]) [AObj.own [AV.s (SV.ro (Con.typ cP ps)), AV.s (SV.int IntKind.i64 (n0 + (1 : Int) + (1 : Int)))] (82 : Nat)] (cal Try.f41 (25 : Nat) (3 : Nat)) (Stk.mk none false (0 : Nat) [] (25 : Nat)))))))
                  (Tree.ite (nK (ndA (pO (getP ps nm)) k) == (14 : Int)) (Tree.need (Slf (some [AV.ptr (0 : Nat) (0 : Nat)])) (Tree.need (Slf (some [AObj.own [AV.s (SV.ro (Con.typ cP ps)), AV.s (SV.int IntKind.i64 (n0 + (1 : Int)))] (82 : Nat)])) (Tree.need ((0 : Int) ≤ n0 + (1 : Int) ∧ n0 + (1 : Int) < (2000 : Int)) (Tree.need ((pO (getP ps (nY (ndA (pO (getP ps nm)) k)))).length ≤ (1000000 : Nat)) (Tree.ite (hasSt (pO (getP ps (nY (ndA (pO (getP ps nm)) k)))) (-1 : Int)) (Tree.need (((1 : Nat) + List.length cs) * (24 : Nat) ≤ (140737488355328 : Nat)) (Tree.need (some [AV.ptr (0 : Nat) (0 : Nat), AV.s (SV.ro (Con.typ cSi ([siO nm k] ++ cs))), AV.agg [AV.s (SV.str (nY (ndA (pO (getP ps nm)) k))), AV.s (SV.int IntKind.i64 (startF (pO (getP ps (nY (ndA (pO (getP ps nm)) k)))) (-1 : Int)))]] = some [AV.ptr (0 : Nat) (0 : Nat), AV.s (SV.ro (Con.typ cSi cs')), AV.agg [AV.s (SV.str nm'), AV.s (SV.int IntKind.i64 k')]]) (Tree.need (some [AObj.own [AV.s (SV.ro (Con.typ cP ps)), AV.s (SV.int IntKind.i64 (n0 + (1 : Int) + (1 : Int)))] (82 : Nat)] = some [AObj.own [AV.s (SV.ro (Con.typ cP ps)), AV.s (SV.int IntKind.i64 n)] (82 : Nat)]) (Tree.need b (Tree.at (Cfg.mk (sl (168 : Nat) [((164 : Nat), AV.ptr (0 : Nat) (0 : Nat)), ((165 : Nat), AV.s (SV.ro (Con.typ cSi cs))), ((166 : Nat), AV.agg [AV.s (SV.str nm), AV.s (SV.int IntKind.i64 k)])]) [AObj.own [AV.s (SV.ro (Con.typ cP ps)), AV.s (SV.int IntKind.i64 m)] (82 : Nat)] (cal Try.f41 (25 : Nat) (3 : Nat)) (Stk.mk none false (0 : Nat) [] (25 : Nat)))))))) (Tree.at (Cfg.mk (sl (168 : Nat) [((164 : Nat), AV.ptr (0 : Nat) (0 : Nat)), ((165 : Nat), AV.s (SV.ro (Con.typ cSi cs))), ((166 : Nat), AV.agg [AV.s (SV.str nm), AV.s (SV.int IntKind.i64 k)])]) [AObj.own [AV.s (SV.ro (Con.typ cP ps)), AV.s (SV.int IntKind.i64 (n0 + (1 : Int) + (1 : Int)))] (82 : Nat)] (cal Try.f41 (25 : Nat) (3 : Nat)) (Stk.mk none false (0 : Nat) [] (25 : Nat)))))))))
                    (Tree.ite (nK (ndA (pO (getP ps nm)) k) == (5 : Int))
                      (Tree.ite (nE (ndA (pO (getP ps nm)) k) == (6 : Int)) (Tree.need ((pO (getP ps nm)).length ≤ (1000000 : Nat)) (Tree.ite (hasLk (pO (getP ps nm)) k) (Tree.need (some [AV.ptr (0 : Nat) (0 : Nat), AV.s (SV.ro (Con.typ cSi cs)), AV.agg [AV.s (SV.str nm), AV.s (SV.int IntKind.i64 (linkF (pO (getP ps nm)) k))]] = some [AV.ptr (0 : Nat) (0 : Nat), AV.s (SV.ro (Con.typ cSi cs')), AV.agg [AV.s (SV.str nm'), AV.s (SV.int IntKind.i64 k')]]) (Tree.need (some [AObj.own [AV.s (SV.ro (Con.typ cP ps)), AV.s (SV.int IntKind.i64 (n0 + (1 : Int)))] (82 : Nat)] = some [AObj.own [AV.s (SV.ro (Con.typ cP ps)), AV.s (SV.int IntKind.i64 n)] (82 : Nat)]) (Tree.need b (Tree.ret [AObj.own [AV.s (SV.ro (Con.typ cP ps)), AV.s (SV.int IntKind.i64 m)] (82 : Nat), AObj.own [AV.s (SV.str nm), AV.s (SV.int IntKind.i64 k)] (38 : Nat), AObj.own [AV.s (SV.str (pN (getP ps nm))), AV.s (SV.ro (Con.typ cV (pV (getP ps nm)))), AV.s (SV.ro (Con.typ cN (pO (getP ps nm)))), AV.s (SV.ro (Con.typ cF (pF (getP ps nm))))] (26 : Nat), AObj.own [AV.s (SV.str (nN (ndA (pO (getP ps nm)) k))), AV.s (SV.int IntKind.u8 (nK (ndA (pO (getP ps nm)) k))), AV.s (SV.int IntKind.i64 (nI (ndA (pO (getP ps nm)) k))), AV.s (SV.int IntKind.i64 (nO (ndA (pO (getP ps nm)) k))), AV.s (SV.int IntKind.u8 (nE (ndA (pO (getP ps nm)) k))), AV.s (SV.str (nY (ndA (pO (getP ps nm)) k))), AV.s (SV.str (nT (ndA (pO (getP ps nm)) k))), AV.s (SV.str (nS (ndA (pO (getP ps nm)) k))), AV.s (SV.bool (nB (ndA (pO (getP ps nm)) k))), AV.s (SV.ro (Con.typ cV (nV (ndA (pO (getP ps nm)) k)))), AV.s (SV.ro (Con.strs (nZ (ndA (pO (getP ps nm)) k))))] (34 : Nat)] (AV.tup []))))) (Tree.ret [AObj.own [AV.s (SV.ro (Con.typ cP ps)), AV.s (SV.int IntKind.i64 (n0 + (1 : Int)))] (82 : Nat), AObj.own [AV.s (SV.str nm), AV.s (SV.int IntKind.i64 k)] (38 : Nat), AObj.own [AV.s (SV.str (pN (getP ps nm))), AV.s (SV.ro (Con.typ cV (pV (getP ps nm)))), AV.s (SV.ro (Con.typ cN (pO (getP ps nm)))), AV.s (SV.ro (Con.typ cF (pF (getP ps nm))))] (26 : Nat), AObj.own [AV.s (SV.str (nN (ndA (pO (getP ps nm)) k))), AV.s (SV.int IntKind.u8 (nK (ndA (pO (getP ps nm)) k))), AV.s (SV.int IntKind.i64 (nI (ndA (pO (getP ps nm)) k))), AV.s (SV.int IntKind.i64 (nO (ndA (pO (getP ps nm)) k))), AV.s (SV.int IntKind.u8 (nE (ndA (pO (getP ps nm)) k))), AV.s (SV.str (nY (ndA (pO (getP ps nm)) k))), AV.s (SV.str (nT (ndA (pO (getP ps nm)) k))), AV.s (SV.str (nS (ndA (pO (getP ps nm)) k))), AV.s (SV.bool (nB (ndA (pO (getP ps nm)) k))), AV.s (SV.ro (Con.typ cV (nV (ndA (pO (getP ps nm)) k)))), AV.s (SV.ro (Con.strs (nZ (ndA (pO (getP ps nm)) k))))] (34 : Nat)] (AV.tup []))))
                        (Tree.ite (nE (ndA (pO (getP ps nm)) k) == (5 : Int))
                          (Tree.ite (nK (ndA (pO (getP ps nm)) k) == (5 : Int)) (Tree.need (some [AV.ptr (0 : Nat) (0 : Nat), AV.s (SV.ro (Con.typ cSi cs)), AV.agg [AV.s (SV.str nm), AV.s (SV.int IntKind.i64 k)], AV.agg [AV.s (SV.str (nN (ndA (pO (getP ps nm)) k))), AV.s (SV.int IntKind.u8 (nK (ndA (pO (getP ps nm)) k))), AV.s (SV.int IntKind.i64 (nI (ndA (pO (getP ps nm)) k))), AV.s (SV.int IntKind.i64 (nO (ndA (pO (getP ps nm)) k))), AV.s (SV.int IntKind.u8 (nE (ndA (pO (getP ps nm)) k))), AV.s (SV.str (nY (ndA (pO (getP ps nm)) k))), AV.s (SV.str (nT (ndA (pO (getP ps nm)) k))), AV.s (SV.str (nS (ndA (pO (getP ps nm)) k))), AV.s (SV.bool (nB (ndA (pO (getP ps nm)) k))), AV.s (SV.ro (Con.typ cV (nV (ndA (pO (getP ps nm)) k)))), AV.s (SV.ro (Con.strs (nZ (ndA (pO (getP ps nm)) k))))]] = some [AV.ptr (0 : Nat) (0 : Nat), AV.s (SV.ro (Con.typ cSi cs)), AV.agg [AV.s (SV.str nm), AV.s (SV.int IntKind.i64 k)], AV.agg [AV.s (SV.str (nN x)), AV.s (SV.int IntKind.u8 (nK x)), AV.s (SV.int IntKind.i64 (nI x)), AV.s (SV.int IntKind.i64 (nO x)), AV.s (SV.int IntKind.u8 (nE x)), AV.s (SV.str (nY x)), AV.s (SV.str (nT x)), AV.s (SV.str (nS x)), AV.s (SV.bool (nB x)), AV.s (SV.ro (Con.typ cV (nV x))), AV.s (SV.ro (Con.strs (nZ x)))]]) (Tree.need (some [AObj.own [AV.s (SV.ro (Con.typ cP ps)), AV.s (SV.int IntKind.i64 (n0 + (1 : Int)))] (82 : Nat)] = some [AObj.own [AV.s (SV.ro (Con.typ cP ps)), AV.s (SV.int IntKind.i64 n)] (82 : Nat)]) (Tree.need b2 (Tree.at (Cfg.mk (sl (168 : Nat) [((164 : Nat), AV.ptr (0 : Nat) (0 : Nat)), ((165 : Nat), AV.s (SV.ro (Con.typ cSi cs))), ((166 : Nat), AV.agg [AV.s (SV.str nm), AV.s (SV.int IntKind.i64 k)])]) [AObj.own [AV.s (SV.ro (Con.typ cP ps)), AV.s (SV.int IntKind.i64 m)] (82 : Nat)] (cal Try.f41 (25 : Nat) (3 : Nat)) (Stk.mk none false (0 : Nat) [] (25 : Nat)))))))
                            (Tree.ite (nK (ndA (pO (getP ps nm)) k) == (2 : Int)) (Tree.need (some [AV.ptr (0 : Nat) (0 : Nat), AV.s (SV.ro (Con.typ cSi cs)), AV.agg [AV.s (SV.str nm), AV.s (SV.int IntKind.i64 k)], AV.agg [AV.s (SV.str (nN (ndA (pO (getP ps nm)) k))), AV.s (SV.int IntKind.u8 (nK (ndA (pO (getP ps nm)) k))), AV.s (SV.int IntKind.i64 (nI (ndA (pO (getP ps nm)) k))), AV.s (SV.int IntKind.i64 (nO (ndA (pO (getP ps nm)) k))), AV.s (SV.int IntKind.u8 (nE (ndA (pO (getP ps nm)) k))), AV.s (SV.str (nY (ndA (pO (getP ps nm)) k))), AV.s (SV.str (nT (ndA (pO (getP ps nm)) k))), AV.s (SV.str (nS (ndA (pO (getP ps nm)) k))), AV.s (SV.bool (nB (ndA (pO (getP ps nm)) k))), AV.s (SV.ro (Con.typ cV (nV (ndA (pO (getP ps nm)) k)))), AV.s (SV.ro (Con.strs (nZ (ndA (pO (getP ps nm)) k))))]] = some [AV.ptr (0 : Nat) (0 : Nat), AV.s (SV.ro (Con.typ cSi cs)), AV.agg [AV.s (SV.str nm), AV.s (SV.int IntKind.i64 k)], AV.agg [AV.s (SV.str (nN x)), AV.s (SV.int IntKind.u8 (nK x)), AV.s (SV.int IntKind.i64 (nI x)), AV.s (SV.int IntKind.i64 (nO x)), AV.s (SV.int IntKind.u8 (nE x)), AV.s (SV.str (nY x)), AV.s (SV.str (nT x)), AV.s (SV.str (nS x)), AV.s (SV.bool (nB x)), AV.s (SV.ro (Con.typ cV (nV x))), AV.s (SV.ro (Con.strs (nZ x)))]]) (Tree.need (some [AObj.own [AV.s (SV.ro (Con.typ cP ps)), AV.s (SV.int IntKind.i64 (n0 + (1 : Int)))] (82 : Nat)] = some [AObj.own [AV.s (SV.ro (Con.typ cP ps)), AV.s (SV.int IntKind.i64 n)] (82 : Nat)]) (Tree.need b2 (Tree.at (Cfg.mk (sl (168 : Nat) [((164 : Nat), AV.ptr (0 : Nat) (0 : Nat)), ((165 : Nat), AV.s (SV.ro (Con.typ cSi cs))), ((166 : Nat), AV.agg [AV.s (SV.str nm), AV.s (SV.int IntKind.i64 k)])]) [AObj.own [AV.s (SV.ro (Con.typ cP ps)), AV.s (SV.int IntKind.i64 m)] (82 : Nat)] (cal Try.f41 (25 : Nat) (3 : Nat)) (Stk.mk none false (0 : Nat) [] (25 : Nat)))))))
                              (Tree.ite (nE (ndA (pO (getP ps nm)) k) == (4 : Int)) (Tree.ite (nK (ndA (pO (getP ps nm)) k) == (2 : Int)) (Tree.need (some [AV.ptr (0 : Nat) (0 : Nat), AV.s (SV.ro (Con.typ cSi cs)), AV.agg [AV.s (SV.str nm), AV.s (SV.int IntKind.i64 k)], AV.agg [AV.s (SV.str (nN (ndA (pO (getP ps nm)) k))), AV.s (SV.int IntKind.u8 (nK (ndA (pO (getP ps nm)) k))), AV.s (SV.int IntKind.i64 (nI (ndA (pO (getP ps nm)) k))), AV.s (SV.int IntKind.i64 (nO (ndA (pO (getP ps nm)) k))), AV.s (SV.int IntKind.u8 (nE (ndA (pO (getP ps nm)) k))), AV.s (SV.str (nY (ndA (pO (getP ps nm)) k))), AV.s (SV.str (nT (ndA (pO (getP ps nm)) k))), AV.s (SV.str (nS (ndA (pO (getP ps nm)) k))), AV.s (SV.bool (nB (ndA (pO (getP ps nm)) k))), AV.s (SV.ro (Con.typ cV (nV (ndA (pO (getP ps nm)) k)))), AV.s (SV.ro (Con.strs (nZ (ndA (pO (getP ps nm)) k))))]] = some [AV.ptr (0 : Nat) (0 : Nat), AV.s (SV.ro (Con.typ cSi cs)), AV.agg [AV.s (SV.str nm), AV.s (SV.int IntKind.i64 k)], AV.agg [AV.s (SV.str (nN x)), AV.s (SV.int IntKind.u8 (nK x)), AV.s (SV.int IntKind.i64 (nI x)), AV.s (SV.int IntKind.i64 (nO x)), AV.s (SV.int IntKind.u8 (nE x)), AV.s (SV.str (nY x)), AV.s (SV.str (nT x)), AV.s (SV.str (nS x)), AV.s (SV.bool (nB x)), AV.s (SV.ro (Con.typ cV (nV x))), AV.s (SV.ro (Con.strs (nZ x)))]]) (Tree.need (some [AObj.own [AV.s (SV.ro (Con.typ cP ps)), AV.s (SV.int IntKind.i64 (n0 + (1 : Int)))] (82 : Nat)] = some [AObj.own [AV.s (SV.ro (Con.typ cP ps)), AV.s (SV.int IntKind.i64 n)] (82 : Nat)]) (Tree.need b2 (Tree.at (Cfg.mk (sl (168 : Nat) [((164 : Nat), AV.ptr (0 : Nat) (0 : Nat)), ((165 : Nat), AV.s (SV.ro (Con.typ cSi cs))), ((166 : Nat), AV.agg [AV.s (SV.str nm), AV.s (SV.int IntKind.i64 k)])]) [AObj.own [AV.s (SV.ro (Con.typ cP ps)), AV.s (SV.int IntKind.i64 m)] (82 : Nat)] (cal Try.f41 (25 : Nat) (3 : Nat)) (Stk.mk none false (0 : Nat) [] (25 : Nat))))))) (Tree.at (Cfg.mk (sl (168 : Nat) [((164 : Nat), AV.ptr (0 : Nat) (0 : Nat)), ((165 : Nat), AV.s (SV.ro (Con.typ cSi cs))), ((166 : Nat), AV.agg [AV.s (SV.str nm), AV.s (SV.int IntKind.i64 k)])]) [AObj.own [AV.s (SV.ro (Con.typ cP ps)), AV.s (SV.int IntKind.i64 (n0 + (1 : Int)))] (82 : Nat)] (cal Try.f41 (25 : Nat) (3 : Nat)) (Stk.mk none false (0 : Nat) [] (25 : Nat))))) (Tree.at (Cfg.mk (sl (168 : Nat) [((164 : Nat), AV.ptr (0 : Nat) (0 : Nat)), ((165 : Nat), AV.s (SV.ro (Con.typ cSi cs))), ((166 : Nat), AV.agg [AV.s (SV.str nm), AV.s (SV.int IntKind.i64 k)])]) [AObj.own [AV.s (SV.ro (Con.typ cP ps)), AV.s (SV.int IntKind.i64 (n0 + (1 : Int)))] (82 : Nat)] (cal Try.f41 (25 : Nat) (3 : Nat)) (Stk.mk none false (0 : Nat) [] (25 : Nat)))))))
                          (Tree.ite (nE (ndA (pO (getP ps nm)) k) == (4 : Int)) (Tree.ite (nK (ndA (pO (getP ps nm)) k) == (2 : Int)) (Tree.need (some [AV.ptr (0 : Nat) (0 : Nat), AV.s (SV.ro (Con.typ cSi cs)), AV.agg [AV.s (SV.str nm), AV.s (SV.int IntKind.i64 k)], AV.agg [AV.s (SV.str (nN (ndA (pO (getP ps nm)) k))), AV.s (SV.int IntKind.u8 (nK (ndA (pO (getP ps nm)) k))), AV.s (SV.int IntKind.i64 (nI (ndA (pO (getP ps nm)) k))), AV.s (SV.int IntKind.i64 (nO (ndA (pO (getP ps nm)) k))), AV.s (SV.int IntKind.u8 (nE (ndA (pO (getP ps nm)) k))), AV.s (SV.str (nY (ndA (pO (getP ps nm)) k))), AV.s (SV.str (nT (ndA (pO (getP ps nm)) k))), AV.s (SV.str (nS (ndA (pO (getP ps nm)) k))), AV.s (SV.bool (nB (ndA (pO (getP ps nm)) k))), AV.s (SV.ro (Con.typ cV (nV (ndA (pO (getP ps nm)) k)))), AV.s (SV.ro (Con.strs (nZ (ndA (pO (getP ps nm)) k))))]] = some [AV.ptr (0 : Nat) (0 : Nat), AV.s (SV.ro (Con.typ cSi cs)), AV.agg [AV.s (SV.str nm), AV.s (SV.int IntKind.i64 k)], AV.agg [AV.s (SV.str (nN x)), AV.s (SV.int IntKind.u8 (nK x)), AV.s (SV.int IntKind.i64 (nI x)), AV.s (SV.int IntKind.i64 (nO x)), AV.s (SV.int IntKind.u8 (nE x)), AV.s (SV.str (nY x)), AV.s (SV.str (nT x)), AV.s (SV.str (nS x)), AV.s (SV.bool (nB x)), AV.s (SV.ro (Con.typ cV (nV x))), AV.s (SV.ro (Con.strs (nZ x)))]]) (Tree.need (some [AObj.own [AV.s (SV.ro (Con.typ cP ps)), AV.s (SV.int IntKind.i64 (n0 + (1 : Int)))] (82 : Nat)] = some [AObj.own [AV.s (SV.ro (Con.typ cP ps)), AV.s (SV.int IntKind.i64 n)] (82 : Nat)]) (Tree.need b2 (Tree.at (Cfg.mk (sl (168 : Nat) [((164 : Nat), AV.ptr (0 : Nat) (0 : Nat)), ((165 : Nat), AV.s (SV.ro (Con.typ cSi cs))), ((166 : Nat), AV.agg [AV.s (SV.str nm), AV.s (SV.int IntKind.i64 k)])]) [AObj.own [AV.s (SV.ro (Con.typ cP ps)), AV.s (SV.int IntKind.i64 m)] (82 : Nat)] (cal Try.f41 (25 : Nat) (3 : Nat)) (Stk.mk none false (0 : Nat) [] (25 : Nat))))))) (Tree.at (Cfg.mk (sl (168 : Nat) [((164 : Nat), AV.ptr (0 : Nat) (0 : Nat)), ((165 : Nat), AV.s (SV.ro (Con.typ cSi cs))), ((166 : Nat), AV.agg [AV.s (SV.str nm), AV.s (SV.int IntKind.i64 k)])]) [AObj.own [AV.s (SV.ro (Con.typ cP ps)), AV.s (SV.int IntKind.i64 (n0 + (1 : Int)))] (82 : Nat)] (cal Try.f41 (25 : Nat) (3 : Nat)) (Stk.mk none false (0 : Nat) [] (25 : Nat))))) (Tree.at (Cfg.mk (sl (168 : Nat) [((164 : Nat), AV.ptr (0 : Nat) (0 : Nat)), ((165 : Nat), AV.s (SV.ro (Con.typ cSi cs))), ((166 : Nat), AV.agg [AV.s (SV.str nm), AV.s (SV.int IntKind.i64 k)])]) [AObj.own [AV.s (SV.ro (Con.typ cP ps)), AV.s (SV.int IntKind.i64 (n0 + (1 : Int)))] (82 : Nat)] (cal Try.f41 (25 : Nat) (3 : Nat)) (Stk.mk none false (0 : Nat) [] (25 : Nat)))))))
                      (Tree.ite (nE (ndA (pO (getP ps nm)) k) == (5 : Int))
                        (Tree.ite (nK (ndA (pO (getP ps nm)) k) == (5 : Int)) (Tree.need (some [AV.ptr (0 : Nat) (0 : Nat), AV.s (SV.ro (Con.typ cSi cs)), AV.agg [AV.s (SV.str nm), AV.s (SV.int IntKind.i64 k)], AV.agg [AV.s (SV.str (nN (ndA (pO (getP ps nm)) k))), AV.s (SV.int IntKind.u8 (nK (ndA (pO (getP ps nm)) k))), AV.s (SV.int IntKind.i64 (nI (ndA (pO (getP ps nm)) k))), AV.s (SV.int IntKind.i64 (nO (ndA (pO (getP ps nm)) k))), AV.s (SV.int IntKind.u8 (nE (ndA (pO (getP ps nm)) k))), AV.s (SV.str (nY (ndA (pO (getP ps nm)) k))), AV.s (SV.str (nT (ndA (pO (getP ps nm)) k))), AV.s (SV.str (nS (ndA (pO (getP ps nm)) k))), AV.s (SV.bool (nB (ndA (pO (getP ps nm)) k))), AV.s (SV.ro (Con.typ cV (nV (ndA (pO (getP ps nm)) k)))), AV.s (SV.ro (Con.strs (nZ (ndA (pO (getP ps nm)) k))))]] = some [AV.ptr (0 : Nat) (0 : Nat), AV.s (SV.ro (Con.typ cSi cs)), AV.agg [AV.s (SV.str nm), AV.s (SV.int IntKind.i64 k)], AV.agg [AV.s (SV.str (nN x)), AV.s (SV.int IntKind.u8 (nK x)), AV.s (SV.int IntKind.i64 (nI x)), AV.s (SV.int IntKind.i64 (nO x)), AV.s (SV.int IntKind.u8 (nE x)), AV.s (SV.str (nY x)), AV.s (SV.str (nT x)), AV.s (SV.str (nS x)), AV.s (SV.bool (nB x)), AV.s (SV.ro (Con.typ cV (nV x))), AV.s (SV.ro (Con.strs (nZ x)))]]) (Tree.need (some [AObj.own [AV.s (SV.ro (Con.typ cP ps)), AV.s (SV.int IntKind.i64 (n0 + (1 : Int)))] (82 : Nat)] = some [AObj.own [AV.s (SV.ro (Con.typ cP ps)), AV.s (SV.int IntKind.i64 n)] (82 : Nat)]) (Tree.need b2 (Tree.at (Cfg.mk (sl (168 : Nat) [((164 : Nat), AV.ptr (0 : Nat) (0 : Nat)), ((165 : Nat), AV.s (SV.ro (Con.typ cSi cs))), ((166 : Nat), AV.agg [AV.s (SV.str nm), AV.s (SV.int IntKind.i64 k)])]) [AObj.own [AV.s (SV.ro (Con.typ cP ps)), AV.s (SV.int IntKind.i64 m)] (82 : Nat)] (cal Try.f41 (25 : Nat) (3 : Nat)) (Stk.mk none false (0 : Nat) [] (25 : Nat)))))))
                          (Tree.ite (nK (ndA (pO (getP ps nm)) k) == (2 : Int)) (Tree.need (some [AV.ptr (0 : Nat) (0 : Nat), AV.s (SV.ro (Con.typ cSi cs)), AV.agg [AV.s (SV.str nm), AV.s (SV.int IntKind.i64 k)], AV.agg [AV.s (SV.str (nN (ndA (pO (getP ps nm)) k))), AV.s (SV.int IntKind.u8 (nK (ndA (pO (getP ps nm)) k))), AV.s (SV.int IntKind.i64 (nI (ndA (pO (getP ps nm)) k))), AV.s (SV.int IntKind.i64 (nO (ndA (pO (getP ps nm)) k))), AV.s (SV.int IntKind.u8 (nE (ndA (pO (getP ps nm)) k))), AV.s (SV.str (nY (ndA (pO (getP ps nm)) k))), AV.s (SV.str (nT (ndA (pO (getP ps nm)) k))), AV.s (SV.str (nS (ndA (pO (getP ps nm)) k))), AV.s (SV.bool (nB (ndA (pO (getP ps nm)) k))), AV.s (SV.ro (Con.typ cV (nV (ndA (pO (getP ps nm)) k)))), AV.s (SV.ro (Con.strs (nZ (ndA (pO (getP ps nm)) k))))]] = some [AV.ptr (0 : Nat) (0 : Nat), AV.s (SV.ro (Con.typ cSi cs)), AV.agg [AV.s (SV.str nm), AV.s (SV.int IntKind.i64 k)], AV.agg [AV.s (SV.str (nN x)), AV.s (SV.int IntKind.u8 (nK x)), AV.s (SV.int IntKind.i64 (nI x)), AV.s (SV.int IntKind.i64 (nO x)), AV.s (SV.int IntKind.u8 (nE x)), AV.s (SV.str (nY x)), AV.s (SV.str (nT x)), AV.s (SV.str (nS x)), AV.s (SV.bool (nB x)), AV.s (SV.ro (Con.typ cV (nV x))), AV.s (SV.ro (Con.strs (nZ x)))]]) (Tree.need (some [AObj.own [AV.s (SV.ro (Con.typ cP ps)), AV.s (SV.int IntKind.i64 (n0 + (1 : Int)))] (82 : Nat)] = some [AObj.own [AV.s (SV.ro (Con.typ cP ps)), AV.s (SV.int IntKind.i64 n)] (82 : Nat)]) (Tree.need b2 (Tree.at (Cfg.mk (sl (168 : Nat) [((164 : Nat), AV.ptr (0 : Nat) (0 : Nat)), ((165 : Nat), AV.s (SV.ro (Con.typ cSi cs))), ((166 : Nat), AV.agg [AV.s (SV.str nm), AV.s (SV.int IntKind.i64 k)])]) [AObj.own [AV.s (SV.ro (Con.typ cP ps)), AV.s (SV.int IntKind.i64 m)] (82 : Nat)] (cal Try.f41 (25 : Nat) (3 : Nat)) (Stk.mk none false (0 : Nat) [] (25 : Nat)))))))
                            (Tree.ite (nE (ndA (pO (getP ps nm)) k) == (4 : Int)) (Tree.ite (nK (ndA (pO (getP ps nm)) k) == (2 : Int)) (Tree.need (some [AV.ptr (0 : Nat) (0 : Nat), AV.s (SV.ro (Con.typ cSi cs)), AV.agg [AV.s (SV.str nm), AV.s (SV.int IntKind.i64 k)], AV.agg [AV.s (SV.str (nN (ndA (pO (getP ps nm)) k))), AV.s (SV.int IntKind.u8 (nK (ndA (pO (getP ps nm)) k))), AV.s (SV.int IntKind.i64 (nI (ndA (pO (getP ps nm)) k))), AV.s (SV.int IntKind.i64 (nO (ndA (pO (getP ps nm)) k))), AV.s (SV.int IntKind.u8 (nE (ndA (pO (getP ps nm)) k))), AV.s (SV.str (nY (ndA (pO (getP ps nm)) k))), AV.s (SV.str (nT (ndA (pO (getP ps nm)) k))), AV.s (SV.str (nS (ndA (pO (getP ps nm)) k))), AV.s (SV.bool (nB (ndA (pO (getP ps nm)) k))), AV.s (SV.ro (Con.typ cV (nV (ndA (pO (getP ps nm)) k)))), AV.s (SV.ro (Con.strs (nZ (ndA (pO (getP ps nm)) k))))]] = some [AV.ptr (0 : Nat) (0 : Nat), AV.s (SV.ro (Con.typ cSi cs)), AV.agg [AV.s (SV.str nm), AV.s (SV.int IntKind.i64 k)], AV.agg [AV.s (SV.str (nN x)), AV.s (SV.int IntKind.u8 (nK x)), AV.s (SV.int IntKind.i64 (nI x)), AV.s (SV.int IntKind.i64 (nO x)), AV.s (SV.int IntKind.u8 (nE x)), AV.s (SV.str (nY x)), AV.s (SV.str (nT x)), AV.s (SV.str (nS x)), AV.s (SV.bool (nB x)), AV.s (SV.ro (Con.typ cV (nV x))), AV.s (SV.ro (Con.strs (nZ x)))]]) (Tree.need (some [AObj.own [AV.s (SV.ro (Con.typ cP ps)), AV.s (SV.int IntKind.i64 (n0 + (1 : Int)))] (82 : Nat)] = some [AObj.own [AV.s (SV.ro (Con.typ cP ps)), AV.s (SV.int IntKind.i64 n)] (82 : Nat)]) (Tree.need b2 (Tree.at (Cfg.mk (sl (168 : Nat) [((164 : Nat), AV.ptr (0 : Nat) (0 : Nat)), ((165 : Nat), AV.s (SV.ro (Con.typ cSi cs))), ((166 : Nat), AV.agg [AV.s (SV.str nm), AV.s (SV.int IntKind.i64 k)])]) [AObj.own [AV.s (SV.ro (Con.typ cP ps)), AV.s (SV.int IntKind.i64 m)] (82 : Nat)] (cal Try.f41 (25 : Nat) (3 : Nat)) (Stk.mk none false (0 : Nat) [] (25 : Nat))))))) (Tree.at (Cfg.mk (sl (168 : Nat) [((164 : Nat), AV.ptr (0 : Nat) (0 : Nat)), ((165 : Nat), AV.s (SV.ro (Con.typ cSi cs))), ((166 : Nat), AV.agg [AV.s (SV.str nm), AV.s (SV.int IntKind.i64 k)])]) [AObj.own [AV.s (SV.ro (Con.typ cP ps)), AV.s (SV.int IntKind.i64 (n0 + (1 : Int)))] (82 : Nat)] (cal Try.f41 (25 : Nat) (3 : Nat)) (Stk.mk none false (0 : Nat) [] (25 : Nat))))) (Tree.at (Cfg.mk (sl (168 : Nat) [((164 : Nat), AV.ptr (0 : Nat) (0 : Nat)), ((165 : Nat), AV.s (SV.ro (Con.typ cSi cs))), ((166 : Nat), AV.agg [AV.s (SV.str nm), AV.s (SV.int IntKind.i64 k)])]) [AObj.own [AV.s (SV.ro (Con.typ cP ps)), AV.s (SV.int IntKind.i64 (n0 + (1 : Int)))] (82 : Nat)] (cal Try.f41 (25 : Nat) (3 : Nat)) (Stk.mk none false (0 : Nat) [] (25 : Nat)))))))
                        (Tree.ite (nE (ndA (pO (getP ps nm)) k) == (4 : Int)) (Tree.ite (nK (ndA (pO (getP ps nm)) k) == (2 : Int)) (Tree.need (some [AV.ptr (0 : Nat) (0 : Nat), AV.s (SV.ro (Con.typ cSi cs)), AV.agg [AV.s (SV.str nm), AV.s (SV.int IntKind.i64 k)], AV.agg [AV.s (SV.str (nN (ndA (pO (getP ps nm)) k))), AV.s (SV.int IntKind.u8 (nK (ndA (pO (getP ps nm)) k))), AV.s (SV.int IntKind.i64 (nI (ndA (pO (getP ps nm)) k))), AV.s (SV.int IntKind.i64 (nO (ndA (pO (getP ps nm)) k))), AV.s (SV.int IntKind.u8 (nE (ndA (pO (getP ps nm)) k))), AV.s (SV.str (nY (ndA (pO (getP ps nm)) k))), AV.s (SV.str (nT (ndA (pO (getP ps nm)) k))), AV.s (SV.str (nS (ndA (pO (getP ps nm)) k))), AV.s (SV.bool (nB (ndA (pO (getP ps nm)) k))), AV.s (SV.ro (Con.typ cV (nV (ndA (pO (getP ps nm)) k)))), AV.s (SV.ro (Con.strs (nZ (ndA (pO (getP ps nm)) k))))]] = some [AV.ptr (0 : Nat) (0 : Nat), AV.s (SV.ro (Con.typ cSi cs)), AV.agg [AV.s (SV.str nm), AV.s (SV.int IntKind.i64 k)], AV.agg [AV.s (SV.str (nN x)), AV.s (SV.int IntKind.u8 (nK x)), AV.s (SV.int IntKind.i64 (nI x)), AV.s (SV.int IntKind.i64 (nO x)), AV.s (SV.int IntKind.u8 (nE x)), AV.s (SV.str (nY x)), AV.s (SV.str (nT x)), AV.s (SV.str (nS x)), AV.s (SV.bool (nB x)), AV.s (SV.ro (Con.typ cV (nV x))), AV.s (SV.ro (Con.strs (nZ x)))]]) (Tree.need (some [AObj.own [AV.s (SV.ro (Con.typ cP ps)), AV.s (SV.int IntKind.i64 (n0 + (1 : Int)))] (82 : Nat)] = some [AObj.own [AV.s (SV.ro (Con.typ cP ps)), AV.s (SV.int IntKind.i64 n)] (82 : Nat)]) (Tree.need b2 (Tree.at (Cfg.mk (sl (168 : Nat) [((164 : Nat), AV.ptr (0 : Nat) (0 : Nat)), ((165 : Nat), AV.s (SV.ro (Con.typ cSi cs))), ((166 : Nat), AV.agg [AV.s (SV.str nm), AV.s (SV.int IntKind.i64 k)])]) [AObj.own [AV.s (SV.ro (Con.typ cP ps)), AV.s (SV.int IntKind.i64 m)] (82 : Nat)] (cal Try.f41 (25 : Nat) (3 : Nat)) (Stk.mk none false (0 : Nat) [] (25 : Nat))))))) (Tree.at (Cfg.mk (sl (168 : Nat) [((164 : Nat), AV.ptr (0 : Nat) (0 : Nat)), ((165 : Nat), AV.s (SV.ro (Con.typ cSi cs))), ((166 : Nat), AV.agg [AV.s (SV.str nm), AV.s (SV.int IntKind.i64 k)])]) [AObj.own [AV.s (SV.ro (Con.typ cP ps)), AV.s (SV.int IntKind.i64 (n0 + (1 : Int)))] (82 : Nat)] (cal Try.f41 (25 : Nat) (3 : Nat)) (Stk.mk none false (0 : Nat) [] (25 : Nat))))) (Tree.at (Cfg.mk (sl (168 : Nat) [((164 : Nat), AV.ptr (0 : Nat) (0 : Nat)), ((165 : Nat), AV.s (SV.ro (Con.typ cSi cs))), ((166 : Nat), AV.agg [AV.s (SV.str nm), AV.s (SV.int IntKind.i64 k)])]) [AObj.own [AV.s (SV.ro (Con.typ cP ps)), AV.s (SV.int IntKind.i64 (n0 + (1 : Int)))] (82 : Nat)] (cal Try.f41 (25 : Nat) (3 : Nat)) (Stk.mk none false (0 : Nat) [] (25 : Nat)))))))))))))))) := by kernel_rfl
theorem trR3 (b b2 : Prop) (ps : Ps) (n0 : Int) (cs : Ss) (nm : ByteArray) (k : Int) (x : CL cN) (cs' : Ss) (nm' : ByteArray) (k' n m : Int) : run P (tabR3 b b2 ps cs' nm' k' n m).sum Try.f65 [] (start Try.f65 [.ptr 0 0, avSs cs, .agg [.s (.str nm), avI k], avNo x] [obCo ps n0]) =
  Tree.need (smallPs ps)
  (Tree.need (List.length cs ≤ (1000000 : Nat))
    (Tree.ite (!(handF ps cs nm k (nE x) (nY x)).snd.snd) (Tree.ret [AObj.own [AV.s (SV.ro (Con.typ cP ps)), AV.s (SV.int IntKind.i64 n0)] (82 : Nat), AObj.own [AV.s (SV.str nm), AV.s (SV.int IntKind.i64 k)] (38 : Nat), AObj.own [AV.s (SV.str (nN x)), AV.s (SV.int IntKind.u8 (nK x)), AV.s (SV.int IntKind.i64 (nI x)), AV.s (SV.int IntKind.i64 (nO x)), AV.s (SV.int IntKind.u8 (nE x)), AV.s (SV.str (nY x)), AV.s (SV.str (nT x)), AV.s (SV.str (nS x)), AV.s (SV.bool (nB x)), AV.s (SV.ro (Con.typ cV (nV x))), AV.s (SV.ro (Con.strs (nZ x)))] (34 : Nat), AObj.vec (Con.typ cSi (handF ps cs nm k (nE x) (nY x)).snd.fst) (38 : Nat), AObj.own [AV.s (SV.str (handF ps cs nm k (nE x) (nY x)).1.1), AV.s (SV.int IntKind.i64 (handF ps cs nm k (nE x) (nY x)).1.2.1)] (38 : Nat)] (AV.tup []))
      (Tree.ite (nK (ndA (pO (getP ps (handF ps cs nm k (nE x) (nY x)).1.1)) (handF ps cs nm k (nE x) (nY x)).1.2.1) != (13 : Int)) (Tree.need (some [AV.ptr (0 : Nat) (0 : Nat), AV.s (SV.ro (Con.typ cSi (handF ps cs nm k (nE x) (nY x)).snd.fst)), AV.agg [AV.s (SV.str (handF ps cs nm k (nE x) (nY x)).1.1), AV.s (SV.int IntKind.i64 (handF ps cs nm k (nE x) (nY x)).1.2.1)]] = some [AV.ptr (0 : Nat) (0 : Nat), AV.s (SV.ro (Con.typ cSi cs')), AV.agg [AV.s (SV.str nm'), AV.s (SV.int IntKind.i64 k')]]) (Tree.need (some [AObj.own [AV.s (SV.ro (Con.typ cP ps)), AV.s (SV.int IntKind.i64 n0)] (82 : Nat)] = some [AObj.own [AV.s (SV.ro (Con.typ cP ps)), AV.s (SV.int IntKind.i64 n)] (82 : Nat)]) (Tree.need b2 (Tree.ret [AObj.own [AV.s (SV.ro (Con.typ cP ps)), AV.s (SV.int IntKind.i64 m)] (82 : Nat), AObj.own [AV.s (SV.str nm), AV.s (SV.int IntKind.i64 k)] (38 : Nat), AObj.own [AV.s (SV.str (nN x)), AV.s (SV.int IntKind.u8 (nK x)), AV.s (SV.int IntKind.i64 (nI x)), AV.s (SV.int IntKind.i64 (nO x)), AV.s (SV.int IntKind.u8 (nE x)), AV.s (SV.str (nY x)), AV.s (SV.str (nT x)), AV.s (SV.str (nS x)), AV.s (SV.bool (nB x)), AV.s (SV.ro (Con.typ cV (nV x))), AV.s (SV.ro (Con.strs (nZ x)))] (34 : Nat), AObj.dead, AObj.own [AV.s (SV.str (handF ps cs nm k (nE x) (nY x)).1.1), AV.s (SV.int IntKind.i64 (handF ps cs nm k (nE x) (nY x)).1.2.1)] (38 : Nat), AObj.own [AV.s (SV.str (pN (getP ps (handF ps cs nm k (nE x) (nY x)).1.1))), AV.s (SV.ro (Con.typ cV (pV (getP ps (handF ps cs nm k (nE x) (nY x)).1.1)))), AV.s (SV.ro (Con.typ cN (pO (getP ps (handF ps cs nm k (nE x) (nY x)).1.1)))), AV.s (SV.ro (Con.typ cF (pF (getP ps (handF ps cs nm k (nE x) (nY x)).1.1))))] (26 : Nat), AObj.own [AV.s (SV.str (nN (ndA (pO (getP ps (handF ps cs nm k (nE x) (nY x)).1.1)) (handF ps cs nm k (nE x) (nY x)).1.2.1))), AV.s (SV.int IntKind.u8 (nK (ndA (pO (getP ps (handF ps cs nm k (nE x) (nY x)).1.1)) (handF ps cs nm k (nE x) (nY x)).1.2.1))), AV.s (SV.int IntKind.i64 (nI (ndA (pO (getP ps (handF ps cs nm k (nE x) (nY x)).1.1)) (handF ps cs nm k (nE x) (nY x)).1.2.1))), AV.s (SV.int IntKind.i64 (nO (ndA (pO (getP ps (handF ps cs nm k (nE x) (nY x)).1.1)) (handF ps cs nm k (nE x) (nY x)).1.2.1))), AV.s (SV.int IntKind.u8 (nE (ndA (pO (getP ps (handF ps cs nm k (nE x) (nY x)).1.1)) (handF ps cs nm k (nE x) (nY x)).1.2.1))), AV.s (SV.str (nY (ndA (pO (getP ps (handF ps cs nm k (nE x) (nY x)).1.1)) (handF ps cs nm k (nE x) (nY x)).1.2.1))), AV.s (SV.str (nT (ndA (pO (getP ps (handF ps cs nm k (nE x) (nY x)).1.1)) (handF ps cs nm k (nE x) (nY x)).1.2.1))), AV.s (SV.str (nS (ndA (pO (getP ps (handF ps cs nm k (nE x) (nY x)).1.1)) (handF ps cs nm k (nE x) (nY x)).1.2.1))), AV.s (SV.bool (nB (ndA (pO (getP ps (handF ps cs nm k (nE x) (nY x)).1.1)) (handF ps cs nm k (nE x) (nY x)).1.2.1))), AV.s (SV.ro (Con.typ cV (nV (ndA (pO (getP ps (handF ps cs nm k (nE x) (nY x)).1.1)) (handF ps cs nm k (nE x) (nY x)).1.2.1)))), AV.s (SV.ro (Con.strs (nZ (ndA (pO (getP ps (handF ps cs nm k (nE x) (nY x)).1.1)) (handF ps cs nm k (nE x) (nY x)).1.2.1))))] (34 : Nat)] (AV.tup [])))))
        (Tree.need (Slf (some [AV.ptr (0 : Nat) (0 : Nat)]))
          (Tree.need (Slf (some [AObj.own [AV.s (SV.ro (Con.typ cP ps)), AV.s (SV.int IntKind.i64 n0)] (82 : Nat)]))
            (Tree.need ((0 : Int) ≤ n0 ∧ n0 < (2000 : Int))
              (Tree.need ((pO (getP ps (handF ps cs nm k (nE x) (nY x)).1.1)).length ≤ (1000000 : Nat))
                (Tree.ite (hasSt (pO (getP ps (handF ps cs nm k (nE x) (nY x)).1.1)) (handF ps cs nm k (nE x) (nY x)).1.2.1) (Tree.need (some [AV.ptr (0 : Nat) (0 : Nat), AV.s (SV.ro (Con.typ cSi (handF ps cs nm k (nE x) (nY x)).snd.fst)), AV.agg [AV.s (SV.str (handF ps cs nm k (nE x) (nY x)).1.1), AV.s (SV.int IntKind.i64 (startF (pO (getP ps (handF ps cs nm k (nE x) (nY x)).1.1)) (handF ps cs nm k (nE x) (nY x)).1.2.1))]] = some [AV.ptr (0 : Nat) (0 : Nat), AV.s (SV.ro (Con.typ cSi cs')), AV.agg [AV.s (SV.str nm'), AV.s (SV.int IntKind.i64 k')]]) (Tree.need (some [AObj.own [AV.s (SV.ro (Con.typ cP ps)), AV.s (SV.int IntKind.i64 (n0 + (1 : Int)))] (82 : Nat)] = some [AObj.own [AV.s (SV.ro (Con.typ cP ps)), AV.s (SV.int IntKind.i64 n)] (82 : Nat)]) (Tree.need b (Tree.ret [AObj.own [AV.s (SV.ro (Con.typ cP ps)), AV.s (SV.int IntKind.i64 m)] (82 : Nat), AObj.own [AV.s (SV.str nm), AV.s (SV.int IntKind.i64 k)] (38 : Nat), AObj.own [AV.s (SV.str (nN x)), AV.s (SV.int IntKind.u8 (nK x)), AV.s (SV.int IntKind.i64 (nI x)), AV.s (SV.int IntKind.i64 (nO x)), AV.s (SV.int IntKind.u8 (nE x)), AV.s (SV.str (nY x)), AV.s (SV.str (nT x)), AV.s (SV.str (nS x)), AV.s (SV.bool (nB x)), AV.s (SV.ro (Con.typ cV (nV x))), AV.s (SV.ro (Con.strs (nZ x)))] (34 : Nat), AObj.dead, AObj.own [AV.s (SV.str (handF ps cs nm k (nE x) (nY x)).1.1), AV.s (SV.int IntKind.i64 (handF ps cs nm k (nE x) (nY x)).1.2.1)] (38 : Nat), AObj.own [AV.s (SV.str (pN (getP ps (handF ps cs nm k (nE x) (nY x)).1.1))), AV.s (SV.ro (Con.typ cV (pV (getP ps (handF ps cs nm k (nE x) (nY x)).1.1)))), AV.s (SV.ro (Con.typ cN (pO (getP ps (handF ps cs nm k (nE x) (nY x)).1.1)))), AV.s (SV.ro (Con.typ cF (pF (getP ps (handF ps cs nm k (nE x) (nY x)).1.1))))] (26 : Nat), AObj.own [AV.s (SV.str (nN (ndA (pO (getP ps (handF ps cs nm k (nE x) (nY x)).1.1)) (handF ps cs nm k (nE x) (nY x)).1.2.1))), AV.s (SV.int IntKind.u8 (nK (ndA (pO (getP ps (handF ps cs nm k (nE x) (nY x)).1.1)) (handF ps cs nm k (nE x) (nY x)).1.2.1))), AV.s (SV.int IntKind.i64 (nI (ndA (pO (getP ps (handF ps cs nm k (nE x) (nY x)).1.1)) (handF ps cs nm k (nE x) (nY x)).1.2.1))), AV.s (SV.int IntKind.i64 (nO (ndA (pO (getP ps (handF ps cs nm k (nE x) (nY x)).1.1)) (handF ps cs nm k (nE x) (nY x)).1.2.1))), AV.s (SV.int IntKind.u8 (nE (ndA (pO (getP ps (handF ps cs nm k (nE x) (nY x)).1.1)) (handF ps cs nm k (nE x) (nY x)).1.2.1))), AV.s (SV.str (nY (ndA (pO (getP ps (handF ps cs nm k (nE x) (nY x)).1.1)) (handF ps cs nm k (nE x) (nY x)).1.2.1))), AV.s (SV.str (nT (ndA (pO (getP ps (handF ps cs nm k (nE x) (nY x)).1.1)) (handF ps cs nm k (nE x) (nY x)).1.2.1))), AV.s (SV.str (nS (ndA (pO (getP ps (handF ps cs nm k (nE x) (nY x)).1.1)) (handF ps cs nm k (nE x) (nY x)).1.2.1))), AV.s (SV.bool (nB (ndA (pO (getP ps (handF ps cs nm k (nE x) (nY x)).1.1)) (handF ps cs nm k (nE x) (nY x)).1.2.1))), AV.s (SV.ro (Con.typ cV (nV (ndA (pO (getP ps (handF ps cs nm k (nE x) (nY x)).1.1)) (handF ps cs nm k (nE x) (nY x)).1.2.1)))), AV.s (SV.ro (Con.strs (nZ (ndA (pO (getP ps (handF ps cs nm k (nE x) (nY x)).1.1)) (handF ps cs nm k (nE x) (nY x)).1.2.1))))] (34 : Nat)] (AV.tup [])))))
                  (Tree.ret [AObj.own [AV.s (SV.ro (Con.typ cP ps)), AV.s (SV.int IntKind.i64 (n0 + (1 : Int)))] (82 : Nat), AObj.own [AV.s (SV.str nm), AV.s (SV.int IntKind.i64 k)] (38 : Nat), AObj.own [AV.s (SV.str (nN x)), AV.s (SV.int IntKind.u8 (nK x)), AV.s (SV.int IntKind.i64 (nI x)), AV.s (SV.int IntKind.i64 (nO x)), AV.s (SV.int IntKind.u8 (nE x)), AV.s (SV.str (nY x)), AV.s (SV.str (nT x)), AV.s (SV.str (nS x)), AV.s (SV.bool (nB x)), AV.s (SV.ro (Con.typ cV (nV x))), AV.s (SV.ro (Con.strs (nZ x)))] (34 : Nat), AObj.vec (Con.typ cSi (handF ps cs nm k (nE x) (nY x)).snd.fst) (38 : Nat), AObj.own [AV.s (SV.str (handF ps cs nm k (nE x) (nY x)).1.1), AV.s (SV.int IntKind.i64 (handF ps cs nm k (nE x) (nY x)).1.2.1)] (38 : Nat), AObj.own [AV.s (SV.str (pN (getP ps (handF ps cs nm k (nE x) (nY x)).1.1))), AV.s (SV.ro (Con.typ cV (pV (getP ps (handF ps cs nm k (nE x) (nY x)).1.1)))), AV.s (SV.ro (Con.typ cN (pO (getP ps (handF ps cs nm k (nE x) (nY x)).1.1)))), AV.s (SV.ro (Con.typ cF (pF (getP ps (handF ps cs nm k (nE x) (nY x)).1.1))))] (26 : Nat), AObj.own [AV.s (SV.str (nN (ndA (pO (getP ps (handF ps cs nm k (nE x) (nY x)).1.1)) (handF ps cs nm k (nE x) (nY x)).1.2.1))), AV.s (SV.int IntKind.u8 (nK (ndA (pO (getP ps (handF ps cs nm k (nE x) (nY x)).1.1)) (handF ps cs nm k (nE x) (nY x)).1.2.1))), AV.s (SV.int IntKind.i64 (nI (ndA (pO (getP ps (handF ps cs nm k (nE x) (nY x)).1.1)) (handF ps cs nm k (nE x) (nY x)).1.2.1))), AV.s (SV.int IntKind.i64 (nO (ndA (pO (getP ps (handF ps cs nm k (nE x) (nY x)).1.1)) (handF ps cs nm k (nE x) (nY x)).1.2.1))), AV.s (SV.int IntKind.u8 (nE (ndA (pO (getP ps (handF ps cs nm k (nE x) (nY x)).1.1)) (handF ps cs nm k (nE x) (nY x)).1.2.1))), AV.s (SV.str (nY (ndA (pO (getP ps (handF ps cs nm k (nE x) (nY x)).1.1)) (handF ps cs nm k (nE x) (nY x)).1.2.1))), AV.s (SV.str (nT (ndA (pO (getP ps (handF ps cs nm k (nE x) (nY x)).1.1)) (handF ps cs nm k (nE x) (nY x)).1.2.1))), AV.s (SV.str (nS (ndA (pO (getP ps (handF ps cs nm k (nE x) (nY x)).1.1)) (handF ps cs nm k (nE x) (nY x)).1.2.1))), AV.s (SV.bool (nB (ndA (pO (getP ps (handF ps cs nm k (nE x) (nY x)).1.1)) (handF ps cs nm k (nE x) (nY x)).1.2.1))), AV.s (SV.ro (Con.typ cV (nV (ndA (pO (getP ps (handF ps cs nm k (nE x) (nY x)).1.1)) (handF ps cs nm k (nE x) (nY x)).1.2.1)))), AV.s (SV.ro (Con.strs (nZ (ndA (pO (getP ps (handF ps cs nm k (nE x) (nY x)).1.1)) (handF ps cs nm k (nE x) (nY x)).1.2.1))))] (34 : Nat)] (AV.tup [])))))))))) := by kernel_rfl
section
variable {Z : Glob} {ps : Ps} {cs : Ss} {nm : ByteArray} {k n m m1 : Int}
theorem q_of {f : FuncId} {b : Prop} (h : FnS P Z f (sNn ps cs nm k n m)) : FnS P Z f (sNq b ps cs nm k n m) := fun x _ => h x trivial
theorem q_no {f : FuncId} : FnS P Z f (sNq False ps cs nm k n m) := fun _ h => h.1.elim
theorem ra_no {f : FuncId} {x : CL cN} : FnS P Z f (sRa False ps cs nm k x n m) := fun _ h => h.1.elim
theorem tabP3_ok {b b2 : Prop} {x : CL cN} {cs' : Ss} {nm' : ByteArray} {k' n m : Int} (h : FnS P Z 41 (sNq b ps cs' nm' k' n m)) (h2 : FnS P Z 65 (sRa b2 ps cs nm k x n m)) : (tabP3 b b2 ps cs nm k x cs' nm' k' n m).Ok P Z :=
  Tab.Ok.cons (one_ok.sum mOne) (Tab.Ok.cons def_ok.sumR (Tab.Ok.cons nd2_ok.sumR (Tab.Ok.cons wa_ok.sum (Tab.Ok.cons so_ok.sum (Tab.Ok.cons lk_ok.sum (Tab.Ok.cons (sumFrz_ok (h.sum mX) 1 cNil) (Tab.Ok.cons (h2.sum mX) Tab.Ok.nil)))))))
theorem tabR3_ok {b b2 : Prop} {cs' : Ss} {nm' : ByteArray} {k' n m : Int} (h : FnS P Z 41 (sNq b ps cs' nm' k' n m)) (h2 : FnS P Z 58 (sNq b2 ps cs' nm' k' n m)) : (tabR3 b b2 ps cs' nm' k' n m).Ok P Z :=
  Tab.Ok.cons (one_ok.sum mOne) (Tab.Ok.cons def_ok.sumR (Tab.Ok.cons nd2_ok.sumR (Tab.Ok.cons so_ok.sum (Tab.Ok.cons hand_ok.sumR (Tab.Ok.cons (sumFrz_ok (h.sum mX) 1 cNil) (Tab.Ok.cons (sumFrz_ok (h2.sum mX) 1 cNil) Tab.Ok.nil))))))
theorem nsP3_ok : ∀ x ∈ nsP3, ((sNn ps cs nm k n m).heap ()).length ≤ x.2.m := by intro y hy; simp [nsP3] at hy; rcases hy with rfl; exact Nat.le_refl _
/-- A Part: its Start is a place. -/
theorem place_part (hl : (pO (getP ps nm)).length ≤ 1000000) (h0 : 0 ≤ n) (h1 : n + 1 < 2000) (hin : inN (pO (getP ps nm)) k = true) (hk : nK (ndA (pO (getP ps nm)) k) = 11) (hs : hasSt (pO (getP ps nm)) k = true)
    (h : FnS P Z 41 (sNn ps cs nm (startF (pO (getP ps nm)) k) (n + 1 + 1) m1)) (h2 : FnS P Z 58 (sNn ps cs nm k m1 m)) : FnS P Z 41 (sNn ps cs nm k n m) := by
  refine fnS_of_safe Try.func41 (by kernel_rfl) (fun x => Nat.le_of_ble_eq_true (by kernel_rfl)) ?_
  rintro ⟨⟩ _ X hX hz
  refine goS hz hX (nsP3_ok (n := n) (m := m)) (tabP3_ok (x := CL.d cN) (q_of (b := True) h) ra_no) Try.func41 (trP3 True False ps n cs nm k _ cs nm _ (n + 1 + 1) m1) ⟨rfl, rfl, ⟨h0, by omega⟩, no_and (by rw [hin]; rfl) ?_⟩
  rw [hk]
  exact no_and rfl (yes_and rfl ⟨rfl, rfl, ⟨by omega, h1⟩, hl, yes_and hs ⟨rfl, rfl, trivial, place_along (k := k) (n0 := n) hX hz h2⟩⟩)
/-- A Call. -/
theorem place_call {q : ByteArray} (hl : (pO (getP ps q)).length ≤ 1000000) (hc : cs.length ≤ 1000) (h0 : 0 ≤ n) (h1 : n + 1 < 2000) (hin : inN (pO (getP ps nm)) k = true) (hk : nK (ndA (pO (getP ps nm)) k) = 14) (hq : nY (ndA (pO (getP ps nm)) k) = q) (hs : hasSt (pO (getP ps q)) (-1) = true)
    (h : FnS P Z 41 (sNn ps (siO nm k :: cs) q (startF (pO (getP ps q)) (-1)) (n + 1 + 1) m1)) (h2 : FnS P Z 58 (sNn ps cs nm k m1 m)) : FnS P Z 41 (sNn ps cs nm k n m) := by
  refine fnS_of_safe Try.func41 (by kernel_rfl) (fun x => Nat.le_of_ble_eq_true (by kernel_rfl)) ?_
  rintro ⟨⟩ _ X hX hz
  refine goS hz hX (nsP3_ok (n := n) (m := m)) (tabP3_ok (x := CL.d cN) (q_of (b := True) h) ra_no) Try.func41 (trP3 True False ps n cs nm k _ _ q _ (n + 1 + 1) m1) ⟨rfl, rfl, ⟨h0, by omega⟩, no_and (by rw [hin]; rfl) ?_⟩
  rw [hk, hq]
  exact no_and rfl (no_and rfl (no_and rfl (no_and rfl (no_and rfl (yes_and rfl ⟨rfl, rfl, ⟨by omega, h1⟩, hl, yes_and hs ⟨by omega, rfl, rfl, trivial, place_along (k := k) (n0 := n) hX hz h2⟩⟩)))))
/-- A Link. -/
theorem place_link (hl : (pO (getP ps nm)).length ≤ 1000000) (h0 : 0 ≤ n) (h1 : n < 2000) (hin : inN (pO (getP ps nm)) k = true) (hk : nK (ndA (pO (getP ps nm)) k) = 5) (he : nE (ndA (pO (getP ps nm)) k) = 6) (hs : hasLk (pO (getP ps nm)) k = true)
    (h : FnS P Z 41 (sNn ps cs nm (linkF (pO (getP ps nm)) k) (n + 1) m)) : FnS P Z 41 (sNn ps cs nm k n m) := by
  refine fnS_of_safe Try.func41 (by kernel_rfl) (fun x => Nat.le_of_ble_eq_true (by kernel_rfl)) ?_
  rintro ⟨⟩ _ X hX hz
  refine goS hz hX (nsP3_ok (n := n) (m := m)) (tabP3_ok (x := CL.d cN) (q_of (b := True) h) ra_no) Try.func41 (trP3 True False ps n cs nm k _ cs nm _ (n + 1) m) ⟨rfl, rfl, ⟨h0, by omega⟩, no_and (by rw [hin]; rfl) ?_⟩
  rw [hk, he]
  refine no_and rfl (no_and rfl (no_and rfl (no_and rfl (no_and rfl (no_and rfl (yes_and rfl (yes_and rfl ⟨hl, yes_and hs ⟨rfl, rfl, trivial, ?_⟩⟩)))))))
  exact endS 1 rfl (Nat.le_refl _) rfl rfl
/-- An End of Error. -/
theorem place_error (h0 : 0 ≤ n) (h1 : n < 2000) (hin : inN (pO (getP ps nm)) k = true) (hk : nK (ndA (pO (getP ps nm)) k) = 2) (he : nE (ndA (pO (getP ps nm)) k) = 4)
    (h : FnS P Z 65 (sRa True ps cs nm k (ndA (pO (getP ps nm)) k) (n + 1) m1)) (h2 : FnS P Z 58 (sNn ps cs nm k m1 m)) : FnS P Z 41 (sNn ps cs nm k n m) := by
  refine fnS_of_safe Try.func41 (by kernel_rfl) (fun x => Nat.le_of_ble_eq_true (by kernel_rfl)) ?_
  rintro ⟨⟩ _ X hX hz
  refine goS hz hX (nsP3_ok (n := n) (m := m)) (tabP3_ok (q_no (cs := cs) (nm := nm) (k := k)) h) Try.func41 (trP3 False True ps n cs nm k _ _ _ _ (n + 1) m1) ⟨rfl, rfl, ⟨h0, by omega⟩, no_and (by rw [hin]; rfl) ?_⟩
  rw [hk, he]
  exact no_and rfl (no_and rfl (no_and rfl (no_and rfl (no_and rfl (no_and rfl (no_and rfl (no_and rfl (yes_and rfl (yes_and rfl ⟨rfl, rfl, trivial, place_along (k := k) (n0 := n) hX hz h2⟩)))))))))
theorem raised_none {x : CL cN} (hs : smallPs ps) (hc : cs.length ≤ 1000) (hh : (handF ps cs nm k (nE x) (nY x)).2.2 = false) : FnS P Z 65 (sRa True ps cs nm k x n n) := by
  refine fnS_of_safe Try.func65 (by kernel_rfl) (fun x => Nat.le_of_ble_eq_true (by kernel_rfl)) ?_
  rintro ⟨⟩ _ X hX hz
  refine goS hz hX (fun x hx => by cases hx) (tabR3_ok (q_no (cs := cs) (nm := nm) (k := k) (n := n) (m := n)) q_no) Try.func65 (trR3 False False ps n cs nm k x _ _ _ _ _) ⟨hs, by omega, yes_and (by rw [hh]; rfl) ?_⟩
  generalize handF ps cs nm k (nE x) (nY x) = r
  exact endS 1 rfl (Nat.le_refl _) rfl rfl
theorem raised_bound {x : CL cN} {cs' : Ss} {a : ByteArray} {b : Int} (hs : smallPs ps) (hc : cs.length ≤ 1000) (hh : handF ps cs nm k (nE x) (nY x) = (siO a b, cs', true)) (hk : (nK (ndA (pO (getP ps a)) b) != 13) = true)
    (h : FnS P Z 58 (sNn ps cs' a b n m)) : FnS P Z 65 (sRa True ps cs nm k x n m) := by
  refine fnS_of_safe Try.func65 (by kernel_rfl) (fun x => Nat.le_of_ble_eq_true (by kernel_rfl)) ?_
  rintro ⟨⟩ _ X hX hz
  refine goS hz hX (fun x hx => by cases hx) (tabR3_ok q_no (q_of (b := True) h)) Try.func65 (trR3 False True ps n cs nm k x _ _ _ _ _) ⟨hs, by omega, ?_⟩
  rw [hh]
  refine no_and rfl (yes_and hk ⟨rfl, rfl, trivial, ?_⟩)
  generalize getP ps a = g
  exact endS 1 rfl (Nat.le_refl _) rfl rfl
end
end Ds

namespace Ds
open Go Go.Sx Go.Proofs Lf
abbrev fIn : FuncId := 66
abbrev inQu : List FuncId := [fIp, fIn, 47, 49, 46, 48]
def nsQu : List (Nat × Norm) := [((fIp + 1) * 100000 + 2, ⟨[], [0, 1, 7, 8], 0, []⟩), ((fIn + 1) * 100000 + 2, ⟨[], [0, 1, 7, 8, 36, 37, 41, 43, 44], 0, []⟩)]
def nsIn : List (Nat × Norm) := [(4, ⟨[], [0, 1, 5], 0, []⟩)]
noncomputable def cIn (a b : List Int) (i : Int) : Cfg := ⟨sl 26 [(0, avL a), (1, avL b), (5, avI i)], [], hd Try.f19 4, {}⟩
abbrev sCtG (g : FuncId) (F : Ss → Cnt) : Spec (Ss × Ps × ByteArray × Int) := ⟨fun (_, ps, _, _) => [.s (.ro (.typ cP ps)), .fn g [.ptr 0 0, .ptr 1 0]], fun (cs, _, nm, k) => [obCs cs, obSi nm k], fun (cs, ps, nm, k) => [StOkC g cs ps nm k (F cs ps nm k)], fun (cs, _, nm, k) => [obCs cs, obSi nm k], fun (cs, ps, nm, k) => avI (F cs ps nm k)⟩
def mCG : List AV → RM ((Ss × Ps × ByteArray × Int) × List Nat)
  | [.s (.ro (.typ [.str, .rows [.str, .int .u8, .int .i64, .str], .rows [.str, .int .u8, .int .i64, .int .i64, .int .u8, .str, .str, .str, .bool, .rows [.str, .int .u8, .int .i64, .str], .strs], .rows [.int .i64, .int .i64, .str, .bool]] ps)), .fn _ [.ptr a 0, .ptr b 0]] => .look a fun c => match c with
    | some (.own [.s (.ro (.typ [.str, .int .i64] cs))] _) => .look b fun o => match o with
      | some (.own [.s (.str nm), .s (.int .i64 k)] _) => .ret ((cs, ps, nm, k), [a, b])
      | _ => .fail "no site"
    | _ => .fail "no calls"
  | _ => .fail "no closure"
def tabSG (F : Ss → Cnt) : Tab := [(39, sumS (sCtG 40 F) mCG)]
noncomputable def cQu (ps : Ps) (i : Int) : Cfg := ⟨sl 36 [(0, .s (.ro (.typ cP ps))), (1, .fn 48 [.ptr 0 0]), (7, avI (ps.length : Int)), (8, avI i)], [.own [.s (.fn0 46)] 53], hd Try.f59 2, ⟨some fIp, false, 0, [inCall Try.f47 (some 47) 1 2 false 0, inCall Try.f18 none 2 2 false 0], 0⟩⟩
noncomputable def cQn (ps : Ps) (ns : Ns) (i k : Int) : Cfg := ⟨sl 72 [(0, .s (.ro (.typ cN ns))), (1, .s (.fn0 46)), (7, avI (ns.length : Int)), (8, avI k), (36, .s (.ro (.typ cP ps))), (37, .fn 48 [.ptr 0 0]), (41, avI i), (43, avI (ps.length : Int)), (44, avI i)], [.own [.s (.fn0 46)] 53], hd Try.f66 2, ⟨some fIn, false, 0, [inCall Try.f49 (some 49) 1 2 false 0, inCall Try.f48 (some 48) 1 3 false 0, inCall Try.f59 (some fIp) 4 5 false 0, inCall Try.f47 (some 47) 1 2 false 0, inCall Try.f18 none 2 2 false 0], 0⟩⟩
def loudF (x : CL cN) : Bool := if nK x == 5 || nK x == 2 then nE x == 1 else (nK x == 6 || nK x == 15 || nK x == 1) && nE x == 3
def quietF (ps : Ps) : Bool := !(ps.any fun p => (pO p).any loudF)
theorem trQu (ps : Ps) : run P tab0.sum Try.f18 nsQu (start Try.f18 [.s (.ro (.typ cP ps))] []) inQu =
  Tree.at (cQu ps (0 : Int)) := by kernel_rfl
theorem trIn (a b : List Int) : run P tab0.sum Try.f19 nsIn (start Try.f19 [avL a, avL b] []) =
  Tree.ite ((↑a.length : Int) != (↑b.length : Int)) (Tree.ret [] (AV.s (SV.blit false))) (Tree.at (cIn a b (0 : Int))) := by kernel_rfl
theorem lpIn (a b : List Int) (i : Int) : run P tab0.sum Try.f19 nsIn (cIn a b i) =
  Tree.ite (decide (i < (↑a.length : Int))) (Tree.need ((0 : Int) ≤ i) (Tree.need (i < (↑a.length : Int)) (Tree.need ((0 : Int) ≤ i) (Tree.need (i < (↑b.length : Int)) (Tree.ite (a.getD i.toNat (0 : Int) != b.getD i.toNat (0 : Int)) (Tree.ret [] (AV.s (SV.blit false))) (Tree.need (inI64 (i + (1 : Int))) (Tree.at (cIn a b (i + (1 : Int)))))))))) (Tree.ret [] (AV.s (SV.blit true))) := by kernel_rfl
theorem trStepsG (F : Ss → Cnt) (ps : Ps) (cs : Ss) (nm : ByteArray) (k : Int) : run P (tabSG F).sum Try.f15 [] (start Try.f15 [.s (.ro (.typ cP ps)), avSs cs, .agg [.s (.str nm), avI k]] []) =
  Tree.need (Slf (some [AV.s (SV.ro (Con.typ cP ps)), AV.fn (40 : Nat) [AV.ptr (0 : Nat) (0 : Nat), AV.ptr (1 : Nat) (0 : Nat)]])) (Tree.need (Slf (some [AObj.own [AV.s (SV.ro (Con.typ cSi cs))] (39 : Nat), AObj.own [AV.s (SV.str nm), AV.s (SV.int IntKind.i64 k)] (38 : Nat)])) (Tree.need (StOkC (40 : FuncId) cs ps nm k (F cs ps nm k)) (Tree.ret [AObj.own [AV.s (SV.ro (Con.typ cSi cs))] (39 : Nat), AObj.own [AV.s (SV.str nm), AV.s (SV.int IntKind.i64 k)] (38 : Nat)] (AV.s (SV.int IntKind.i64 (F cs ps nm k)))))) := by kernel_rfl
theorem lpQu (ps : Ps) (i : Int) : run P tab0.sum Try.f18 nsQu (cQu ps i) inQu =
  Tree.ite (decide (i < (↑(List.length ps) : Int))) (Tree.need ((0 : Int) ≤ i) (Tree.need (i < (↑(List.length ps) : Int)) (Tree.at (cQn ps (pO (el ps i)) i (0 : Int))))) (Tree.ret [AObj.own [AV.s (SV.fn0 (46 : Nat))] (53 : Nat)] (AV.s (SV.blit true))) := by kernel_rfl
theorem lpQn (ps : Ps) (ns : Ns) (i k : Int) : run P tab0.sum Try.f18 nsQu (cQn ps ns i k) inQu =
  Tree.ite (decide (k < (↑(List.length ns) : Int)))
  (Tree.need ((0 : Int) ≤ k)
    (Tree.need (k < (↑(List.length ns) : Int))
      (Tree.ite (nK (el ns k) == (5 : Int)) (Tree.ite (nE (el ns k) == (1 : Int)) (Tree.ite (decide (k ≥ (0 : Int))) (Tree.ret [AObj.own [AV.s (SV.fn0 (46 : Nat))] (53 : Nat), AObj.own [AV.s (SV.str (nN (el ns k))), AV.s (SV.int IntKind.u8 (nK (el ns k))), AV.s (SV.int IntKind.i64 (nI (el ns k))), AV.s (SV.int IntKind.i64 (nO (el ns k))), AV.s (SV.int IntKind.u8 (nE (el ns k))), AV.s (SV.str (nY (el ns k))), AV.s (SV.str (nT (el ns k))), AV.s (SV.str (nS (el ns k))), AV.s (SV.bool (nB (el ns k))), AV.s (SV.ro (Con.typ cV (nV (el ns k)))), AV.s (SV.ro (Con.strs (nZ (el ns k))))] (34 : Nat)] (AV.s (SV.bool !decide (i ≥ (0 : Int))))) (Tree.need (inI64 (i + (1 : Int))) (Tree.at (cQu ps (i + (1 : Int)))))) (Tree.need (inI64 (k + (1 : Int))) (Tree.at (cQn ps ns i (k + (1 : Int)))))) (Tree.ite (nK (el ns k) == (2 : Int)) (Tree.ite (nE (el ns k) == (1 : Int)) (Tree.ite (decide (k ≥ (0 : Int))) (Tree.ret [AObj.own [AV.s (SV.fn0 (46 : Nat))] (53 : Nat), AObj.own [AV.s (SV.str (nN (el ns k))), AV.s (SV.int IntKind.u8 (nK (el ns k))), AV.s (SV.int IntKind.i64 (nI (el ns k))), AV.s (SV.int IntKind.i64 (nO (el ns k))), AV.s (SV.int IntKind.u8 (nE (el ns k))), AV.s (SV.str (nY (el ns k))), AV.s (SV.str (nT (el ns k))), AV.s (SV.str (nS (el ns k))), AV.s (SV.bool (nB (el ns k))), AV.s (SV.ro (Con.typ cV (nV (el ns k)))), AV.s (SV.ro (Con.strs (nZ (el ns k))))] (34 : Nat)] (AV.s (SV.bool !decide (i ≥ (0 : Int))))) (Tree.need (inI64 (i + (1 : Int))) (Tree.at (cQu ps (i + (1 : Int)))))) (Tree.need (inI64 (k + (1 : Int))) (Tree.at (cQn ps ns i (k + (1 : Int)))))) (Tree.ite (nK (el ns k) == (6 : Int)) (Tree.ite (nE (el ns k) == (3 : Int)) (Tree.ite (decide (k ≥ (0 : Int))) (Tree.ret [AObj.own [AV.s (SV.fn0 (46 : Nat))] (53 : Nat), AObj.own [AV.s (SV.str (nN (el ns k))), AV.s (SV.int IntKind.u8 (nK (el ns k))), AV.s (SV.int IntKind.i64 (nI (el ns k))), AV.s (SV.int IntKind.i64 (nO (el ns k))), AV.s (SV.int IntKind.u8 (nE (el ns k))), AV.s (SV.str (nY (el ns k))), AV.s (SV.str (nT (el ns k))), AV.s (SV.str (nS (el ns k))), AV.s (SV.bool (nB (el ns k))), AV.s (SV.ro (Con.typ cV (nV (el ns k)))), AV.s (SV.ro (Con.strs (nZ (el ns k))))] (34 : Nat)] (AV.s (SV.bool !decide (i ≥ (0 : Int))))) (Tree.need (inI64 (i + (1 : Int))) (Tree.at (cQu ps (i + (1 : Int)))))) (Tree.need (inI64 (k + (1 : Int))) (Tree.at (cQn ps ns i (k + (1 : Int)))))) (Tree.ite (nK (el ns k) == (15 : Int)) (Tree.ite (nE (el ns k) == (3 : Int)) (Tree.ite (decide (k ≥ (0 : Int))) (Tree.ret [AObj.own [AV.s (SV.fn0 (46 : Nat))] (53 : Nat), AObj.own [AV.s (SV.str (nN (el ns k))), AV.s (SV.int IntKind.u8 (nK (el ns k))), AV.s (SV.int IntKind.i64 (nI (el ns k))), AV.s (SV.int IntKind.i64 (nO (el ns k))), AV.s (SV.int IntKind.u8 (nE (el ns k))), AV.s (SV.str (nY (el ns k))), AV.s (SV.str (nT (el ns k))), AV.s (SV.str (nS (el ns k))), AV.s (SV.bool (nB (el ns k))), AV.s (SV.ro (Con.typ cV (nV (el ns k)))), AV.s (SV.ro (Con.strs (nZ (el ns k))))] (34 : Nat)] (AV.s (SV.bool !decide (i ≥ (0 : Int))))) (Tree.need (inI64 (i + (1 : Int))) (Tree.at (cQu ps (i + (1 : Int)))))) (Tree.need (inI64 (k + (1 : Int))) (Tree.at (cQn ps ns i (k + (1 : Int)))))) (Tree.ite (nK (el ns k) == (1 : Int)) (Tree.ite (nE (el ns k) == (3 : Int)) (Tree.ite (decide (k ≥ (0 : Int))) (Tree.ret [AObj.own [AV.s (SV.fn0 (46 : Nat))] (53 : Nat), AObj.own [AV.s (SV.str (nN (el ns k))), AV.s (SV.int IntKind.u8 (nK (el ns k))), AV.s (SV.int IntKind.i64 (nI (el ns k))), AV.s (SV.int IntKind.i64 (nO (el ns k))), AV.s (SV.int IntKind.u8 (nE (el ns k))), AV.s (SV.str (nY (el ns k))), AV.s (SV.str (nT (el ns k))), AV.s (SV.str (nS (el ns k))), AV.s (SV.bool (nB (el ns k))), AV.s (SV.ro (Con.typ cV (nV (el ns k)))), AV.s (SV.ro (Con.strs (nZ (el ns k))))] (34 : Nat)] (AV.s (SV.bool !decide (i ≥ (0 : Int))))) (Tree.need (inI64 (i + (1 : Int))) (Tree.at (cQu ps (i + (1 : Int)))))) (Tree.need (inI64 (k + (1 : Int))) (Tree.at (cQn ps ns i (k + (1 : Int)))))) (Tree.need (inI64 (k + (1 : Int))) (Tree.at (cQn ps ns i (k + (1 : Int))))))))))))
  (Tree.need (inI64 (i + (1 : Int))) (Tree.at (cQu ps (i + (1 : Int))))) := by kernel_rfl
theorem ints_ok {Z : Glob} : FnOk P Z 19 [tNs, tNs] [tBool] (fun _ => []) (fun (a, b, ()) => (decide ((a : List Int) = b), ())) := by
  refine fnOk_of_safe Try.func19 (by kernel_rfl) (by kernel_rfl) ?_
  rintro ⟨(a : List Int), (b : List Int), ⟨⟩⟩ ⟨(hl : a.length ≤ maxLen), _⟩ _ X hX hz
  have hl : a.length ≤ 9223372036854775807 := by unfold maxLen at hl; omega
  show Safe P 19 X (Ends [tBool] (decide (a = b), ())) _
  refine go hz hX Tab.Ok.nil Try.func19 (trIn a b) ?_
  by_cases hab : a.length = b.length
  · refine no_and (by simp [hab]) ?_
    have loop : ∀ (j i : Nat), i + j = a.length → (∀ x (h : x < i), a.getD x 0 = b.getD x 0) → Safe P 19 X (Ends [tBool] (decide (a = b), ())) (cIn a b (i : Int)) := by
      intro j
      induction j with
      | zero =>
        intro i hi he
        refine go hz hX Tab.Ok.nil Try.func19 (lpIn a b i) (no_and (decide_eq_false (by omega)) ?_)
        have e : a = b := List.ext_getElem hab fun x h1 h2 => by
          have := he x (by omega)
          rwa [getD_lt h1, getD_lt h2] at this
        rw [decide_eq_true e]
        exact ends_eq _ rfl (by kernel_rfl)
      | succ j ih =>
        intro i hi he
        refine go hz hX Tab.Ok.nil Try.func19 (lpIn a b i) (yes_and (decide_eq_true (by omega)) ⟨by omega, by omega, by omega, by omega, ?_⟩)
        rw [Int.toNat_natCast]
        by_cases e : a.getD i 0 = b.getD i 0
        · refine no_and (by rw [e]; exact bne_self_eq_false _) ⟨⟨by omega, by omega⟩, ih (i + 1) (by omega) fun x hx => ?_⟩
          by_cases h : x = i
          · subst h; exact e
          · exact he x (by omega)
        · refine yes_and (by simpa using e) ?_
          rw [decide_eq_false (fun h => e (by rw [h]))]
          exact ends_eq _ rfl (by kernel_rfl)
    exact loop a.length 0 (Nat.zero_add _) fun x hx => absurd hx (Nat.not_lt_zero _)
  · refine yes_and (bne_iff_ne.2 fun h => hab (by omega)) ?_
    rw [decide_eq_false (fun h => hab (by rw [h]))]
    exact ends_eq _ rfl (by kernel_rfl)
theorem quiet_ok {Z : Glob} : FnOk P Z 18 [tDefs] [tBool] (fun (ps, ()) => [smallPs ps]) (fun (ps, ()) => (quietF ps, ())) := by
  refine fnOk_of_safe Try.func18 (by kernel_rfl) (by kernel_rfl) ?_
  rintro ⟨(ps : Ps), ⟨⟩⟩ ⟨(hl : ps.length ≤ maxLen), _⟩ ⟨(hs : smallPs ps), _⟩ X hX hz
  have hl : ps.length ≤ 9223372036854775807 := by unfold maxLen at hl; omega
  show Safe P 18 X (Ends [tBool] (quietF ps, ())) _
  have inner : ∀ i : Nat, i < ps.length → ((pO (el ps (i : Int))).any loudF = false → Safe P 18 X (Ends [tBool] (quietF ps, ())) (cQu ps ((i : Int) + 1))) → ∀ (j k : Nat), k + j = (pO (el ps (i : Int))).length → (∀ x (h : x < k), loudF ((pO (el ps (i : Int))).getD x (CL.d cN)) = false) →
      Safe P 18 X (Ends [tBool] (quietF ps, ())) (cQn ps (pO (el ps (i : Int))) (i : Int) (k : Int)) := by
    intro i hi nexti j
    have hsm := (hs.el (i : Int)).1
    have hq : ∀ k, k < (pO (el ps (i : Int))).length → loudF ((pO (el ps (i : Int))).getD k (CL.d cN)) = true → quietF ps = false := fun k hk h => by
      unfold quietF
      have : ps.any (fun p => (pO p).any loudF) = true := List.any_eq_true.2 ⟨ps[i], List.getElem_mem hi, List.any_eq_true.2 ⟨(pO (el ps (i : Int))).getD k (CL.d cN), by rw [← el_lt hi, getD_lt hk]; exact List.getElem_mem hk, h⟩⟩
      rw [this]; rfl
    generalize pO (el ps (i : Int)) = ns at *
    induction j with
    | zero =>
      intro k hk he
      refine go hz hX Tab.Ok.nil Try.func18 (lpQn ps ns i k) (no_and (decide_eq_false (by omega)) ⟨⟨by omega, by omega⟩, nexti ?_⟩)
      rw [List.any_eq_false]
      intro x hx
      obtain ⟨z, hz2, rfl⟩ := List.getElem_of_mem hx
      have := he z (by omega)
      rw [getD_lt hz2] at this
      rw [this]; simp
    | succ j ih =>
      intro k hk he
      have hlt : k < ns.length := by omega
      refine go hz hX Tab.Ok.nil Try.func18 (lpQn ps ns i k) (yes_and (decide_eq_true (by omega)) ⟨by omega, by omega, ?_⟩)
      have hit := hq k hlt
      have nxt := fun h : loudF (ns.getD k (CL.d cN)) = false => ih (k + 1) (by omega) fun x hx => by
        by_cases e : x = k
        · subst e; exact h
        · exact he x (by omega)
      have ek : el ns (k : Int) = ns.getD k (CL.d cN) := by show ns.getD (k : Int).toNat _ = _; rw [Int.toNat_natCast]
      rw [ek]
      generalize ns.getD k (CL.d cN) = x at *
      have hi1 : inI64 ((k : Int) + 1) := ⟨by omega, by omega⟩
      have yes : ∀ {A : Prop} {L : List AObj}, loudF x = true → (decide ((k : Int) ≥ 0) = true → Ends [tBool] (quietF ps, ()) L (.s (.bool !decide ((i : Int) ≥ 0)))) ∧ (decide ((k : Int) ≥ 0) = false → A) := fun h => yes_and (decide_eq_true (by omega)) (by
        rw [hit h, show decide ((i : Int) ≥ 0) = true from decide_eq_true (by omega)]; exact ends_is rfl)
      have lf : loudF x = if nK x == 5 || nK x == 2 then nE x == 1 else (nK x == 6 || nK x == 15 || nK x == 1) && nE x == 3 := rfl
      cases k5 : nK x == 5 with
      | true =>
        refine yes_and rfl ?_
        rw [k5] at lf
        cases e1 : nE x == 1 with
        | true => exact yes_and rfl (yes (lf.trans e1))
        | false => exact no_and rfl ⟨hi1, nxt (lf.trans e1)⟩
      | false =>
        refine no_and rfl ?_
        rw [k5] at lf
        cases k2 : nK x == 2 with
        | true =>
          refine yes_and rfl ?_
          rw [k2] at lf
          cases e1 : nE x == 1 with
          | true => exact yes_and rfl (yes (lf.trans e1))
          | false => exact no_and rfl ⟨hi1, nxt (lf.trans e1)⟩
        | false =>
          refine no_and rfl ?_
          rw [k2] at lf
          have three : (nK x == 6 || nK x == 15 || nK x == 1) = true → ∀ {A : Prop} {L : List AObj}, (( nE x == 3) = true → (decide ((k : Int) ≥ 0) = true → Ends [tBool] (quietF ps, ()) L (.s (.bool !decide ((i : Int) ≥ 0)))) ∧ (decide ((k : Int) ≥ 0) = false → A)) ∧ ((nE x == 3) = false → inI64 ((k : Int) + 1) ∧ Safe P 18 X (Ends [tBool] (quietF ps, ())) (cQn ps ns (i : Int) ((k : Int) + 1))) := fun h => by
            intro A L
            rw [h] at lf
            cases e1 : nE x == 3 with
            | true => exact yes_and rfl (yes (lf.trans e1))
            | false => exact no_and rfl ⟨hi1, nxt (lf.trans e1)⟩
          cases k6 : nK x == 6 with
          | true => exact yes_and rfl (three (by rw [k6]; rfl))
          | false =>
            refine no_and rfl ?_
            cases k15 : nK x == 15 with
            | true => exact yes_and rfl (three (by rw [k6, k15]; rfl))
            | false =>
              refine no_and rfl ?_
              cases k1 : nK x == 1 with
              | true => exact yes_and rfl (three (by rw [k6, k15, k1]; rfl))
              | false =>
                refine no_and rfl ⟨hi1, nxt ?_⟩
                rw [lf, k6, k15, k1]; rfl
  have loop : ∀ (j i : Nat), i + j = ps.length → (∀ x (h : x < i), (pO (el ps (x : Int))).any loudF = false) → Safe P 18 X (Ends [tBool] (quietF ps, ())) (cQu ps (i : Int)) := by
    intro j
    induction j with
    | zero =>
      intro i hi he
      refine go hz hX Tab.Ok.nil Try.func18 (lpQu ps i) (no_and (decide_eq_false (by omega)) ?_)
      have e : quietF ps = true := by
        unfold quietF
        have : ps.any (fun p => (pO p).any loudF) = false := by
          rw [List.any_eq_false]
          intro p hp
          obtain ⟨z, hz2, rfl⟩ := List.getElem_of_mem hp
          have := he z (by omega)
          rw [el_lt hz2] at this
          rw [this]; simp
        rw [this]; rfl
      rw [e]; exact ends_isl rfl
    | succ j ih =>
      intro i hi he
      refine go hz hX Tab.Ok.nil Try.func18 (lpQu ps i) (yes_and (decide_eq_true (by omega)) ⟨by omega, by omega, ?_⟩)
      exact inner i (by omega) (fun h => ih (i + 1) (by omega) fun x hx => by
        by_cases e : x = i
        · subst e; exact h
        · exact he x (by omega)) _ 0 (Nat.zero_add _) fun x hx => absurd hx (Nat.not_lt_zero _)
  exact go hz hX Tab.Ok.nil Try.func18 (trQu ps) (loop ps.length 0 (Nat.zero_add _) fun x hx => absurd hx (Nat.not_lt_zero _))
theorem tabSG_ok {Z : Glob} {F : Ss → Cnt} : (tabSG F).Ok P Z := Tab.Ok.cons (FnS.sum (S := sCtG 40 F) (by
  rintro ⟨cs, ps, nm, k⟩ ⟨h, _⟩ ρ G w vs hz hs hd
  exact counted_ok (by kernel_rfl) (h Z) () trivial ρ G w vs hz hs hd) mCG) Tab.Ok.nil
theorem stepsG_ok {Z : Glob} (F : Ss → Cnt) : FnOk P Z 15 [tDefs, tSs, tSi] [tInt] (fun (ps, cs, (nm, k, ()), ()) => [StOkC 40 cs ps nm k (F cs ps nm k)]) (fun (ps, cs, (nm, k, ()), ()) => (F cs ps nm k, ())) := by
  refine fnOk_of_safe Try.func15 (by kernel_rfl) (by kernel_rfl) ?_
  rintro ⟨(ps : Ps), (cs : Ss), ⟨(nm : ByteArray), (k : Int), ⟨⟩⟩, ⟨⟩⟩ _ ⟨hst, _⟩ X hX hz
  show Safe P 15 X (Ends [tInt] (F cs ps nm k, ())) _
  refine go hz hX tabSG_ok Try.func15 (trStepsG F ps cs nm k) ⟨rfl, rfl, hst, ?_⟩
  exact ends_eq _ rfl (by kernel_rfl)
end Ds
