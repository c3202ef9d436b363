/- Lemmas: W1, W2, W3, SxGlob, S1, S2, S3, S4, S5, S6, S7, T1, T2, T4, T5, T6, T7, T8, SxMapVar. -/
import Derived.WideKeyElems2
import Derived.ChangeBears2
import Derived.LaidLaws
import Derived.Test.YtgfngdhelbfmdaaDoorPD

namespace Ds
open Go Go.Sx Go.Proofs Lf
theorem trL18 (ck nx : Int) (ps : Ps) (is : Is) (cs : Cs) (ws : Ws) : run P tab0.sum Tryd.f10 nsL22 (start Tryd.f10 [avSt ck nx ps is cs ws] []) =
  Tree.ite (decide ((↑(List.length ps) : Int) > (15 : Int))) (Tree.ret [AObj.own [AV.s (SV.int IntKind.i64 ck), AV.s (SV.int IntKind.i64 nx), AV.s (SV.ro (Con.typ cP ps)), AV.s (SV.ro (Con.typ cI is)), AV.s (SV.ro (Con.typ cC cs)), AV.s (SV.ro (Con.typ cW ws))] (27 : Nat)] (AV.s (SV.blit true))) (Tree.ite (decide ((↑(List.length is) : Int) > (170 : Int))) (Tree.ret [AObj.own [AV.s (SV.int IntKind.i64 ck), AV.s (SV.int IntKind.i64 nx), AV.s (SV.ro (Con.typ cP ps)), AV.s (SV.ro (Con.typ cI is)), AV.s (SV.ro (Con.typ cC cs)), AV.s (SV.ro (Con.typ cW ws))] (27 : Nat)] (AV.s (SV.blit true))) (Tree.ite (decide ((↑(List.length cs) : Int) > (400 : Int))) (Tree.ret [AObj.own [AV.s (SV.int IntKind.i64 ck), AV.s (SV.int IntKind.i64 nx), AV.s (SV.ro (Con.typ cP ps)), AV.s (SV.ro (Con.typ cI is)), AV.s (SV.ro (Con.typ cC cs)), AV.s (SV.ro (Con.typ cW ws))] (27 : Nat)] (AV.s (SV.blit true))) (Tree.ite (decide ((↑(List.length ws) : Int) > (200 : Int))) (Tree.ret [AObj.own [AV.s (SV.int IntKind.i64 ck), AV.s (SV.int IntKind.i64 nx), AV.s (SV.ro (Con.typ cP ps)), AV.s (SV.ro (Con.typ cI is)), AV.s (SV.ro (Con.typ cC cs)), AV.s (SV.ro (Con.typ cW ws))] (27 : Nat)] (AV.s (SV.blit true))) (Tree.at (Cfg.mk (sl (61 : Nat) [((1 : Nat), AV.ptr (0 : Nat) (0 : Nat)), ((3 : Nat), AV.s (SV.int IntKind.i64 (0 : Int)))]) [AObj.own [AV.s (SV.int IntKind.i64 ck), AV.s (SV.int IntKind.i64 nx), AV.s (SV.ro (Con.typ cP ps)), AV.s (SV.ro (Con.typ cI is)), AV.s (SV.ro (Con.typ cC cs)), AV.s (SV.ro (Con.typ cW ws))] (27 : Nat)] (hd Tryd.f10 (4 : Nat)) (Stk.mk none false (0 : Nat) [] (0 : Nat))))))) := by kernel_rfl
noncomputable def cL18 (ck nx : Int) (ps : Ps) (is : Is) (cs : Cs) (ws : Ws) (i : Int) : Cfg := ⟨sl 61 [(1, .ptr 0 0), (3, avI i)], [obSt ck nx ps is cs ws], hd Tryd.f10 4, {}⟩
theorem loopL18 (ck nx : Int) (ps : Ps) (is : Is) (cs : Cs) (ws : Ws) (i : Int) : run P tab0.sum Tryd.f10 nsL22 (cL18 ck nx ps is cs ws i) =
  Tree.ite (decide (i < (↑(List.length ps) : Int))) (Tree.need ((0 : Int) ≤ i) (Tree.need (i < (↑(List.length ps) : Int)) (Tree.ite (decide ((↑(pO (el ps i)).length : Int) > (60 : Int))) (Tree.ret [AObj.own [AV.s (SV.int IntKind.i64 ck), AV.s (SV.int IntKind.i64 nx), AV.s (SV.ro (Con.typ cP ps)), AV.s (SV.ro (Con.typ cI is)), AV.s (SV.ro (Con.typ cC cs)), AV.s (SV.ro (Con.typ cW ws))] (27 : Nat)] (AV.s (SV.blit true))) (Tree.need ((0 : Int) ≤ i) (Tree.need (i < (↑(List.length ps) : Int)) (Tree.ite (decide ((↑(pF (el ps i)).length : Int) > (120 : Int))) (Tree.ret [AObj.own [AV.s (SV.int IntKind.i64 ck), AV.s (SV.int IntKind.i64 nx), AV.s (SV.ro (Con.typ cP ps)), AV.s (SV.ro (Con.typ cI is)), AV.s (SV.ro (Con.typ cC cs)), AV.s (SV.ro (Con.typ cW ws))] (27 : Nat)] (AV.s (SV.blit true))) (Tree.need ((0 : Int) ≤ i) (Tree.need (i < (↑(List.length ps) : Int)) (Tree.ite (decide ((↑(pV (el ps i)).length : Int) > (50 : Int))) (Tree.ret [AObj.own [AV.s (SV.int IntKind.i64 ck), AV.s (SV.int IntKind.i64 nx), AV.s (SV.ro (Con.typ cP ps)), AV.s (SV.ro (Con.typ cI is)), AV.s (SV.ro (Con.typ cC cs)), AV.s (SV.ro (Con.typ cW ws))] (27 : Nat)] (AV.s (SV.blit true))) (Tree.need (inI64 (i + (1 : Int))) (Tree.at (Cfg.mk (sl (61 : Nat) [((1 : Nat), AV.ptr (0 : Nat) (0 : Nat)), ((3 : Nat), AV.s (SV.int IntKind.i64 (i + (1 : Int))))]) [AObj.own [AV.s (SV.int IntKind.i64 ck), AV.s (SV.int IntKind.i64 nx), AV.s (SV.ro (Con.typ cP ps)), AV.s (SV.ro (Con.typ cI is)), AV.s (SV.ro (Con.typ cC cs)), AV.s (SV.ro (Con.typ cW ws))] (27 : Nat)] (hd Tryd.f10 (4 : Nat)) (Stk.mk none false (0 : Nat) [] (0 : Nat)))))))))))))) (Tree.ret [AObj.own [AV.s (SV.int IntKind.i64 ck), AV.s (SV.int IntKind.i64 nx), AV.s (SV.ro (Con.typ cP ps)), AV.s (SV.ro (Con.typ cI is)), AV.s (SV.ro (Con.typ cC cs)), AV.s (SV.ro (Con.typ cW ws))] (27 : Nat)] (AV.s (SV.blit false))) := by kernel_rfl
abbrev sumAdd := sumR [tSt, tIt] [tSr, tInt, tInt] (fun ((_, nx, _, is, _, _, ()), _) => [(is : Is).length ≤ 1000000, -9223372036854775808 ≤ (nx : Int)])
    (fun ((ck, nx, ps, is, cs, ws, ()), x, ()) => ((ck, addN is nx (iU x) (iS x), ps, addL is nx x, cs, ws, ()), addI is nx (iU x) (iS x), addE is nx (iU x) (iS x), ()))
abbrev sumI18 := sumOf [tNs, tNs] [tBool] (fun (a, b, ()) => [(a : List Int) = b]) (fun _ => (true, ()))
def tabA18 : Tab := [(13, sumAdd), (17, sumKi), (30, sumI18), (15, sumDp)]
theorem trA18  : run P tabA18.sum Tryd.f11 [] (start Tryd.f11 [] []) =
  Tree.need ((0 : Nat) ≤ (1000000 : Nat))
  (Tree.need ((-9223372036854775808 : (B.int IntKind.i64).V) ≤ (0 : Int))
    (Tree.need (List.length (addL [] (0 : Int) ((0 : Int), (0 : Int), (1 : Int), ByteArray.empty, (-1 : Int), (-1 : Int), (0 : Int), ByteArray.empty, ())) ≤ (1000000 : Nat))
      (Tree.need ((-9223372036854775808 : (B.int IntKind.i64).V) ≤ (1 : Int))
        (Tree.need (List.length (addL (addL [] (0 : Int) ((0 : Int), (0 : Int), (1 : Int), ByteArray.empty, (-1 : Int), (-1 : Int), (0 : Int), ByteArray.empty, ())) (1 : Int) ((0 : Int), (1 : Int), (2 : Int), ByteArray.empty, (0 : Int), (0 : Int), (0 : Int), ByteArray.empty, ())) ≤ (1000000 : Nat))
          (Tree.need ((-9223372036854775808 : (B.int IntKind.i64).V) ≤ (2 : Int))
            (Tree.ite true
              (Tree.ite true
                (Tree.ite true
                  (Tree.ite true
                    (Tree.ite true
                      (Tree.need (List.length (addL (addL [] (0 : Int) ((0 : Int), (0 : Int), (1 : Int), ByteArray.empty, (-1 : Int), (-1 : Int), (0 : Int), ByteArray.empty, ())) (1 : Int) ((0 : Int), (1 : Int), (2 : Int), ByteArray.empty, (0 : Int), (0 : Int), (0 : Int), ByteArray.empty, ())) ≤ (1000000 : Nat))
                        (Tree.need (kidsF (esOf (addL (addL [] (0 : Int) ((0 : Int), (0 : Int), (1 : Int), ByteArray.empty, (-1 : Int), (-1 : Int), (0 : Int), ByteArray.empty, ())) (1 : Int) ((0 : Int), (1 : Int), (2 : Int), ByteArray.empty, (0 : Int), (0 : Int), (0 : Int), ByteArray.empty, ()))) (1 : Int) = [(2 : Int)]) (Tree.ite true (Tree.ret [AObj.own [AV.s (SV.int IntKind.i64 (0 : Int)), AV.s (SV.int IntKind.i64 (1 : Int)), AV.s (SV.ro (Con.typ cP [])), AV.s (SV.ro (Con.typ cI (addL [] (0 : Int) ((0 : Int), (0 : Int), (1 : Int), ByteArray.empty, (-1 : Int), (-1 : Int), (0 : Int), ByteArray.empty, ())))), AV.s (SV.ro (Con.typ cC [])), AV.s (SV.ro (Con.typ cW []))] (27 : Nat), AObj.own [AV.s (SV.int IntKind.i64 (0 : Int)), AV.s (SV.int IntKind.i64 (2 : Int)), AV.s (SV.ro (Con.typ cP [])), AV.s (SV.ro (Con.typ cI (addL (addL [] (0 : Int) ((0 : Int), (0 : Int), (1 : Int), ByteArray.empty, (-1 : Int), (-1 : Int), (0 : Int), ByteArray.empty, ())) (1 : Int) ((0 : Int), (1 : Int), (2 : Int), ByteArray.empty, (0 : Int), (0 : Int), (0 : Int), ByteArray.empty, ())))), AV.s (SV.ro (Con.typ cC [])), AV.s (SV.ro (Con.typ cW []))] (27 : Nat), AObj.own [AV.s (SV.int IntKind.i64 (0 : Int)), AV.s (SV.int IntKind.i64 (2 : Int)), AV.s (SV.ro (Con.typ cP [])), AV.s (SV.ro (Con.typ cI (addL (addL (addL [] (0 : Int) ((0 : Int), (0 : Int), (1 : Int), ByteArray.empty, (-1 : Int), (-1 : Int), (0 : Int), ByteArray.empty, ())) (1 : Int) ((0 : Int), (1 : Int), (2 : Int), ByteArray.empty, (0 : Int), (0 : Int), (0 : Int), ByteArray.empty, ())) (2 : Int) ((0 : Int), (9 : Int), (2 : Int), ByteArray.empty, (0 : Int), (0 : Int), (0 : Int), ByteArray.empty, ())))), AV.s (SV.ro (Con.typ cC [])), AV.s (SV.ro (Con.typ cW []))] (27 : Nat), AObj.vec (Con.ints IntKind.i64 (kidsF (esOf (addL (addL [] (0 : Int) ((0 : Int), (0 : Int), (1 : Int), ByteArray.empty, (-1 : Int), (-1 : Int), (0 : Int), ByteArray.empty, ())) (1 : Int) ((0 : Int), (1 : Int), (2 : Int), ByteArray.empty, (0 : Int), (0 : Int), (0 : Int), ByteArray.empty, ()))) (1 : Int))) (3 : Nat), AObj.vec (Con.ints IntKind.i64 [(2 : Int)]) (3 : Nat)] (AV.s (SV.bool true))) (Tree.ret [AObj.own [AV.s (SV.int IntKind.i64 (0 : Int)), AV.s (SV.int IntKind.i64 (1 : Int)), AV.s (SV.ro (Con.typ cP [])), AV.s (SV.ro (Con.typ cI (addL [] (0 : Int) ((0 : Int), (0 : Int), (1 : Int), ByteArray.empty, (-1 : Int), (-1 : Int), (0 : Int), ByteArray.empty, ())))), AV.s (SV.ro (Con.typ cC [])), AV.s (SV.ro (Con.typ cW []))] (27 : Nat), AObj.own [AV.s (SV.int IntKind.i64 (0 : Int)), AV.s (SV.int IntKind.i64 (2 : Int)), AV.s (SV.ro (Con.typ cP [])), AV.s (SV.ro (Con.typ cI (addL (addL [] (0 : Int) ((0 : Int), (0 : Int), (1 : Int), ByteArray.empty, (-1 : Int), (-1 : Int), (0 : Int), ByteArray.empty, ())) (1 : Int) ((0 : Int), (1 : Int), (2 : Int), ByteArray.empty, (0 : Int), (0 : Int), (0 : Int), ByteArray.empty, ())))), AV.s (SV.ro (Con.typ cC [])), AV.s (SV.ro (Con.typ cW []))] (27 : Nat), AObj.own [AV.s (SV.int IntKind.i64 (0 : Int)), AV.s (SV.int IntKind.i64 (2 : Int)), AV.s (SV.ro (Con.typ cP [])), AV.s (SV.ro (Con.typ cI (addL (addL (addL [] (0 : Int) ((0 : Int), (0 : Int), (1 : Int), ByteArray.empty, (-1 : Int), (-1 : Int), (0 : Int), ByteArray.empty, ())) (1 : Int) ((0 : Int), (1 : Int), (2 : Int), ByteArray.empty, (0 : Int), (0 : Int), (0 : Int), ByteArray.empty, ())) (2 : Int) ((0 : Int), (9 : Int), (2 : Int), ByteArray.empty, (0 : Int), (0 : Int), (0 : Int), ByteArray.empty, ())))), AV.s (SV.ro (Con.typ cC [])), AV.s (SV.ro (Con.typ cW []))] (27 : Nat), AObj.vec (Con.ints IntKind.i64 (kidsF (esOf (addL (addL [] (0 : Int) ((0 : Int), (0 : Int), (1 : Int), ByteArray.empty, (-1 : Int), (-1 : Int), (0 : Int), ByteArray.empty, ())) (1 : Int) ((0 : Int), (1 : Int), (2 : Int), ByteArray.empty, (0 : Int), (0 : Int), (0 : Int), ByteArray.empty, ()))) (1 : Int))) (3 : Nat), AObj.vec (Con.ints IntKind.i64 [(2 : Int)]) (3 : Nat)] (AV.s (SV.blit false))))))
                      (Tree.ret [AObj.own [AV.s (SV.int IntKind.i64 (0 : Int)), AV.s (SV.int IntKind.i64 (1 : Int)), AV.s (SV.ro (Con.typ cP [])), AV.s (SV.ro (Con.typ cI (addL [] (0 : Int) ((0 : Int), (0 : Int), (1 : Int), ByteArray.empty, (-1 : Int), (-1 : Int), (0 : Int), ByteArray.empty, ())))), AV.s (SV.ro (Con.typ cC [])), AV.s (SV.ro (Con.typ cW []))] (27 : Nat), AObj.own [AV.s (SV.int IntKind.i64 (0 : Int)), AV.s (SV.int IntKind.i64 (2 : Int)), AV.s (SV.ro (Con.typ cP [])), AV.s (SV.ro (Con.typ cI (addL (addL [] (0 : Int) ((0 : Int), (0 : Int), (1 : Int), ByteArray.empty, (-1 : Int), (-1 : Int), (0 : Int), ByteArray.empty, ())) (1 : Int) ((0 : Int), (1 : Int), (2 : Int), ByteArray.empty, (0 : Int), (0 : Int), (0 : Int), ByteArray.empty, ())))), AV.s (SV.ro (Con.typ cC [])), AV.s (SV.ro (Con.typ cW []))] (27 : Nat), AObj.own [AV.s (SV.int IntKind.i64 (0 : Int)), AV.s (SV.int IntKind.i64 (2 : Int)), AV.s (SV.ro (Con.typ cP [])), AV.s (SV.ro (Con.typ cI (addL (addL (addL [] (0 : Int) ((0 : Int), (0 : Int), (1 : Int), ByteArray.empty, (-1 : Int), (-1 : Int), (0 : Int), ByteArray.empty, ())) (1 : Int) ((0 : Int), (1 : Int), (2 : Int), ByteArray.empty, (0 : Int), (0 : Int), (0 : Int), ByteArray.empty, ())) (2 : Int) ((0 : Int), (9 : Int), (2 : Int), ByteArray.empty, (0 : Int), (0 : Int), (0 : Int), ByteArray.empty, ())))), AV.s (SV.ro (Con.typ cC [])), AV.s (SV.ro (Con.typ cW []))] (27 : Nat)] (AV.s (SV.blit false))))
                    (Tree.ret [AObj.own [AV.s (SV.int IntKind.i64 (0 : Int)), AV.s (SV.int IntKind.i64 (1 : Int)), AV.s (SV.ro (Con.typ cP [])), AV.s (SV.ro (Con.typ cI (addL [] (0 : Int) ((0 : Int), (0 : Int), (1 : Int), ByteArray.empty, (-1 : Int), (-1 : Int), (0 : Int), ByteArray.empty, ())))), AV.s (SV.ro (Con.typ cC [])), AV.s (SV.ro (Con.typ cW []))] (27 : Nat), AObj.own [AV.s (SV.int IntKind.i64 (0 : Int)), AV.s (SV.int IntKind.i64 (2 : Int)), AV.s (SV.ro (Con.typ cP [])), AV.s (SV.ro (Con.typ cI (addL (addL [] (0 : Int) ((0 : Int), (0 : Int), (1 : Int), ByteArray.empty, (-1 : Int), (-1 : Int), (0 : Int), ByteArray.empty, ())) (1 : Int) ((0 : Int), (1 : Int), (2 : Int), ByteArray.empty, (0 : Int), (0 : Int), (0 : Int), ByteArray.empty, ())))), AV.s (SV.ro (Con.typ cC [])), AV.s (SV.ro (Con.typ cW []))] (27 : Nat), AObj.own [AV.s (SV.int IntKind.i64 (0 : Int)), AV.s (SV.int IntKind.i64 (2 : Int)), AV.s (SV.ro (Con.typ cP [])), AV.s (SV.ro (Con.typ cI (addL (addL (addL [] (0 : Int) ((0 : Int), (0 : Int), (1 : Int), ByteArray.empty, (-1 : Int), (-1 : Int), (0 : Int), ByteArray.empty, ())) (1 : Int) ((0 : Int), (1 : Int), (2 : Int), ByteArray.empty, (0 : Int), (0 : Int), (0 : Int), ByteArray.empty, ())) (2 : Int) ((0 : Int), (9 : Int), (2 : Int), ByteArray.empty, (0 : Int), (0 : Int), (0 : Int), ByteArray.empty, ())))), AV.s (SV.ro (Con.typ cC [])), AV.s (SV.ro (Con.typ cW []))] (27 : Nat)] (AV.s (SV.blit false))))
                  (Tree.ret [AObj.own [AV.s (SV.int IntKind.i64 (0 : Int)), AV.s (SV.int IntKind.i64 (1 : Int)), AV.s (SV.ro (Con.typ cP [])), AV.s (SV.ro (Con.typ cI (addL [] (0 : Int) ((0 : Int), (0 : Int), (1 : Int), ByteArray.empty, (-1 : Int), (-1 : Int), (0 : Int), ByteArray.empty, ())))), AV.s (SV.ro (Con.typ cC [])), AV.s (SV.ro (Con.typ cW []))] (27 : Nat), AObj.own [AV.s (SV.int IntKind.i64 (0 : Int)), AV.s (SV.int IntKind.i64 (2 : Int)), AV.s (SV.ro (Con.typ cP [])), AV.s (SV.ro (Con.typ cI (addL (addL [] (0 : Int) ((0 : Int), (0 : Int), (1 : Int), ByteArray.empty, (-1 : Int), (-1 : Int), (0 : Int), ByteArray.empty, ())) (1 : Int) ((0 : Int), (1 : Int), (2 : Int), ByteArray.empty, (0 : Int), (0 : Int), (0 : Int), ByteArray.empty, ())))), AV.s (SV.ro (Con.typ cC [])), AV.s (SV.ro (Con.typ cW []))] (27 : Nat), AObj.own [AV.s (SV.int IntKind.i64 (0 : Int)), AV.s (SV.int IntKind.i64 (2 : Int)), AV.s (SV.ro (Con.typ cP [])), AV.s (SV.ro (Con.typ cI (addL (addL (addL [] (0 : Int) ((0 : Int), (0 : Int), (1 : Int), ByteArray.empty, (-1 : Int), (-1 : Int), (0 : Int), ByteArray.empty, ())) (1 : Int) ((0 : Int), (1 : Int), (2 : Int), ByteArray.empty, (0 : Int), (0 : Int), (0 : Int), ByteArray.empty, ())) (2 : Int) ((0 : Int), (9 : Int), (2 : Int), ByteArray.empty, (0 : Int), (0 : Int), (0 : Int), ByteArray.empty, ())))), AV.s (SV.ro (Con.typ cC [])), AV.s (SV.ro (Con.typ cW []))] (27 : Nat)] (AV.s (SV.blit false))))
                (Tree.ret [AObj.own [AV.s (SV.int IntKind.i64 (0 : Int)), AV.s (SV.int IntKind.i64 (1 : Int)), AV.s (SV.ro (Con.typ cP [])), AV.s (SV.ro (Con.typ cI (addL [] (0 : Int) ((0 : Int), (0 : Int), (1 : Int), ByteArray.empty, (-1 : Int), (-1 : Int), (0 : Int), ByteArray.empty, ())))), AV.s (SV.ro (Con.typ cC [])), AV.s (SV.ro (Con.typ cW []))] (27 : Nat), AObj.own [AV.s (SV.int IntKind.i64 (0 : Int)), AV.s (SV.int IntKind.i64 (2 : Int)), AV.s (SV.ro (Con.typ cP [])), AV.s (SV.ro (Con.typ cI (addL (addL [] (0 : Int) ((0 : Int), (0 : Int), (1 : Int), ByteArray.empty, (-1 : Int), (-1 : Int), (0 : Int), ByteArray.empty, ())) (1 : Int) ((0 : Int), (1 : Int), (2 : Int), ByteArray.empty, (0 : Int), (0 : Int), (0 : Int), ByteArray.empty, ())))), AV.s (SV.ro (Con.typ cC [])), AV.s (SV.ro (Con.typ cW []))] (27 : Nat), AObj.own [AV.s (SV.int IntKind.i64 (0 : Int)), AV.s (SV.int IntKind.i64 (2 : Int)), AV.s (SV.ro (Con.typ cP [])), AV.s (SV.ro (Con.typ cI (addL (addL (addL [] (0 : Int) ((0 : Int), (0 : Int), (1 : Int), ByteArray.empty, (-1 : Int), (-1 : Int), (0 : Int), ByteArray.empty, ())) (1 : Int) ((0 : Int), (1 : Int), (2 : Int), ByteArray.empty, (0 : Int), (0 : Int), (0 : Int), ByteArray.empty, ())) (2 : Int) ((0 : Int), (9 : Int), (2 : Int), ByteArray.empty, (0 : Int), (0 : Int), (0 : Int), ByteArray.empty, ())))), AV.s (SV.ro (Con.typ cC [])), AV.s (SV.ro (Con.typ cW []))] (27 : Nat)] (AV.s (SV.blit false))))
              (Tree.ret [AObj.own [AV.s (SV.int IntKind.i64 (0 : Int)), AV.s (SV.int IntKind.i64 (1 : Int)), AV.s (SV.ro (Con.typ cP [])), AV.s (SV.ro (Con.typ cI (addL [] (0 : Int) ((0 : Int), (0 : Int), (1 : Int), ByteArray.empty, (-1 : Int), (-1 : Int), (0 : Int), ByteArray.empty, ())))), AV.s (SV.ro (Con.typ cC [])), AV.s (SV.ro (Con.typ cW []))] (27 : Nat), AObj.own [AV.s (SV.int IntKind.i64 (0 : Int)), AV.s (SV.int IntKind.i64 (2 : Int)), AV.s (SV.ro (Con.typ cP [])), AV.s (SV.ro (Con.typ cI (addL (addL [] (0 : Int) ((0 : Int), (0 : Int), (1 : Int), ByteArray.empty, (-1 : Int), (-1 : Int), (0 : Int), ByteArray.empty, ())) (1 : Int) ((0 : Int), (1 : Int), (2 : Int), ByteArray.empty, (0 : Int), (0 : Int), (0 : Int), ByteArray.empty, ())))), AV.s (SV.ro (Con.typ cC [])), AV.s (SV.ro (Con.typ cW []))] (27 : Nat), AObj.own [AV.s (SV.int IntKind.i64 (0 : Int)), AV.s (SV.int IntKind.i64 (2 : Int)), AV.s (SV.ro (Con.typ cP [])), AV.s (SV.ro (Con.typ cI (addL (addL (addL [] (0 : Int) ((0 : Int), (0 : Int), (1 : Int), ByteArray.empty, (-1 : Int), (-1 : Int), (0 : Int), ByteArray.empty, ())) (1 : Int) ((0 : Int), (1 : Int), (2 : Int), ByteArray.empty, (0 : Int), (0 : Int), (0 : Int), ByteArray.empty, ())) (2 : Int) ((0 : Int), (9 : Int), (2 : Int), ByteArray.empty, (0 : Int), (0 : Int), (0 : Int), ByteArray.empty, ())))), AV.s (SV.ro (Con.typ cC [])), AV.s (SV.ro (Con.typ cW []))] (27 : Nat)] (AV.s (SV.blit false))))))))) := by kernel_rfl
theorem trI18 (a b : List Int) : run P tab0.sum Tryd.f30 nsVs (start Tryd.f30 [avL a, avL b] []) =
  Tree.ite ((↑a.length : Int) != (↑b.length : Int)) (Tree.ret [] (AV.s (SV.blit false))) (Tree.at (Cfg.mk (sl (26 : Nat) [((0 : Nat), AV.s (SV.ro (Con.ints IntKind.i64 a))), ((1 : Nat), AV.s (SV.ro (Con.ints IntKind.i64 b))), ((5 : Nat), AV.s (SV.int IntKind.i64 (0 : Int)))]) [] (hd Tryd.f30 (4 : Nat)) (Stk.mk none false (0 : Nat) [] (0 : Nat)))) := by kernel_rfl
noncomputable def cI18 (a b : List Int) (i : Int) : Cfg := ⟨sl 26 [(0, avL a), (1, avL b), (5, avI i)], [], hd Tryd.f30 4, {}⟩
theorem loopI18 (a b : List Int) (i : Int) : run P tab0.sum Tryd.f30 nsVs (cI18 a b i) =
  Tree.ite (decide (i < (↑a.length : Int))) (Tree.need ((0 : Int) ≤ i) (Tree.need (i < (↑a.length : Int)) (Tree.need ((0 : Int) ≤ i) (Tree.need (i < (↑b.length : Int)) (Tree.ite (a.getD i.toNat (0 : Int) != b.getD i.toNat (0 : Int)) (Tree.ret [] (AV.s (SV.blit false))) (Tree.need (inI64 (i + (1 : Int))) (Tree.at (Cfg.mk (sl (26 : Nat) [((0 : Nat), AV.s (SV.ro (Con.ints IntKind.i64 a))), ((1 : Nat), AV.s (SV.ro (Con.ints IntKind.i64 b))), ((5 : Nat), AV.s (SV.int IntKind.i64 (i + (1 : Int))))]) [] (hd Tryd.f30 (4 : Nat)) (Stk.mk none false (0 : Nat) [] (0 : Nat)))))))))) (Tree.ret [] (AV.s (SV.blit true))) := by kernel_rfl
abbrev sumL18 := sumOf [tSt] [tBool] (fun _ => []) (fun ((_, _, ps, is, cs, ws, ()), ()) => (large22 ps is cs ws, ()))
end Ds

namespace Ds
open Go Go.Sx Go.Proofs Lf
theorem l18_ok {Z : Glob} : FnOk P Z 10 [tSt] [tBool] (fun _ => []) (fun ((_, _, ps, is, cs, ws, ()), ()) => (large22 ps is cs ws, ())) := by
  refine fnOk_of_safe Tryd.func10 (by kernel_rfl) (by kernel_rfl) ?_
  rintro ⟨⟨(ck : Int), (nx : Int), (ps : Ps), (is : Is), (cs : Cs), (ws : Ws), ⟨⟩⟩, ⟨⟩⟩ ⟨⟨_, _, (hl : ps.length ≤ maxLen), _⟩, _⟩ _ X hX hz
  have hl2 : ps.length ≤ 9223372036854775807 := by unfold maxLen at hl; omega
  show Safe P 10 X (Ends [tBool] (large22 ps is cs ws, ())) _
  have big : (ps.length > 15 ∨ is.length > 170 ∨ cs.length > 400 ∨ ws.length > 200) → large22 ps is cs ws = true := fun h => by unfold large22; rw [decide_eq_true h]; rfl
  have loop : ¬ (ps.length > 15 ∨ is.length > 170 ∨ cs.length > 400 ∨ ws.length > 200) → ∀ (j k : Nat), k + j = ps.length → (∀ i (hi : i < k) (h2 : i < ps.length), ¬ ((pO ps[i]).length > 60 ∨ (pF ps[i]).length > 120 ∨ (pV ps[i]).length > 50)) → Safe P 10 X (Ends [tBool] (large22 ps is cs ws, ())) (cL18 ck nx ps is cs ws (k : Int)) := by
    intro hno j
    induction j with
    | zero =>
      intro k hk hi
      have e : large22 ps is cs ws = false := by
        unfold large22
        rw [decide_eq_false hno, Bool.false_or, List.any_eq_false]
        intro p hp
        obtain ⟨i, h1, rfl⟩ := List.getElem_of_mem hp
        rw [decide_eq_true_iff]
        exact hi i (by omega) h1
      refine go hz hX Tab.Ok.nil Tryd.func10 (loopL18 ck nx ps is cs ws k) (no_and (decide_eq_false (by omega)) ?_)
      rw [e]; exact ends_eq _ rfl (by kernel_rfl)
    | succ j ih =>
      intro k hk hi
      have hlt : k < ps.length := by omega
      refine go hz hX Tab.Ok.nil Tryd.func10 (loopL18 ck nx ps is cs ws k) (yes_and (decide_eq_true (by omega)) ⟨by omega, by omega, ?_⟩)
      rw [el_lt hlt]
      have yes : ((pO ps[k]).length > 60 ∨ (pF ps[k]).length > 120 ∨ (pV ps[k]).length > 50) → large22 ps is cs ws = true := fun h => by
        unfold large22
        rw [show (ps.any fun p => decide ((pO p).length > 60 ∨ (pF p).length > 120 ∨ (pV p).length > 50)) = true from List.any_eq_true.2 ⟨_, List.getElem_mem hlt, decide_eq_true h⟩, Bool.or_true]
      refine ⟨fun h => ?_, fun h => ⟨by omega, by omega, fun h2 => ?_, fun h2 => ⟨by omega, by omega, fun h3 => ?_, fun h3 => ⟨⟨by omega, by omega⟩, ih (k + 1) (by omega) fun i h4 h5 => ?_⟩⟩⟩⟩
      · rw [yes (.inl (by have := of_decide_eq_true h; omega))]; exact ends_eq _ rfl (by kernel_rfl)
      · rw [yes (.inr (.inl (by have := of_decide_eq_true h2; omega)))]; exact ends_eq _ rfl (by kernel_rfl)
      · rw [yes (.inr (.inr (by have := of_decide_eq_true h3; omega)))]; exact ends_eq _ rfl (by kernel_rfl)
      · by_cases e : i = k
        · subst e
          have := of_decide_eq_false h
          have := of_decide_eq_false h2
          have := of_decide_eq_false h3
          omega
        · exact hi i (by omega) h5
  refine go hz hX Tab.Ok.nil Tryd.func10 (trL18 ck nx ps is cs ws) ⟨fun h => ?_, fun h => ⟨fun h2 => ?_, fun h2 => ⟨fun h3 => ?_, fun h3 => ⟨fun h4 => ?_, fun h4 => ?_⟩⟩⟩⟩
  · rw [big (by have := of_decide_eq_true h; omega)]; exact ends_eq _ rfl (by kernel_rfl)
  · rw [big (by have := of_decide_eq_true h2; omega)]; exact ends_eq _ rfl (by kernel_rfl)
  · rw [big (by have := of_decide_eq_true h3; omega)]; exact ends_eq _ rfl (by kernel_rfl)
  · rw [big (by have := of_decide_eq_true h4; omega)]; exact ends_eq _ rfl (by kernel_rfl)
  · exact loop (by have := of_decide_eq_false h; have := of_decide_eq_false h2; have := of_decide_eq_false h3; have := of_decide_eq_false h4; omega) ps.length 0 (by omega) fun i hi => absurd hi (Nat.not_lt_zero _)
theorem i18_ok {Z : Glob} : FnOk P Z 30 [tNs, tNs] [tBool] (fun (a, b, ()) => [(a : List Int) = b]) (fun _ => (true, ())) := by
  refine fnOk_of_safe Tryd.func30 (by kernel_rfl) (by kernel_rfl) ?_
  rintro ⟨(l : List Int), (l2 : List Int), ⟨⟩⟩ ⟨(hl : l.length ≤ maxLen), _⟩ ⟨(rfl : l = l2), _⟩ X hX hz
  have hl2 : l.length ≤ 9223372036854775807 := by unfold maxLen at hl; omega
  show Safe P 30 X (Ends [tBool] (true, ())) _
  have loop : ∀ (n k : Nat), k + n = l.length → Safe P 30 X (Ends [tBool] (true, ())) (cI18 l l (k : Int)) := by
    intro n
    induction n with
    | zero => exact fun k hk => go hz hX Tab.Ok.nil Tryd.func30 (loopI18 l l k) (no_and (decide_eq_false (by omega)) (ends_eq _ rfl (by kernel_rfl)))
    | succ n ih => exact fun k hk => go hz hX Tab.Ok.nil Tryd.func30 (loopI18 l l k) (yes_and (decide_eq_true (by omega)) ⟨by omega, by omega, by omega, by omega, no_and (by simp) ⟨⟨by omega, by omega⟩, ih (k + 1) (by omega)⟩⟩)
  exact go hz hX Tab.Ok.nil Tryd.func30 (trI18 l l) (no_and (by simp) (loop l.length 0 (by omega)))
theorem tabA18_ok {Z : Glob} : tabA18.Ok P Z := Tab.Ok.cons add_ok.sumR (Tab.Ok.cons kids_ok.sum (Tab.Ok.cons i18_ok.sum (Tab.Ok.cons depth_ok.sum Tab.Ok.nil)))
theorem a18_ok {Z : Glob} : FnOk P Z 11 [] [tBool] (fun _ => []) (fun _ => (true, ())) := by
  refine fnOk_of_safe Tryd.func11 (by kernel_rfl) (by kernel_rfl) ?_
  rintro ⟨⟩ _ _ X hX hz
  exact go hz hX tabA18_ok Tryd.func11 trA18 ⟨by decide, by decide, Nat.le_of_ble_eq_true (by kernel_rfl), by decide, Nat.le_of_ble_eq_true (by kernel_rfl), by decide,
    yes_and rfl (yes_and rfl (yes_and rfl (yes_and rfl (yes_and rfl ⟨Nat.le_of_ble_eq_true (by kernel_rfl), by kernel_rfl, yes_and rfl (ends_eq _ rfl (by kernel_rfl))⟩))))⟩
end Ds

namespace Ds
open Go Go.Sx Go.Proofs Lf
theorem get_at {is : Is} {id : Int} (h : hasI is id = true) : ∃ h2 : (placeF is id).toNat < is.length, getI is id = is[(placeF is id).toNat] ∧ iI is[(placeF is id).toNat] = id := by
  rcases place_range is id with ⟨e, _⟩ | ⟨_, h1, h2, h3⟩
  · have := of_decide_eq_true h; omega
  · refine ⟨h2, ?_, h3⟩
    rw [el_has h]
    exact getD_lt h2
theorem get_no {is : Is} {id : Int} (h : hasI is id = false) : getI is id = CL.d cI := by
  show el is (whereF is id) = _
  unfold whereF
  rw [if_neg (of_decide_eq_false h)]
  show is.getD (is.length : Int).toNat (CL.d cI) = _
  simp [List.getD]
theorem get_at' {is : Is} {id : Int} (h : hasI is id = true) : is[(placeF is id).toNat]? = some (getI is id) ∧ iI (getI is id) = id := by
  obtain ⟨h2, h3, h4⟩ := get_at h
  rw [h3]
  exact ⟨List.getElem?_eq_getElem h2, h4⟩
end Ds

/-! A package variable that is a map of rows of bytes, and stands: how it is loaded, and what is found in it. -/
namespace Go.Sx
open Go

/-- What the variable bears: the map, and what stands at a key, as the model has them. -/
structure MapVar (P : Program) (Z : Glob) (g : Nat) (t : TypeId) (row : Int → List Int) where
  m : Value
  at_ : Int → Value
  m1 : m.oneCell' = true
  at1 : ∀ n, (at_ n).oneCell' = true
  load : ∀ (o : Oper) (e : Operand → Value) (w : World), o.op = .load t (.global g) → e (.global g) = .pointer (some ⟨g, 0, none⟩) → Z.ok w → (execOp e o).run P w = .ok (.value m) w
  look : ∀ (w : World) (n : Int), Z.ok w → (Instr.lookup t m (.int .u8 n) false).run P w = .ok (at_ n) w
  row_ : ∀ (w : World) (n : Int), Z.ok w → DenS (fun _ => False) w (.ro (.ints .u8 (row n))) (at_ n)

section
variable {ρ ρ' : Nat → Value} {H H' H1 H2 : AHeap} {G O O' : Nat → Prop} {w w' w1 w2 : World} {P : Program} {X : Ctx} {K : List AObj → AV → Prop} {Z : Glob}

/-- Whether an operation is done, told by the slots. -/
def gOk (ops : Array Oper) (o : Oper) (tmps : List AV) : Bool :=
  match o.guard with
  | none => true
  | some (g, want) => match (ops[g]?).bind (·.dst) with
    | some d => (match tmps.getD d (.s .junk) with
      | .s (.blit b) => b == want
      | .s (.bool b) => b == want
      | _ => false)
    | none => false

theorem gOk_wanted {ops : Array Oper} {o : Oper} {s : St} {a : Act} (h : gOk ops o s.tmps = true) (hr : Rep X ρ s a w) : Region.wanted o (yielded ops a.tmps) = true := by
  unfold gOk at h
  split at h
  · rename_i hg; simp [Region.wanted, hg]
  · rename_i g want hg
    split at h
    · rename_i d hd
      split at h
      · rename_i b hb
        have := blit_get hr hb
        simp only [Region.wanted, hg, yielded, hd, Option.bind_some, this]
        simpa using h
      · rename_i b hb
        have hlt : d < s.tmps.length := by
          rcases Nat.lt_or_ge d s.tmps.length with h3 | h3
          · exact h3
          · rw [List.getD, List.getElem?_eq_none h3] at hb
            simp at hb
        have h2 := DenS_of_V (by simp) (hb ▸ hr.den d)
        have hlt2 : d < a.tmps.size := by rw [hr.size] at hlt; exact hlt
        have : a.tmps[d]? = some (.bool b) := by
          have h4 : a.tmps.getD d undef = a.tmps[d] := by simp [Array.getD, hlt2]
          rw [h4] at h2
          rw [Array.getElem?_eq_getElem hlt2]
          generalize a.tmps[d] = u at h2
          cases h2
          rfl
        simp only [Region.wanted, hg, yielded, hd, Option.bind_some, this]
        simpa using h
      · cases h
    · cases h

/-- One operation, by a rule of its own, also behind a guard. -/
theorem oneG_safe {f : FuncId} {fn : Func} {key i : Nat} {ops : Array Oper} {o : Oper} {k : List Item} (hat : opAt fn key i = some (ops, o, k)) (hnd : noDefer ops = true) {tmps : List AV} {L : List AObj} {stk : Stk} (hg : gOk ops o tmps = true)
    (hin : (stk.plain || slotsIn (Cfg.n ⟨tmps, L, [], stk⟩) ops) = true)
    (h : ∀ G E ρ a w, Rep (X.at G E) ρ ⟨tmps, L⟩ a w → Yields P o a.eval w (fun v w' => ∃ q ρ', Rep (X.at G E) ρ' (St.put ⟨tmps, L⟩ o.dst q) (a.put o.dst v) w' ∧
      Safe P f X K ⟨(St.put ⟨tmps, L⟩ o.dst q).tmps, (St.put ⟨tmps, L⟩ o.dst q).H, cal fn key (i + 1), stk⟩)) : Safe P f X K ⟨tmps, L, cal fn key i, stk⟩ := by
  obtain ⟨ho, hc⟩ : ops[i]? = some o ∧ ∀ j, cal fn key j = .inRegion ops (List.range' j (ops.size - j)) :: k := by
    unfold opAt at hat
    split at hat
    · rename_i n ops' d k' hh
      simp only [Option.map_eq_some_iff, Prod.mk.injEq] at hat
      obtain ⟨o', e1, rfl, rfl, rfl⟩ := hat
      exact ⟨e1, fun j => by unfold cal; rw [hh]⟩
    · cases hat
  intro G E ρ a w hG1 hG2 hr b t fs hw
  obtain ⟨rest, Ds, htop0, hplain, hwf⟩ := hw.top (c := ⟨tmps, L, [], stk⟩) hr.dp.len
  have htop : TopR (Cfg.n ⟨tmps, L, [], stk⟩) rest Ds a t := by
    have e : (⟨a.tmps.toList.toArray, []⟩ : Act) = a := by
      have := hr.defers
      cases a
      simp at this ⊢
      exact this
    rw [e] at htop0
    exact htop0
  have hin' : InTop (Cfg.n ⟨tmps, L, [], stk⟩) rest ops := or_in hin hplain (fun x => x)
  have hdst := (hin'.op ho).imp (fun x => x) (·.2.1)
  have hi : i < ops.size := (Array.getElem?_eq_some_iff.1 ho).1
  have hrange : List.range' i (ops.size - i) = i :: List.range' (i + 1) (ops.size - (i + 1)) := by
    rw [show ops.size - i = ops.size - (i + 1) + 1 from by omega, List.range'_succ]
  have hy' := (h G E ρ a w hr).congr (htop.same hin' ho).1
  have hwant : Region.wanted o (yielded ops t.tmps) = true := by rw [(htop.same hin' ho).2]; exact gOk_wanted hg hr
  show GoesM P f (Post X K) b t (cal fn key i) fs w
  rw [hc i, hrange]
  intro cs
  obtain ⟨v, w', ⟨q, ρ', hr', hs⟩, hst⟩ := op_step ho hwant (defer_ne hnd ho) hy' b k (fs ++ cs) (rest := List.range' (i + 1) (ops.size - (i + 1)))
  have hput := htop.put hdst v
  have := hs G E ρ' _ w' hG1 hG2 hr' b (t.put o.dst v) fs (hwf _ _ hput hr'.defers)
  rw [hc (i + 1)] at this
  obtain ⟨e, w2, fr, g1, g2, g3⟩ := this cs
  exact ⟨e, w2, fr, g1, Comes.of_steps hst g2, g3⟩

theorem put_none {s : St} {d : Option Tmp} {r : Nat → AV} : (s.put d ⟨[], [], [], r⟩).look = s.look := by
  funext id
  show (s.H ++ [])[id]? = s.H[id]?
  rw [List.append_nil]
def loadOf (g : Nat) (x : Array Oper × Oper × List Item) : Option (TypeId × Tmp) := match x.2.1.op, x.2.1.dst with
  | .load t (.global g'), some d => bif noDefer x.1 && g.beq g' then some (t, d) else none
  | _, _ => none
def lookOf (x : Array Oper × Oper × List Item) : Option (TypeId × Tmp × Tmp × Tmp) := match x.2.1.op, x.2.1.dst with
  | .lookup t (.tmp y) (.tmp z) false, some d => bif noDefer x.1 then some (t, y, z, d) else none
  | _, _ => none

/-- The variable is loaded. -/
theorem gload_safe {g : Nat} {t : TypeId} {row : Int → List Int} (KV : MapVar P Z g t row) (hz : ZCtx Z X) {f : FuncId} {fn : Func} {key i : Nat} {d : Tmp} (hat : (opAt fn key i).bind (loadOf g) = some (t, d)) {tmps : List AV} {L : List AObj} {stk : Stk}
    (hg : ((opAt fn key i).all fun y => gOk y.1 y.2.1 tmps) = true) (hin : (stk.plain || ((opAt fn key i).any fun y => slotsIn (Cfg.n ⟨tmps, L, [], stk⟩) y.1)) = true)
    (h : Safe P f X K ⟨tmps.set d (.s (.raw KV.m [])), L, cal fn key (i + 1), stk⟩) : Safe P f X K ⟨tmps, L, cal fn key i, stk⟩ := by
  obtain ⟨⟨ops, o, k⟩, h1, h2⟩ := Option.bind_eq_some_iff.1 hat
  rw [h1] at hin hg
  unfold loadOf at h2
  split at h2
  · rename_i t' g' d' e2 e3
    simp only [] at e2 e3
    rw [Bool.cond_eq_ite] at h2
    split at h2
    · rename_i hnd
      simp only [Bool.and_eq_true, Nat.beq_eq] at hnd
      obtain ⟨hnd, rfl⟩ := hnd
      simp only [Option.some.injEq, Prod.mk.injEq] at h2
      obtain ⟨rfl, rfl⟩ := h2
      refine oneG_safe h1 hnd (by simpa using hg) (by simpa using hin) fun G E ρ a w hr => ?_
      have hzw := (zed (hz.at G E) hr.frm hr.sat hr.from_).1
      unfold Yields
      rw [KV.load o a.eval w e2 rfl hzw]
      have hgood : Good ρ (St.look ⟨tmps, L⟩) (X.at G E).G w (St.put ⟨tmps, L⟩ o.dst ⟨[], [], [], fun _ => .s (.raw KV.m [])⟩).look (.s (.raw KV.m [])) KV.m w := by
        rw [put_none]; exact Good.val hr.sat (DenV_s (.raw _ _ KV.m1))
      obtain ⟨ρ', hr'⟩ := hr.good (q := ⟨[], [], [], fun _ => .s (.raw KV.m [])⟩) (.inl rfl) hgood
      refine ⟨_, ρ', hr', ?_⟩
      rw [e3]
      simpa [St.put, upList, setSlot] using h
    · cases h2
  · cases h2

/-- What stands at a key is looked up. -/
theorem glook_safe {g : Nat} {t : TypeId} {row : Int → List Int} (KV : MapVar P Z g t row) (hz : ZCtx Z X) {f : FuncId} {fn : Func} {key i : Nat} {y z d : Tmp} (hat : (opAt fn key i).bind lookOf = some (t, y, z, d)) {tmps : List AV} {L : List AObj} {stk : Stk}
    (hg : ((opAt fn key i).all fun y => gOk y.1 y.2.1 tmps) = true) (hin : (stk.plain || ((opAt fn key i).any fun y => slotsIn (Cfg.n ⟨tmps, L, [], stk⟩) y.1)) = true)
    (hy : tmps.getD y (.s .junk) = .s (.raw KV.m [])) {n : Int} (hn : tmps.getD z (.s .junk) = .s (.int .u8 n))
    (h : Safe P f X K ⟨tmps.set d (.s (.raw (KV.at_ n) (row n))), L, cal fn key (i + 1), stk⟩) : Safe P f X K ⟨tmps, L, cal fn key i, stk⟩ := by
  obtain ⟨⟨ops, o, k⟩, h1, h2⟩ := Option.bind_eq_some_iff.1 hat
  rw [h1] at hin hg
  unfold lookOf at h2
  split at h2
  · rename_i t' y' z' d' e2 e3
    simp only [] at e2 e3
    rw [Bool.cond_eq_ite] at h2
    split at h2
    · rename_i hnd
      simp only [Option.some.injEq, Prod.mk.injEq] at h2
      obtain ⟨rfl, rfl, rfl, rfl⟩ := h2
      refine oneG_safe h1 hnd (by simpa using hg) (by simpa using hin) fun G E ρ a w hr => ?_
      have hzw := (zed (hz.at G E) hr.frm hr.sat hr.from_).1
      have ey : a.eval (.tmp y') = KV.m := by
        have hd := hr.den y'
        rw [show (St.tmps ⟨tmps, L⟩).getD y' (.s .junk) = .s (.raw KV.m []) from hy] at hd
        have := DenS_of_V (by simp) hd
        show a.tmps.getD y' undef = _
        generalize a.tmps.getD y' undef = u at this
        cases this
        rfl
      have ez : a.eval (.tmp z') = .int .u8 n := by
        have hd := hr.den z'
        rw [show (St.tmps ⟨tmps, L⟩).getD z' (.s .junk) = .s (.int .u8 n) from hn] at hd
        have := DenS_of_V (by simp) hd
        show a.tmps.getD z' undef = _
        generalize a.tmps.getD z' undef = u at this
        cases this
        rfl
      refine yields_new (s := Instr.lookup t' (a.eval (.tmp y')) (a.eval (.tmp z')) false) ⟨KV.at_ n, w, by rw [ey, ez]; exact KV.look w n hzw, ?_⟩ (by simp only [execOp, e2])
      have hgood : Good ρ (St.look ⟨tmps, L⟩) (X.at G E).G w (St.put ⟨tmps, L⟩ o.dst ⟨[], [], [], fun _ => .s (.raw (KV.at_ n) (row n))⟩).look (.s (.raw (KV.at_ n) (row n))) (KV.at_ n) w := by rw [put_none]; exact Good.val hr.sat (DenV_s (.raw _ _ (KV.at1 n)))
      obtain ⟨ρ', hr'⟩ := hr.good (q := ⟨[], [], [], fun _ => .s (.raw (KV.at_ n) (row n))⟩) (.inl rfl) hgood
      refine ⟨_, ρ', hr', ?_⟩
      rw [e3]
      simpa [St.put, upList, setSlot] using h
    · cases h2
  · cases h2

/-- What is asked of such a row, of a function that answers a truth. -/
def sumKV (S : Value → List Int → Prop) (F : List Int → Int → Bool) : Nat → List AV → RM Res := fun _ args =>
  match args with
  | [.s (.raw v zs), .s (.int .u8 n)] => .ret ⟨[S v zs], [], [], fun _ => .s (.bool (F zs n))⟩
  | _ => .fail "a row that stands in a variable"

theorem Good.outer (hs : Sat ρ H G w) {ρ1 : Nat → Value} {H1 H2 : AHeap} (h1 : ∀ b, ¬ Own ρ1 H1 b) {r r2 : AV} {v : Value} (hg : Good ρ1 H1 (fun _ => False) w H2 r v w') (hr : ∀ (ρ : Nat → Value) (H : AHeap) (O : Nat → Prop), DenV ρ H O w' r2 v) : Good ρ H G w H r2 v w' := by
  obtain ⟨ρ', s', d', st', fr⟩ := hg
  have hheap : ∀ b, b < w.heap.size → w'.heap[b]? = w.heap[b]? := fun b hb => fr.heap b hb (h1 b)
  have st : Step ρ H (Hot ρ H G) w ρ H (Hot ρ H G) w' := ⟨fun _ _ _ => rfl, fun _ o h => ⟨o, h, fun c' e' e => ⟨c', e', e, rfl, rfl⟩⟩, fun _ h => .inl h, fun b hb _ => hheap b hb, st'.size⟩
  have hlow : ∀ id o, H id = some o → ∀ b, o.alive = true → blk (ρ id) = some b → w'.heap[b]? = w.heap[b]? := fun id o ho b hal hb => hheap b (own_lt hs ⟨id, o, ho, hal, hb⟩)
  exact ⟨ρ, ⟨fun id o ho => (hs.obj id o ho).step st (hlow id o ho), hs.inj, hs.apart, fun b hb => Nat.lt_of_lt_of_le (hs.low b hb) st'.size⟩, hr _ _ _, st, ⟨fr.os, fr.tape, fr.output, fun b hb _ => hheap b hb⟩⟩

theorem sumKV_ok {g : Nat} {t e : TypeId} {row : Int → List Int} (KV : MapVar P Z g t row) {f : FuncId} {F : List Int → Int → Bool} (h : FnOk P Z f [.b (.row (.ints .u8) e), .b (.int .u8)] [.b .bool] (fun _ => []) (fun (l, x, ()) => (F l x, ()))) :
    SOk1 P Z f (sumKV (fun v zs => ∃ n, v = KV.at_ n ∧ zs = row n) F) := by
  intro base args H q hq hn ρ G w vs hb hz hs hd
  unfold sumKV at hq
  split at hq
  · rename_i v zs x
    simp only [RM.eval, Option.some.injEq] at hq
    subst hq
    obtain ⟨⟨n, rfl, rfl⟩, _⟩ := hn
    obtain ⟨v1, r1, rfl, d1, hd⟩ := DenL_cons.1 hd
    obtain ⟨v2, r2, rfl, d2, hd⟩ := DenL_cons.1 hd
    obtain rfl := DenL_nil.1 hd
    have d1 := DenS_of_V (by simp) d1
    have d2 := DenS_of_V (by simp) d2
    cases d1
    cases d2
    have hot : ∀ b, Hot (fun _ => undef) (fun _ => none) (fun _ => False) b → False := fun b hb => by
      rcases hb with ⟨j, x, hx, _⟩ | hb
      · cases hx
      · exact hb
    have eqH : Hot (fun _ => undef) (fun _ => none) (fun _ => False) = (fun _ => False) := funext fun b => propext ⟨hot b, False.elim⟩
    have hd3 : DenL (fun _ => undef) (fun _ => none) (Hot (fun _ => undef) (fun _ => none) (fun _ => False)) w (AL.av [.b (.row (.ints .u8) e), .b (.int .u8)] (row n, x, ())) [KV.at_ n, .int .u8 x] :=
      DenL_cons.2 ⟨_, _, rfl, DenV_s (by rw [eqH]; exact KV.row_ w n hz.1), DenL_cons.2 ⟨_, _, rfl, DenV_s (.int _ _), DenL_nil.2 rfl⟩⟩
    refine (h (row n, x, ()) (AL.okL hd3) trivial (fun _ => False) w _ (fun b hb => hb.elim) hz.1 hd3).mono ?_
    rintro en w' ⟨v, rfl, hg⟩
    refine ⟨v, rfl, ?_⟩
    have hg2 := hg
    obtain ⟨ρ', s', d', _, _⟩ := hg2
    have d' := DenS_of_V (x := .bool (F (row n) x)) (by simp) d'
    cases d'
    rw [resH_nil]
    exact Good.outer hs (fun b hb => by obtain ⟨j, x, hx, _⟩ := hb; cases hx) hg (fun ρ H O => DenV_s (.bool _))
  · simp [RM.eval] at hq

/-- A truth that is known, told as a literal. -/
theorem slot_blit_safe {f : FuncId} {tmps : List AV} {L : List AObj} {todo : List Item} {stk : Stk} {t : Nat} {b : Bool} (ht : tmps.getD t (.s .junk) = .s (.bool b))
    (h : Safe P f X K ⟨tmps.set t (.s (.blit b)), L, todo, stk⟩) : Safe P f X K ⟨tmps, L, todo, stk⟩ := by
  intro G E ρ a w hG1 hG2 hr b t' fs hw
  exact h G E ρ a w hG1 hG2 (hr.refine (d := t) (x := .s (.bool _)) ht bool_refine) b t' fs hw
end
end Go.Sx

namespace Ds
open Go Go.Sx Go.Proofs Lf
def scnF (k : Int) : Bool := [(11 : Int), 12, 13].contains k
theorem trSc0 (x : Int) : run P tabAc.sum Tryd.f62 [] (start Tryd.f62 [avU x] []) =
  Tree.ret [AObj.vec (Con.ints IntKind.u8 [(11 : Int), (12 : Int), (13 : Int)]) (5 : Nat)] (AV.s (SV.bool ([(11 : Int), (12 : Int), (13 : Int)].contains x))) := by kernel_rfl
abbrev sumSc0 := sumOf [tU8] [tBool] (fun _ => []) (fun (k, ()) => (scnF k, ()))
def tabSc : Tab := [(61, sumNo), (15, sumDp), (62, sumSc0), (19, sumFi)]
def nsSc : List (Nat × Norm) := [(8, ⟨[], [2, 3, 5, 6], 0, [(2, 9, true, .typ cV [], eV), (2, 10, true, .strs [], 9)]⟩)]
theorem trSc (ck nx : Int) (ps : Ps) (is : Is) (cs : Cs) (ws : Ws) (x : CL cI) : run P tabSc.sum Tryd.f33 nsSc (start Tryd.f33 [avSt ck nx ps is cs ws, avIt x] []) =
  Tree.ite (iF x != (-1 : Int)) (Tree.ret [AObj.own [AV.s (SV.int IntKind.i64 ck), AV.s (SV.int IntKind.i64 nx), AV.s (SV.ro (Con.typ cP ps)), AV.s (SV.ro (Con.typ cI is)), AV.s (SV.ro (Con.typ cC cs)), AV.s (SV.ro (Con.typ cW ws))] (27 : Nat), AObj.own [AV.s (SV.int IntKind.i64 (iI x)), AV.s (SV.int IntKind.i64 (iU x)), AV.s (SV.int IntKind.u8 (iS x)), AV.s (SV.str (iP x)), AV.s (SV.int IntKind.i64 (iN x)), AV.s (SV.int IntKind.i64 (iF x)), AV.s (SV.int IntKind.u8 (iW x)), AV.s (SV.str (iC x))] (31 : Nat), AObj.own [AV.s (SV.str (nN (ndF ps (iP x) (iN x)))), AV.s (SV.int IntKind.u8 (nK (ndF ps (iP x) (iN x)))), AV.s (SV.int IntKind.i64 (nI (ndF ps (iP x) (iN x)))), AV.s (SV.int IntKind.i64 (nO (ndF ps (iP x) (iN x)))), AV.s (SV.int IntKind.u8 (nE (ndF ps (iP x) (iN x)))), AV.s (SV.str (nY (ndF ps (iP x) (iN x)))), AV.s (SV.str (nT (ndF ps (iP x) (iN x)))), AV.s (SV.str (nS (ndF ps (iP x) (iN x)))), AV.s (SV.bool (nB (ndF ps (iP x) (iN x)))), AV.s (SV.ro (Con.typ cV (nV (ndF ps (iP x) (iN x))))), AV.s (SV.ro (Con.strs (nZ (ndF ps (iP x) (iN x)))))] (45 : Nat)] (AV.s (SV.blit false)))
  (Tree.ite (iW x != (0 : Int)) (Tree.ret [AObj.own [AV.s (SV.int IntKind.i64 ck), AV.s (SV.int IntKind.i64 nx), AV.s (SV.ro (Con.typ cP ps)), AV.s (SV.ro (Con.typ cI is)), AV.s (SV.ro (Con.typ cC cs)), AV.s (SV.ro (Con.typ cW ws))] (27 : Nat), AObj.own [AV.s (SV.int IntKind.i64 (iI x)), AV.s (SV.int IntKind.i64 (iU x)), AV.s (SV.int IntKind.u8 (iS x)), AV.s (SV.str (iP x)), AV.s (SV.int IntKind.i64 (iN x)), AV.s (SV.int IntKind.i64 (iF x)), AV.s (SV.int IntKind.u8 (iW x)), AV.s (SV.str (iC x))] (31 : Nat), AObj.own [AV.s (SV.str (nN (ndF ps (iP x) (iN x)))), AV.s (SV.int IntKind.u8 (nK (ndF ps (iP x) (iN x)))), AV.s (SV.int IntKind.i64 (nI (ndF ps (iP x) (iN x)))), AV.s (SV.int IntKind.i64 (nO (ndF ps (iP x) (iN x)))), AV.s (SV.int IntKind.u8 (nE (ndF ps (iP x) (iN x)))), AV.s (SV.str (nY (ndF ps (iP x) (iN x)))), AV.s (SV.str (nT (ndF ps (iP x) (iN x)))), AV.s (SV.str (nS (ndF ps (iP x) (iN x)))), AV.s (SV.bool (nB (ndF ps (iP x) (iN x)))), AV.s (SV.ro (Con.typ cV (nV (ndF ps (iP x) (iN x))))), AV.s (SV.ro (Con.strs (nZ (ndF ps (iP x) (iN x)))))] (45 : Nat)] (AV.s (SV.blit false)))
    (Tree.ite (!decide (iC x = ByteArray.empty)) (Tree.ret [AObj.own [AV.s (SV.int IntKind.i64 ck), AV.s (SV.int IntKind.i64 nx), AV.s (SV.ro (Con.typ cP ps)), AV.s (SV.ro (Con.typ cI is)), AV.s (SV.ro (Con.typ cC cs)), AV.s (SV.ro (Con.typ cW ws))] (27 : Nat), AObj.own [AV.s (SV.int IntKind.i64 (iI x)), AV.s (SV.int IntKind.i64 (iU x)), AV.s (SV.int IntKind.u8 (iS x)), AV.s (SV.str (iP x)), AV.s (SV.int IntKind.i64 (iN x)), AV.s (SV.int IntKind.i64 (iF x)), AV.s (SV.int IntKind.u8 (iW x)), AV.s (SV.str (iC x))] (31 : Nat), AObj.own [AV.s (SV.str (nN (ndF ps (iP x) (iN x)))), AV.s (SV.int IntKind.u8 (nK (ndF ps (iP x) (iN x)))), AV.s (SV.int IntKind.i64 (nI (ndF ps (iP x) (iN x)))), AV.s (SV.int IntKind.i64 (nO (ndF ps (iP x) (iN x)))), AV.s (SV.int IntKind.u8 (nE (ndF ps (iP x) (iN x)))), AV.s (SV.str (nY (ndF ps (iP x) (iN x)))), AV.s (SV.str (nT (ndF ps (iP x) (iN x)))), AV.s (SV.str (nS (ndF ps (iP x) (iN x)))), AV.s (SV.bool (nB (ndF ps (iP x) (iN x)))), AV.s (SV.ro (Con.typ cV (nV (ndF ps (iP x) (iN x))))), AV.s (SV.ro (Con.strs (nZ (ndF ps (iP x) (iN x)))))] (45 : Nat)] (AV.s (SV.blit false)))
      (Tree.ite (decide (depthF is (iI x) > (12 : Int))) (Tree.ret [AObj.own [AV.s (SV.int IntKind.i64 ck), AV.s (SV.int IntKind.i64 nx), AV.s (SV.ro (Con.typ cP ps)), AV.s (SV.ro (Con.typ cI is)), AV.s (SV.ro (Con.typ cC cs)), AV.s (SV.ro (Con.typ cW ws))] (27 : Nat), AObj.own [AV.s (SV.int IntKind.i64 (iI x)), AV.s (SV.int IntKind.i64 (iU x)), AV.s (SV.int IntKind.u8 (iS x)), AV.s (SV.str (iP x)), AV.s (SV.int IntKind.i64 (iN x)), AV.s (SV.int IntKind.i64 (iF x)), AV.s (SV.int IntKind.u8 (iW x)), AV.s (SV.str (iC x))] (31 : Nat), AObj.own [AV.s (SV.str (nN (ndF ps (iP x) (iN x)))), AV.s (SV.int IntKind.u8 (nK (ndF ps (iP x) (iN x)))), AV.s (SV.int IntKind.i64 (nI (ndF ps (iP x) (iN x)))), AV.s (SV.int IntKind.i64 (nO (ndF ps (iP x) (iN x)))), AV.s (SV.int IntKind.u8 (nE (ndF ps (iP x) (iN x)))), AV.s (SV.str (nY (ndF ps (iP x) (iN x)))), AV.s (SV.str (nT (ndF ps (iP x) (iN x)))), AV.s (SV.str (nS (ndF ps (iP x) (iN x)))), AV.s (SV.bool (nB (ndF ps (iP x) (iN x)))), AV.s (SV.ro (Con.typ cV (nV (ndF ps (iP x) (iN x))))), AV.s (SV.ro (Con.strs (nZ (ndF ps (iP x) (iN x)))))] (45 : Nat)] (AV.s (SV.blit false)))
        (Tree.ite (iN x != (-1 : Int))
          (Tree.ite (!hasN ps (iP x) (iN x)) (Tree.ret [AObj.own [AV.s (SV.int IntKind.i64 ck), AV.s (SV.int IntKind.i64 nx), AV.s (SV.ro (Con.typ cP ps)), AV.s (SV.ro (Con.typ cI is)), AV.s (SV.ro (Con.typ cC cs)), AV.s (SV.ro (Con.typ cW ws))] (27 : Nat), AObj.own [AV.s (SV.int IntKind.i64 (iI x)), AV.s (SV.int IntKind.i64 (iU x)), AV.s (SV.int IntKind.u8 (iS x)), AV.s (SV.str (iP x)), AV.s (SV.int IntKind.i64 (iN x)), AV.s (SV.int IntKind.i64 (iF x)), AV.s (SV.int IntKind.u8 (iW x)), AV.s (SV.str (iC x))] (31 : Nat), AObj.own [AV.s (SV.str (nN (ndF ps (iP x) (iN x)))), AV.s (SV.int IntKind.u8 (nK (ndF ps (iP x) (iN x)))), AV.s (SV.int IntKind.i64 (nI (ndF ps (iP x) (iN x)))), AV.s (SV.int IntKind.i64 (nO (ndF ps (iP x) (iN x)))), AV.s (SV.int IntKind.u8 (nE (ndF ps (iP x) (iN x)))), AV.s (SV.str (nY (ndF ps (iP x) (iN x)))), AV.s (SV.str (nT (ndF ps (iP x) (iN x)))), AV.s (SV.str (nS (ndF ps (iP x) (iN x)))), AV.s (SV.bool (nB (ndF ps (iP x) (iN x)))), AV.s (SV.ro (Con.typ cV (nV (ndF ps (iP x) (iN x))))), AV.s (SV.ro (Con.strs (nZ (ndF ps (iP x) (iN x)))))] (45 : Nat)] (AV.s (SV.blit false)))
            (Tree.ite (!scnF (nK (ndF ps (iP x) (iN x)))) (Tree.ret [AObj.own [AV.s (SV.int IntKind.i64 ck), AV.s (SV.int IntKind.i64 nx), AV.s (SV.ro (Con.typ cP ps)), AV.s (SV.ro (Con.typ cI is)), AV.s (SV.ro (Con.typ cC cs)), AV.s (SV.ro (Con.typ cW ws))] (27 : Nat), AObj.own [AV.s (SV.int IntKind.i64 (iI x)), AV.s (SV.int IntKind.i64 (iU x)), AV.s (SV.int IntKind.u8 (iS x)), AV.s (SV.str (iP x)), AV.s (SV.int IntKind.i64 (iN x)), AV.s (SV.int IntKind.i64 (iF x)), AV.s (SV.int IntKind.u8 (iW x)), AV.s (SV.str (iC x))] (31 : Nat), AObj.own [AV.s (SV.str (nN (ndF ps (iP x) (iN x)))), AV.s (SV.int IntKind.u8 (nK (ndF ps (iP x) (iN x)))), AV.s (SV.int IntKind.i64 (nI (ndF ps (iP x) (iN x)))), AV.s (SV.int IntKind.i64 (nO (ndF ps (iP x) (iN x)))), AV.s (SV.int IntKind.u8 (nE (ndF ps (iP x) (iN x)))), AV.s (SV.str (nY (ndF ps (iP x) (iN x)))), AV.s (SV.str (nT (ndF ps (iP x) (iN x)))), AV.s (SV.str (nS (ndF ps (iP x) (iN x)))), AV.s (SV.bool (nB (ndF ps (iP x) (iN x)))), AV.s (SV.ro (Con.typ cV (nV (ndF ps (iP x) (iN x))))), AV.s (SV.ro (Con.strs (nZ (ndF ps (iP x) (iN x)))))] (45 : Nat)] (AV.s (SV.blit false))) (Tree.ite (iU x == (0 : Int)) (Tree.ret [AObj.own [AV.s (SV.int IntKind.i64 ck), AV.s (SV.int IntKind.i64 nx), AV.s (SV.ro (Con.typ cP ps)), AV.s (SV.ro (Con.typ cI is)), AV.s (SV.ro (Con.typ cC cs)), AV.s (SV.ro (Con.typ cW ws))] (27 : Nat), AObj.own [AV.s (SV.int IntKind.i64 (iI x)), AV.s (SV.int IntKind.i64 (iU x)), AV.s (SV.int IntKind.u8 (iS x)), AV.s (SV.str (iP x)), AV.s (SV.int IntKind.i64 (iN x)), AV.s (SV.int IntKind.i64 (iF x)), AV.s (SV.int IntKind.u8 (iW x)), AV.s (SV.str (iC x))] (31 : Nat), AObj.own [AV.s (SV.str (nN (ndF ps (iP x) (iN x)))), AV.s (SV.int IntKind.u8 (nK (ndF ps (iP x) (iN x)))), AV.s (SV.int IntKind.i64 (nI (ndF ps (iP x) (iN x)))), AV.s (SV.int IntKind.i64 (nO (ndF ps (iP x) (iN x)))), AV.s (SV.int IntKind.u8 (nE (ndF ps (iP x) (iN x)))), AV.s (SV.str (nY (ndF ps (iP x) (iN x)))), AV.s (SV.str (nT (ndF ps (iP x) (iN x)))), AV.s (SV.str (nS (ndF ps (iP x) (iN x)))), AV.s (SV.bool (nB (ndF ps (iP x) (iN x)))), AV.s (SV.ro (Con.typ cV (nV (ndF ps (iP x) (iN x))))), AV.s (SV.ro (Con.strs (nZ (ndF ps (iP x) (iN x)))))] (45 : Nat)] (AV.s (SV.bool (iN x == (-1 : Int))))) (Tree.at (Cfg.mk (sl (129 : Nat) [((2 : Nat), AV.ptr (0 : Nat) (0 : Nat)), ((3 : Nat), AV.ptr (1 : Nat) (0 : Nat)), ((5 : Nat), AV.ptr (2 : Nat) (0 : Nat)), ((6 : Nat), AV.s (SV.bool (hasN ps (iP x) (iN x))))]) [AObj.own [AV.s (SV.int IntKind.i64 ck), AV.s (SV.int IntKind.i64 nx), AV.s (SV.ro (Con.typ cP ps)), AV.s (SV.ro (Con.typ cI is)), AV.s (SV.ro (Con.typ cC cs)), AV.s (SV.ro (Con.typ cW ws))] (27 : Nat), AObj.own [AV.s (SV.int IntKind.i64 (iI x)), AV.s (SV.int IntKind.i64 (iU x)), AV.s (SV.int IntKind.u8 (iS x)), AV.s (SV.str (iP x)), AV.s (SV.int IntKind.i64 (iN x)), AV.s (SV.int IntKind.i64 (iF x)), AV.s (SV.int IntKind.u8 (iW x)), AV.s (SV.str (iC x))] (31 : Nat), AObj.own [AV.s (SV.str (nN (ndF ps (iP x) (iN x)))), AV.s (SV.int IntKind.u8 (nK (ndF ps (iP x) (iN x)))), AV.s (SV.int IntKind.i64 (nI (ndF ps (iP x) (iN x)))), AV.s (SV.int IntKind.i64 (nO (ndF ps (iP x) (iN x)))), AV.s (SV.int IntKind.u8 (nE (ndF ps (iP x) (iN x)))), AV.s (SV.str (nY (ndF ps (iP x) (iN x)))), AV.s (SV.str (nT (ndF ps (iP x) (iN x)))), AV.s (SV.str (nS (ndF ps (iP x) (iN x)))), AV.s (SV.bool (nB (ndF ps (iP x) (iN x)))), AV.s (SV.ro (Con.typ cV (nV (ndF ps (iP x) (iN x))))), AV.s (SV.ro (Con.strs (nZ (ndF ps (iP x) (iN x)))))] (45 : Nat)] (hr Tryd.f33 (8 : Nat)) (Stk.mk none false (0 : Nat) [] (0 : Nat)))))))
          (Tree.ite (iU x == (0 : Int)) (Tree.ret [AObj.own [AV.s (SV.int IntKind.i64 ck), AV.s (SV.int IntKind.i64 nx), AV.s (SV.ro (Con.typ cP ps)), AV.s (SV.ro (Con.typ cI is)), AV.s (SV.ro (Con.typ cC cs)), AV.s (SV.ro (Con.typ cW ws))] (27 : Nat), AObj.own [AV.s (SV.int IntKind.i64 (iI x)), AV.s (SV.int IntKind.i64 (iU x)), AV.s (SV.int IntKind.u8 (iS x)), AV.s (SV.str (iP x)), AV.s (SV.int IntKind.i64 (iN x)), AV.s (SV.int IntKind.i64 (iF x)), AV.s (SV.int IntKind.u8 (iW x)), AV.s (SV.str (iC x))] (31 : Nat), AObj.own [AV.s (SV.str (nN (ndF ps (iP x) (iN x)))), AV.s (SV.int IntKind.u8 (nK (ndF ps (iP x) (iN x)))), AV.s (SV.int IntKind.i64 (nI (ndF ps (iP x) (iN x)))), AV.s (SV.int IntKind.i64 (nO (ndF ps (iP x) (iN x)))), AV.s (SV.int IntKind.u8 (nE (ndF ps (iP x) (iN x)))), AV.s (SV.str (nY (ndF ps (iP x) (iN x)))), AV.s (SV.str (nT (ndF ps (iP x) (iN x)))), AV.s (SV.str (nS (ndF ps (iP x) (iN x)))), AV.s (SV.bool (nB (ndF ps (iP x) (iN x)))), AV.s (SV.ro (Con.typ cV (nV (ndF ps (iP x) (iN x))))), AV.s (SV.ro (Con.strs (nZ (ndF ps (iP x) (iN x)))))] (45 : Nat)] (AV.s (SV.bool (iN x == (-1 : Int))))) (Tree.at (Cfg.mk (sl (129 : Nat) [((2 : Nat), AV.ptr (0 : Nat) (0 : Nat)), ((3 : Nat), AV.ptr (1 : Nat) (0 : Nat)), ((5 : Nat), AV.ptr (2 : Nat) (0 : Nat)), ((6 : Nat), AV.s (SV.bool (hasN ps (iP x) (iN x))))]) [AObj.own [AV.s (SV.int IntKind.i64 ck), AV.s (SV.int IntKind.i64 nx), AV.s (SV.ro (Con.typ cP ps)), AV.s (SV.ro (Con.typ cI is)), AV.s (SV.ro (Con.typ cC cs)), AV.s (SV.ro (Con.typ cW ws))] (27 : Nat), AObj.own [AV.s (SV.int IntKind.i64 (iI x)), AV.s (SV.int IntKind.i64 (iU x)), AV.s (SV.int IntKind.u8 (iS x)), AV.s (SV.str (iP x)), AV.s (SV.int IntKind.i64 (iN x)), AV.s (SV.int IntKind.i64 (iF x)), AV.s (SV.int IntKind.u8 (iW x)), AV.s (SV.str (iC x))] (31 : Nat), AObj.own [AV.s (SV.str (nN (ndF ps (iP x) (iN x)))), AV.s (SV.int IntKind.u8 (nK (ndF ps (iP x) (iN x)))), AV.s (SV.int IntKind.i64 (nI (ndF ps (iP x) (iN x)))), AV.s (SV.int IntKind.i64 (nO (ndF ps (iP x) (iN x)))), AV.s (SV.int IntKind.u8 (nE (ndF ps (iP x) (iN x)))), AV.s (SV.str (nY (ndF ps (iP x) (iN x)))), AV.s (SV.str (nT (ndF ps (iP x) (iN x)))), AV.s (SV.str (nS (ndF ps (iP x) (iN x)))), AV.s (SV.bool (nB (ndF ps (iP x) (iN x)))), AV.s (SV.ro (Con.typ cV (nV (ndF ps (iP x) (iN x))))), AV.s (SV.ro (Con.strs (nZ (ndF ps (iP x) (iN x)))))] (45 : Nat)] (hr Tryd.f33 (8 : Nat)) (Stk.mk none false (0 : Nat) [] (0 : Nat))))))))) := by kernel_rfl
noncomputable def cSc (ck nx : Int) (ps : Ps) (is : Is) (cs : Cs) (ws : Ws) (x : CL cI) (n : CL cN) (b : Bool) : Cfg := ⟨sl 129 [(2, .ptr 0 0), (3, .ptr 1 0), (5, .ptr 2 0), (6, .s (.bool b))], [obSt ck nx ps is cs ws, obIt x, obNo n], hr Tryd.f33 8, {}⟩
theorem midSc (ck nx : Int) (ps : Ps) (is : Is) (cs : Cs) (ws : Ws) (x : CL cI) (n : CL cN) (b : Bool) : run P tabSc.sum Tryd.f33 nsSc (cSc ck nx ps is cs ws x n b) =
  Tree.ite (gS is (iU x) == (1 : Int))
  (Tree.ite b (Tree.ite (nK n == (13 : Int)) (Tree.ite (decide (gP is (iU x) = iP x)) (Tree.ret [AObj.own [AV.s (SV.int IntKind.i64 ck), AV.s (SV.int IntKind.i64 nx), AV.s (SV.ro (Con.typ cP ps)), AV.s (SV.ro (Con.typ cI is)), AV.s (SV.ro (Con.typ cC cs)), AV.s (SV.ro (Con.typ cW ws))] (27 : Nat), AObj.own [AV.s (SV.int IntKind.i64 (iI x)), AV.s (SV.int IntKind.i64 (iU x)), AV.s (SV.int IntKind.u8 (iS x)), AV.s (SV.str (iP x)), AV.s (SV.int IntKind.i64 (iN x)), AV.s (SV.int IntKind.i64 (iF x)), AV.s (SV.int IntKind.u8 (iW x)), AV.s (SV.str (iC x))] (31 : Nat), AObj.own [AV.s (SV.str (nN n)), AV.s (SV.int IntKind.u8 (nK n)), AV.s (SV.int IntKind.i64 (nI n)), AV.s (SV.int IntKind.i64 (nO n)), AV.s (SV.int IntKind.u8 (nE n)), AV.s (SV.str (nY n)), AV.s (SV.str (nT n)), AV.s (SV.str (nS n)), AV.s (SV.bool (nB n)), AV.s (SV.ro (Con.typ cV (nV n))), AV.s (SV.ro (Con.strs (nZ n)))] (45 : Nat), AObj.own [AV.s (SV.int IntKind.i64 (gI is (iU x))), AV.s (SV.int IntKind.i64 (gU is (iU x))), AV.s (SV.int IntKind.u8 (gS is (iU x))), AV.s (SV.str (gP is (iU x))), AV.s (SV.int IntKind.i64 (gN is (iU x))), AV.s (SV.int IntKind.i64 (gF is (iU x))), AV.s (SV.int IntKind.u8 (gW is (iU x))), AV.s (SV.str (gC is (iU x)))] (31 : Nat)] (AV.s (SV.bool (nI n == gN is (iU x))))) (Tree.ret [AObj.own [AV.s (SV.int IntKind.i64 ck), AV.s (SV.int IntKind.i64 nx), AV.s (SV.ro (Con.typ cP ps)), AV.s (SV.ro (Con.typ cI is)), AV.s (SV.ro (Con.typ cC cs)), AV.s (SV.ro (Con.typ cW ws))] (27 : Nat), AObj.own [AV.s (SV.int IntKind.i64 (iI x)), AV.s (SV.int IntKind.i64 (iU x)), AV.s (SV.int IntKind.u8 (iS x)), AV.s (SV.str (iP x)), AV.s (SV.int IntKind.i64 (iN x)), AV.s (SV.int IntKind.i64 (iF x)), AV.s (SV.int IntKind.u8 (iW x)), AV.s (SV.str (iC x))] (31 : Nat), AObj.own [AV.s (SV.str (nN n)), AV.s (SV.int IntKind.u8 (nK n)), AV.s (SV.int IntKind.i64 (nI n)), AV.s (SV.int IntKind.i64 (nO n)), AV.s (SV.int IntKind.u8 (nE n)), AV.s (SV.str (nY n)), AV.s (SV.str (nT n)), AV.s (SV.str (nS n)), AV.s (SV.bool (nB n)), AV.s (SV.ro (Con.typ cV (nV n))), AV.s (SV.ro (Con.strs (nZ n)))] (45 : Nat), AObj.own [AV.s (SV.int IntKind.i64 (gI is (iU x))), AV.s (SV.int IntKind.i64 (gU is (iU x))), AV.s (SV.int IntKind.u8 (gS is (iU x))), AV.s (SV.str (gP is (iU x))), AV.s (SV.int IntKind.i64 (gN is (iU x))), AV.s (SV.int IntKind.i64 (gF is (iU x))), AV.s (SV.int IntKind.u8 (gW is (iU x))), AV.s (SV.str (gC is (iU x)))] (31 : Nat)] (AV.s (SV.blit false)))) (Tree.ret [AObj.own [AV.s (SV.int IntKind.i64 ck), AV.s (SV.int IntKind.i64 nx), AV.s (SV.ro (Con.typ cP ps)), AV.s (SV.ro (Con.typ cI is)), AV.s (SV.ro (Con.typ cC cs)), AV.s (SV.ro (Con.typ cW ws))] (27 : Nat), AObj.own [AV.s (SV.int IntKind.i64 (iI x)), AV.s (SV.int IntKind.i64 (iU x)), AV.s (SV.int IntKind.u8 (iS x)), AV.s (SV.str (iP x)), AV.s (SV.int IntKind.i64 (iN x)), AV.s (SV.int IntKind.i64 (iF x)), AV.s (SV.int IntKind.u8 (iW x)), AV.s (SV.str (iC x))] (31 : Nat), AObj.own [AV.s (SV.str (nN n)), AV.s (SV.int IntKind.u8 (nK n)), AV.s (SV.int IntKind.i64 (nI n)), AV.s (SV.int IntKind.i64 (nO n)), AV.s (SV.int IntKind.u8 (nE n)), AV.s (SV.str (nY n)), AV.s (SV.str (nT n)), AV.s (SV.str (nS n)), AV.s (SV.bool (nB n)), AV.s (SV.ro (Con.typ cV (nV n))), AV.s (SV.ro (Con.strs (nZ n)))] (45 : Nat), AObj.own [AV.s (SV.int IntKind.i64 (gI is (iU x))), AV.s (SV.int IntKind.i64 (gU is (iU x))), AV.s (SV.int IntKind.u8 (gS is (iU x))), AV.s (SV.str (gP is (iU x))), AV.s (SV.int IntKind.i64 (gN is (iU x))), AV.s (SV.int IntKind.i64 (gF is (iU x))), AV.s (SV.int IntKind.u8 (gW is (iU x))), AV.s (SV.str (gC is (iU x)))] (31 : Nat)] (AV.s (SV.blit false))))
    (Tree.ret [AObj.own [AV.s (SV.int IntKind.i64 ck), AV.s (SV.int IntKind.i64 nx), AV.s (SV.ro (Con.typ cP ps)), AV.s (SV.ro (Con.typ cI is)), AV.s (SV.ro (Con.typ cC cs)), AV.s (SV.ro (Con.typ cW ws))] (27 : Nat), AObj.own [AV.s (SV.int IntKind.i64 (iI x)), AV.s (SV.int IntKind.i64 (iU x)), AV.s (SV.int IntKind.u8 (iS x)), AV.s (SV.str (iP x)), AV.s (SV.int IntKind.i64 (iN x)), AV.s (SV.int IntKind.i64 (iF x)), AV.s (SV.int IntKind.u8 (iW x)), AV.s (SV.str (iC x))] (31 : Nat), AObj.own [AV.s (SV.str (nN n)), AV.s (SV.int IntKind.u8 (nK n)), AV.s (SV.int IntKind.i64 (nI n)), AV.s (SV.int IntKind.i64 (nO n)), AV.s (SV.int IntKind.u8 (nE n)), AV.s (SV.str (nY n)), AV.s (SV.str (nT n)), AV.s (SV.str (nS n)), AV.s (SV.bool (nB n)), AV.s (SV.ro (Con.typ cV (nV n))), AV.s (SV.ro (Con.strs (nZ n)))] (45 : Nat), AObj.own [AV.s (SV.int IntKind.i64 (gI is (iU x))), AV.s (SV.int IntKind.i64 (gU is (iU x))), AV.s (SV.int IntKind.u8 (gS is (iU x))), AV.s (SV.str (gP is (iU x))), AV.s (SV.int IntKind.i64 (gN is (iU x))), AV.s (SV.int IntKind.i64 (gF is (iU x))), AV.s (SV.int IntKind.u8 (gW is (iU x))), AV.s (SV.str (gC is (iU x)))] (31 : Nat)] (AV.s (SV.blit false))))
  (Tree.ite (!hasN ps (gP is (iU x)) (gN is (iU x))) (Tree.ret [AObj.own [AV.s (SV.int IntKind.i64 ck), AV.s (SV.int IntKind.i64 nx), AV.s (SV.ro (Con.typ cP ps)), AV.s (SV.ro (Con.typ cI is)), AV.s (SV.ro (Con.typ cC cs)), AV.s (SV.ro (Con.typ cW ws))] (27 : Nat), AObj.own [AV.s (SV.int IntKind.i64 (iI x)), AV.s (SV.int IntKind.i64 (iU x)), AV.s (SV.int IntKind.u8 (iS x)), AV.s (SV.str (iP x)), AV.s (SV.int IntKind.i64 (iN x)), AV.s (SV.int IntKind.i64 (iF x)), AV.s (SV.int IntKind.u8 (iW x)), AV.s (SV.str (iC x))] (31 : Nat), AObj.own [AV.s (SV.str (nN n)), AV.s (SV.int IntKind.u8 (nK n)), AV.s (SV.int IntKind.i64 (nI n)), AV.s (SV.int IntKind.i64 (nO n)), AV.s (SV.int IntKind.u8 (nE n)), AV.s (SV.str (nY n)), AV.s (SV.str (nT n)), AV.s (SV.str (nS n)), AV.s (SV.bool (nB n)), AV.s (SV.ro (Con.typ cV (nV n))), AV.s (SV.ro (Con.strs (nZ n)))] (45 : Nat), AObj.own [AV.s (SV.int IntKind.i64 (gI is (iU x))), AV.s (SV.int IntKind.i64 (gU is (iU x))), AV.s (SV.int IntKind.u8 (gS is (iU x))), AV.s (SV.str (gP is (iU x))), AV.s (SV.int IntKind.i64 (gN is (iU x))), AV.s (SV.int IntKind.i64 (gF is (iU x))), AV.s (SV.int IntKind.u8 (gW is (iU x))), AV.s (SV.str (gC is (iU x)))] (31 : Nat), AObj.own [AV.s (SV.str (nN (ndF ps (gP is (iU x)) (gN is (iU x))))), AV.s (SV.int IntKind.u8 (nK (ndF ps (gP is (iU x)) (gN is (iU x))))), AV.s (SV.int IntKind.i64 (nI (ndF ps (gP is (iU x)) (gN is (iU x))))), AV.s (SV.int IntKind.i64 (nO (ndF ps (gP is (iU x)) (gN is (iU x))))), AV.s (SV.int IntKind.u8 (nE (ndF ps (gP is (iU x)) (gN is (iU x))))), AV.s (SV.str (nY (ndF ps (gP is (iU x)) (gN is (iU x))))), AV.s (SV.str (nT (ndF ps (gP is (iU x)) (gN is (iU x))))), AV.s (SV.str (nS (ndF ps (gP is (iU x)) (gN is (iU x))))), AV.s (SV.bool (nB (ndF ps (gP is (iU x)) (gN is (iU x))))), AV.s (SV.ro (Con.typ cV (nV (ndF ps (gP is (iU x)) (gN is (iU x)))))), AV.s (SV.ro (Con.strs (nZ (ndF ps (gP is (iU x)) (gN is (iU x))))))] (45 : Nat)] (AV.s (SV.blit false)))
    (Tree.ite (gW is (iU x) != (3 : Int)) (Tree.ret [AObj.own [AV.s (SV.int IntKind.i64 ck), AV.s (SV.int IntKind.i64 nx), AV.s (SV.ro (Con.typ cP ps)), AV.s (SV.ro (Con.typ cI is)), AV.s (SV.ro (Con.typ cC cs)), AV.s (SV.ro (Con.typ cW ws))] (27 : Nat), AObj.own [AV.s (SV.int IntKind.i64 (iI x)), AV.s (SV.int IntKind.i64 (iU x)), AV.s (SV.int IntKind.u8 (iS x)), AV.s (SV.str (iP x)), AV.s (SV.int IntKind.i64 (iN x)), AV.s (SV.int IntKind.i64 (iF x)), AV.s (SV.int IntKind.u8 (iW x)), AV.s (SV.str (iC x))] (31 : Nat), AObj.own [AV.s (SV.str (nN n)), AV.s (SV.int IntKind.u8 (nK n)), AV.s (SV.int IntKind.i64 (nI n)), AV.s (SV.int IntKind.i64 (nO n)), AV.s (SV.int IntKind.u8 (nE n)), AV.s (SV.str (nY n)), AV.s (SV.str (nT n)), AV.s (SV.str (nS n)), AV.s (SV.bool (nB n)), AV.s (SV.ro (Con.typ cV (nV n))), AV.s (SV.ro (Con.strs (nZ n)))] (45 : Nat), AObj.own [AV.s (SV.int IntKind.i64 (gI is (iU x))), AV.s (SV.int IntKind.i64 (gU is (iU x))), AV.s (SV.int IntKind.u8 (gS is (iU x))), AV.s (SV.str (gP is (iU x))), AV.s (SV.int IntKind.i64 (gN is (iU x))), AV.s (SV.int IntKind.i64 (gF is (iU x))), AV.s (SV.int IntKind.u8 (gW is (iU x))), AV.s (SV.str (gC is (iU x)))] (31 : Nat), AObj.own [AV.s (SV.str (nN (ndF ps (gP is (iU x)) (gN is (iU x))))), AV.s (SV.int IntKind.u8 (nK (ndF ps (gP is (iU x)) (gN is (iU x))))), AV.s (SV.int IntKind.i64 (nI (ndF ps (gP is (iU x)) (gN is (iU x))))), AV.s (SV.int IntKind.i64 (nO (ndF ps (gP is (iU x)) (gN is (iU x))))), AV.s (SV.int IntKind.u8 (nE (ndF ps (gP is (iU x)) (gN is (iU x))))), AV.s (SV.str (nY (ndF ps (gP is (iU x)) (gN is (iU x))))), AV.s (SV.str (nT (ndF ps (gP is (iU x)) (gN is (iU x))))), AV.s (SV.str (nS (ndF ps (gP is (iU x)) (gN is (iU x))))), AV.s (SV.bool (nB (ndF ps (gP is (iU x)) (gN is (iU x))))), AV.s (SV.ro (Con.typ cV (nV (ndF ps (gP is (iU x)) (gN is (iU x)))))), AV.s (SV.ro (Con.strs (nZ (ndF ps (gP is (iU x)) (gN is (iU x))))))] (45 : Nat)] (AV.s (SV.blit false)))
      (Tree.ite (iN x == (-1 : Int)) (Tree.ite (nK (ndF ps (gP is (iU x)) (gN is (iU x))) == (14 : Int)) (Tree.ret [AObj.own [AV.s (SV.int IntKind.i64 ck), AV.s (SV.int IntKind.i64 nx), AV.s (SV.ro (Con.typ cP ps)), AV.s (SV.ro (Con.typ cI is)), AV.s (SV.ro (Con.typ cC cs)), AV.s (SV.ro (Con.typ cW ws))] (27 : Nat), AObj.own [AV.s (SV.int IntKind.i64 (iI x)), AV.s (SV.int IntKind.i64 (iU x)), AV.s (SV.int IntKind.u8 (iS x)), AV.s (SV.str (iP x)), AV.s (SV.int IntKind.i64 (iN x)), AV.s (SV.int IntKind.i64 (iF x)), AV.s (SV.int IntKind.u8 (iW x)), AV.s (SV.str (iC x))] (31 : Nat), AObj.own [AV.s (SV.str (nN n)), AV.s (SV.int IntKind.u8 (nK n)), AV.s (SV.int IntKind.i64 (nI n)), AV.s (SV.int IntKind.i64 (nO n)), AV.s (SV.int IntKind.u8 (nE n)), AV.s (SV.str (nY n)), AV.s (SV.str (nT n)), AV.s (SV.str (nS n)), AV.s (SV.bool (nB n)), AV.s (SV.ro (Con.typ cV (nV n))), AV.s (SV.ro (Con.strs (nZ n)))] (45 : Nat), AObj.own [AV.s (SV.int IntKind.i64 (gI is (iU x))), AV.s (SV.int IntKind.i64 (gU is (iU x))), AV.s (SV.int IntKind.u8 (gS is (iU x))), AV.s (SV.str (gP is (iU x))), AV.s (SV.int IntKind.i64 (gN is (iU x))), AV.s (SV.int IntKind.i64 (gF is (iU x))), AV.s (SV.int IntKind.u8 (gW is (iU x))), AV.s (SV.str (gC is (iU x)))] (31 : Nat), AObj.own [AV.s (SV.str (nN (ndF ps (gP is (iU x)) (gN is (iU x))))), AV.s (SV.int IntKind.u8 (nK (ndF ps (gP is (iU x)) (gN is (iU x))))), AV.s (SV.int IntKind.i64 (nI (ndF ps (gP is (iU x)) (gN is (iU x))))), AV.s (SV.int IntKind.i64 (nO (ndF ps (gP is (iU x)) (gN is (iU x))))), AV.s (SV.int IntKind.u8 (nE (ndF ps (gP is (iU x)) (gN is (iU x))))), AV.s (SV.str (nY (ndF ps (gP is (iU x)) (gN is (iU x))))), AV.s (SV.str (nT (ndF ps (gP is (iU x)) (gN is (iU x))))), AV.s (SV.str (nS (ndF ps (gP is (iU x)) (gN is (iU x))))), AV.s (SV.bool (nB (ndF ps (gP is (iU x)) (gN is (iU x))))), AV.s (SV.ro (Con.typ cV (nV (ndF ps (gP is (iU x)) (gN is (iU x)))))), AV.s (SV.ro (Con.strs (nZ (ndF ps (gP is (iU x)) (gN is (iU x))))))] (45 : Nat)] (AV.s (SV.bool (decide (nY (ndF ps (gP is (iU x)) (gN is (iU x))) = iP x))))) (Tree.ret [AObj.own [AV.s (SV.int IntKind.i64 ck), AV.s (SV.int IntKind.i64 nx), AV.s (SV.ro (Con.typ cP ps)), AV.s (SV.ro (Con.typ cI is)), AV.s (SV.ro (Con.typ cC cs)), AV.s (SV.ro (Con.typ cW ws))] (27 : Nat), AObj.own [AV.s (SV.int IntKind.i64 (iI x)), AV.s (SV.int IntKind.i64 (iU x)), AV.s (SV.int IntKind.u8 (iS x)), AV.s (SV.str (iP x)), AV.s (SV.int IntKind.i64 (iN x)), AV.s (SV.int IntKind.i64 (iF x)), AV.s (SV.int IntKind.u8 (iW x)), AV.s (SV.str (iC x))] (31 : Nat), AObj.own [AV.s (SV.str (nN n)), AV.s (SV.int IntKind.u8 (nK n)), AV.s (SV.int IntKind.i64 (nI n)), AV.s (SV.int IntKind.i64 (nO n)), AV.s (SV.int IntKind.u8 (nE n)), AV.s (SV.str (nY n)), AV.s (SV.str (nT n)), AV.s (SV.str (nS n)), AV.s (SV.bool (nB n)), AV.s (SV.ro (Con.typ cV (nV n))), AV.s (SV.ro (Con.strs (nZ n)))] (45 : Nat), AObj.own [AV.s (SV.int IntKind.i64 (gI is (iU x))), AV.s (SV.int IntKind.i64 (gU is (iU x))), AV.s (SV.int IntKind.u8 (gS is (iU x))), AV.s (SV.str (gP is (iU x))), AV.s (SV.int IntKind.i64 (gN is (iU x))), AV.s (SV.int IntKind.i64 (gF is (iU x))), AV.s (SV.int IntKind.u8 (gW is (iU x))), AV.s (SV.str (gC is (iU x)))] (31 : Nat), AObj.own [AV.s (SV.str (nN (ndF ps (gP is (iU x)) (gN is (iU x))))), AV.s (SV.int IntKind.u8 (nK (ndF ps (gP is (iU x)) (gN is (iU x))))), AV.s (SV.int IntKind.i64 (nI (ndF ps (gP is (iU x)) (gN is (iU x))))), AV.s (SV.int IntKind.i64 (nO (ndF ps (gP is (iU x)) (gN is (iU x))))), AV.s (SV.int IntKind.u8 (nE (ndF ps (gP is (iU x)) (gN is (iU x))))), AV.s (SV.str (nY (ndF ps (gP is (iU x)) (gN is (iU x))))), AV.s (SV.str (nT (ndF ps (gP is (iU x)) (gN is (iU x))))), AV.s (SV.str (nS (ndF ps (gP is (iU x)) (gN is (iU x))))), AV.s (SV.bool (nB (ndF ps (gP is (iU x)) (gN is (iU x))))), AV.s (SV.ro (Con.typ cV (nV (ndF ps (gP is (iU x)) (gN is (iU x)))))), AV.s (SV.ro (Con.strs (nZ (ndF ps (gP is (iU x)) (gN is (iU x))))))] (45 : Nat)] (AV.s (SV.blit false))))
        (Tree.ite (decide (gP is (iU x) = iP x)) (Tree.ret [AObj.own [AV.s (SV.int IntKind.i64 ck), AV.s (SV.int IntKind.i64 nx), AV.s (SV.ro (Con.typ cP ps)), AV.s (SV.ro (Con.typ cI is)), AV.s (SV.ro (Con.typ cC cs)), AV.s (SV.ro (Con.typ cW ws))] (27 : Nat), AObj.own [AV.s (SV.int IntKind.i64 (iI x)), AV.s (SV.int IntKind.i64 (iU x)), AV.s (SV.int IntKind.u8 (iS x)), AV.s (SV.str (iP x)), AV.s (SV.int IntKind.i64 (iN x)), AV.s (SV.int IntKind.i64 (iF x)), AV.s (SV.int IntKind.u8 (iW x)), AV.s (SV.str (iC x))] (31 : Nat), AObj.own [AV.s (SV.str (nN n)), AV.s (SV.int IntKind.u8 (nK n)), AV.s (SV.int IntKind.i64 (nI n)), AV.s (SV.int IntKind.i64 (nO n)), AV.s (SV.int IntKind.u8 (nE n)), AV.s (SV.str (nY n)), AV.s (SV.str (nT n)), AV.s (SV.str (nS n)), AV.s (SV.bool (nB n)), AV.s (SV.ro (Con.typ cV (nV n))), AV.s (SV.ro (Con.strs (nZ n)))] (45 : Nat), AObj.own [AV.s (SV.int IntKind.i64 (gI is (iU x))), AV.s (SV.int IntKind.i64 (gU is (iU x))), AV.s (SV.int IntKind.u8 (gS is (iU x))), AV.s (SV.str (gP is (iU x))), AV.s (SV.int IntKind.i64 (gN is (iU x))), AV.s (SV.int IntKind.i64 (gF is (iU x))), AV.s (SV.int IntKind.u8 (gW is (iU x))), AV.s (SV.str (gC is (iU x)))] (31 : Nat), AObj.own [AV.s (SV.str (nN (ndF ps (gP is (iU x)) (gN is (iU x))))), AV.s (SV.int IntKind.u8 (nK (ndF ps (gP is (iU x)) (gN is (iU x))))), AV.s (SV.int IntKind.i64 (nI (ndF ps (gP is (iU x)) (gN is (iU x))))), AV.s (SV.int IntKind.i64 (nO (ndF ps (gP is (iU x)) (gN is (iU x))))), AV.s (SV.int IntKind.u8 (nE (ndF ps (gP is (iU x)) (gN is (iU x))))), AV.s (SV.str (nY (ndF ps (gP is (iU x)) (gN is (iU x))))), AV.s (SV.str (nT (ndF ps (gP is (iU x)) (gN is (iU x))))), AV.s (SV.str (nS (ndF ps (gP is (iU x)) (gN is (iU x))))), AV.s (SV.bool (nB (ndF ps (gP is (iU x)) (gN is (iU x))))), AV.s (SV.ro (Con.typ cV (nV (ndF ps (gP is (iU x)) (gN is (iU x)))))), AV.s (SV.ro (Con.strs (nZ (ndF ps (gP is (iU x)) (gN is (iU x))))))] (45 : Nat)] (AV.s (SV.bool (gN is (iU x) == iN x)))) (Tree.ret [AObj.own [AV.s (SV.int IntKind.i64 ck), AV.s (SV.int IntKind.i64 nx), AV.s (SV.ro (Con.typ cP ps)), AV.s (SV.ro (Con.typ cI is)), AV.s (SV.ro (Con.typ cC cs)), AV.s (SV.ro (Con.typ cW ws))] (27 : Nat), AObj.own [AV.s (SV.int IntKind.i64 (iI x)), AV.s (SV.int IntKind.i64 (iU x)), AV.s (SV.int IntKind.u8 (iS x)), AV.s (SV.str (iP x)), AV.s (SV.int IntKind.i64 (iN x)), AV.s (SV.int IntKind.i64 (iF x)), AV.s (SV.int IntKind.u8 (iW x)), AV.s (SV.str (iC x))] (31 : Nat), AObj.own [AV.s (SV.str (nN n)), AV.s (SV.int IntKind.u8 (nK n)), AV.s (SV.int IntKind.i64 (nI n)), AV.s (SV.int IntKind.i64 (nO n)), AV.s (SV.int IntKind.u8 (nE n)), AV.s (SV.str (nY n)), AV.s (SV.str (nT n)), AV.s (SV.str (nS n)), AV.s (SV.bool (nB n)), AV.s (SV.ro (Con.typ cV (nV n))), AV.s (SV.ro (Con.strs (nZ n)))] (45 : Nat), AObj.own [AV.s (SV.int IntKind.i64 (gI is (iU x))), AV.s (SV.int IntKind.i64 (gU is (iU x))), AV.s (SV.int IntKind.u8 (gS is (iU x))), AV.s (SV.str (gP is (iU x))), AV.s (SV.int IntKind.i64 (gN is (iU x))), AV.s (SV.int IntKind.i64 (gF is (iU x))), AV.s (SV.int IntKind.u8 (gW is (iU x))), AV.s (SV.str (gC is (iU x)))] (31 : Nat), AObj.own [AV.s (SV.str (nN (ndF ps (gP is (iU x)) (gN is (iU x))))), AV.s (SV.int IntKind.u8 (nK (ndF ps (gP is (iU x)) (gN is (iU x))))), AV.s (SV.int IntKind.i64 (nI (ndF ps (gP is (iU x)) (gN is (iU x))))), AV.s (SV.int IntKind.i64 (nO (ndF ps (gP is (iU x)) (gN is (iU x))))), AV.s (SV.int IntKind.u8 (nE (ndF ps (gP is (iU x)) (gN is (iU x))))), AV.s (SV.str (nY (ndF ps (gP is (iU x)) (gN is (iU x))))), AV.s (SV.str (nT (ndF ps (gP is (iU x)) (gN is (iU x))))), AV.s (SV.str (nS (ndF ps (gP is (iU x)) (gN is (iU x))))), AV.s (SV.bool (nB (ndF ps (gP is (iU x)) (gN is (iU x))))), AV.s (SV.ro (Con.typ cV (nV (ndF ps (gP is (iU x)) (gN is (iU x)))))), AV.s (SV.ro (Con.strs (nZ (ndF ps (gP is (iU x)) (gN is (iU x))))))] (45 : Nat)] (AV.s (SV.blit false))))))) := by kernel_rfl
/-! token -/
def kindsF (n : Int) : List Int := if n = 2 then [3] else if n = 3 then [11, 12, 14] else if n = 4 then [6, 10] else if n = 5 then [8, 9] else if n = 6 then [7, 9, 2] else []
def sumH9 (S : Value → List Int → Prop) := sumIf (fun a => match a with | .s (.raw _ _) :: _ => true | _ => false) (sumKV S (fun l x => l.contains x)) sumH8
def tabTk (S : Value → List Int → Prop) : Tab := [(61, sumNo), (19, sumFi), (58, sumH9 S), (14, sumDf), (17, sumKi)]
end Ds

namespace Ds
open Go Go.Sx Go.Proofs Lf
def nsTl : List (Nat × Norm) := [(5, ⟨[], [2, 3, 7], 0, []⟩), (midKey + 5004, ⟨[], [2, 3, 7, 58], 0, []⟩), (midKey + 5007, ⟨[], [2, 3, 7, 58, 59, 61], 0, []⟩), (7, ⟨[], [2, 3], 0, []⟩)]
theorem trTl (S : Value → List Int → Prop) (ck nx : Int) (ps : Ps) (is : Is) (cs : Cs) (ws : Ws) (x : CL cI) : run P (tabTk S).sum Tryd.f34 nsTl (start Tryd.f34 [avSt ck nx ps is cs ws, avIt x] []) =
  Tree.ite (gS is (iU x) != (1 : Int)) (Tree.ret [AObj.own [AV.s (SV.int IntKind.i64 ck), AV.s (SV.int IntKind.i64 nx), AV.s (SV.ro (Con.typ cP ps)), AV.s (SV.ro (Con.typ cI is)), AV.s (SV.ro (Con.typ cC cs)), AV.s (SV.ro (Con.typ cW ws))] (27 : Nat), AObj.own [AV.s (SV.int IntKind.i64 (iI x)), AV.s (SV.int IntKind.i64 (iU x)), AV.s (SV.int IntKind.u8 (iS x)), AV.s (SV.str (iP x)), AV.s (SV.int IntKind.i64 (iN x)), AV.s (SV.int IntKind.i64 (iF x)), AV.s (SV.int IntKind.u8 (iW x)), AV.s (SV.str (iC x))] (31 : Nat), AObj.own [AV.s (SV.int IntKind.i64 (gI is (iU x))), AV.s (SV.int IntKind.i64 (gU is (iU x))), AV.s (SV.int IntKind.u8 (gS is (iU x))), AV.s (SV.str (gP is (iU x))), AV.s (SV.int IntKind.i64 (gN is (iU x))), AV.s (SV.int IntKind.i64 (gF is (iU x))), AV.s (SV.int IntKind.u8 (gW is (iU x))), AV.s (SV.str (gC is (iU x)))] (31 : Nat), AObj.own [AV.s (SV.str (nN (ndF ps (iP x) (iN x)))), AV.s (SV.int IntKind.u8 (nK (ndF ps (iP x) (iN x)))), AV.s (SV.int IntKind.i64 (nI (ndF ps (iP x) (iN x)))), AV.s (SV.int IntKind.i64 (nO (ndF ps (iP x) (iN x)))), AV.s (SV.int IntKind.u8 (nE (ndF ps (iP x) (iN x)))), AV.s (SV.str (nY (ndF ps (iP x) (iN x)))), AV.s (SV.str (nT (ndF ps (iP x) (iN x)))), AV.s (SV.str (nS (ndF ps (iP x) (iN x)))), AV.s (SV.bool (nB (ndF ps (iP x) (iN x)))), AV.s (SV.ro (Con.typ cV (nV (ndF ps (iP x) (iN x))))), AV.s (SV.ro (Con.strs (nZ (ndF ps (iP x) (iN x)))))] (45 : Nat)] (AV.s (SV.blit false)))
  (Tree.ite (!decide (gP is (iU x) = iP x)) (Tree.ret [AObj.own [AV.s (SV.int IntKind.i64 ck), AV.s (SV.int IntKind.i64 nx), AV.s (SV.ro (Con.typ cP ps)), AV.s (SV.ro (Con.typ cI is)), AV.s (SV.ro (Con.typ cC cs)), AV.s (SV.ro (Con.typ cW ws))] (27 : Nat), AObj.own [AV.s (SV.int IntKind.i64 (iI x)), AV.s (SV.int IntKind.i64 (iU x)), AV.s (SV.int IntKind.u8 (iS x)), AV.s (SV.str (iP x)), AV.s (SV.int IntKind.i64 (iN x)), AV.s (SV.int IntKind.i64 (iF x)), AV.s (SV.int IntKind.u8 (iW x)), AV.s (SV.str (iC x))] (31 : Nat), AObj.own [AV.s (SV.int IntKind.i64 (gI is (iU x))), AV.s (SV.int IntKind.i64 (gU is (iU x))), AV.s (SV.int IntKind.u8 (gS is (iU x))), AV.s (SV.str (gP is (iU x))), AV.s (SV.int IntKind.i64 (gN is (iU x))), AV.s (SV.int IntKind.i64 (gF is (iU x))), AV.s (SV.int IntKind.u8 (gW is (iU x))), AV.s (SV.str (gC is (iU x)))] (31 : Nat), AObj.own [AV.s (SV.str (nN (ndF ps (iP x) (iN x)))), AV.s (SV.int IntKind.u8 (nK (ndF ps (iP x) (iN x)))), AV.s (SV.int IntKind.i64 (nI (ndF ps (iP x) (iN x)))), AV.s (SV.int IntKind.i64 (nO (ndF ps (iP x) (iN x)))), AV.s (SV.int IntKind.u8 (nE (ndF ps (iP x) (iN x)))), AV.s (SV.str (nY (ndF ps (iP x) (iN x)))), AV.s (SV.str (nT (ndF ps (iP x) (iN x)))), AV.s (SV.str (nS (ndF ps (iP x) (iN x)))), AV.s (SV.bool (nB (ndF ps (iP x) (iN x)))), AV.s (SV.ro (Con.typ cV (nV (ndF ps (iP x) (iN x))))), AV.s (SV.ro (Con.strs (nZ (ndF ps (iP x) (iN x)))))] (45 : Nat)] (AV.s (SV.blit false)))
    (Tree.ite (!hasN ps (iP x) (iN x)) (Tree.ret [AObj.own [AV.s (SV.int IntKind.i64 ck), AV.s (SV.int IntKind.i64 nx), AV.s (SV.ro (Con.typ cP ps)), AV.s (SV.ro (Con.typ cI is)), AV.s (SV.ro (Con.typ cC cs)), AV.s (SV.ro (Con.typ cW ws))] (27 : Nat), AObj.own [AV.s (SV.int IntKind.i64 (iI x)), AV.s (SV.int IntKind.i64 (iU x)), AV.s (SV.int IntKind.u8 (iS x)), AV.s (SV.str (iP x)), AV.s (SV.int IntKind.i64 (iN x)), AV.s (SV.int IntKind.i64 (iF x)), AV.s (SV.int IntKind.u8 (iW x)), AV.s (SV.str (iC x))] (31 : Nat), AObj.own [AV.s (SV.int IntKind.i64 (gI is (iU x))), AV.s (SV.int IntKind.i64 (gU is (iU x))), AV.s (SV.int IntKind.u8 (gS is (iU x))), AV.s (SV.str (gP is (iU x))), AV.s (SV.int IntKind.i64 (gN is (iU x))), AV.s (SV.int IntKind.i64 (gF is (iU x))), AV.s (SV.int IntKind.u8 (gW is (iU x))), AV.s (SV.str (gC is (iU x)))] (31 : Nat), AObj.own [AV.s (SV.str (nN (ndF ps (iP x) (iN x)))), AV.s (SV.int IntKind.u8 (nK (ndF ps (iP x) (iN x)))), AV.s (SV.int IntKind.i64 (nI (ndF ps (iP x) (iN x)))), AV.s (SV.int IntKind.i64 (nO (ndF ps (iP x) (iN x)))), AV.s (SV.int IntKind.u8 (nE (ndF ps (iP x) (iN x)))), AV.s (SV.str (nY (ndF ps (iP x) (iN x)))), AV.s (SV.str (nT (ndF ps (iP x) (iN x)))), AV.s (SV.str (nS (ndF ps (iP x) (iN x)))), AV.s (SV.bool (nB (ndF ps (iP x) (iN x)))), AV.s (SV.ro (Con.typ cV (nV (ndF ps (iP x) (iN x))))), AV.s (SV.ro (Con.strs (nZ (ndF ps (iP x) (iN x)))))] (45 : Nat)] (AV.s (SV.blit false)))
      (Tree.ite (nI (ndF ps (iP x) (iN x)) != gN is (iU x)) (Tree.ret [AObj.own [AV.s (SV.int IntKind.i64 ck), AV.s (SV.int IntKind.i64 nx), AV.s (SV.ro (Con.typ cP ps)), AV.s (SV.ro (Con.typ cI is)), AV.s (SV.ro (Con.typ cC cs)), AV.s (SV.ro (Con.typ cW ws))] (27 : Nat), AObj.own [AV.s (SV.int IntKind.i64 (iI x)), AV.s (SV.int IntKind.i64 (iU x)), AV.s (SV.int IntKind.u8 (iS x)), AV.s (SV.str (iP x)), AV.s (SV.int IntKind.i64 (iN x)), AV.s (SV.int IntKind.i64 (iF x)), AV.s (SV.int IntKind.u8 (iW x)), AV.s (SV.str (iC x))] (31 : Nat), AObj.own [AV.s (SV.int IntKind.i64 (gI is (iU x))), AV.s (SV.int IntKind.i64 (gU is (iU x))), AV.s (SV.int IntKind.u8 (gS is (iU x))), AV.s (SV.str (gP is (iU x))), AV.s (SV.int IntKind.i64 (gN is (iU x))), AV.s (SV.int IntKind.i64 (gF is (iU x))), AV.s (SV.int IntKind.u8 (gW is (iU x))), AV.s (SV.str (gC is (iU x)))] (31 : Nat), AObj.own [AV.s (SV.str (nN (ndF ps (iP x) (iN x)))), AV.s (SV.int IntKind.u8 (nK (ndF ps (iP x) (iN x)))), AV.s (SV.int IntKind.i64 (nI (ndF ps (iP x) (iN x)))), AV.s (SV.int IntKind.i64 (nO (ndF ps (iP x) (iN x)))), AV.s (SV.int IntKind.u8 (nE (ndF ps (iP x) (iN x)))), AV.s (SV.str (nY (ndF ps (iP x) (iN x)))), AV.s (SV.str (nT (ndF ps (iP x) (iN x)))), AV.s (SV.str (nS (ndF ps (iP x) (iN x)))), AV.s (SV.bool (nB (ndF ps (iP x) (iN x)))), AV.s (SV.ro (Con.typ cV (nV (ndF ps (iP x) (iN x))))), AV.s (SV.ro (Con.strs (nZ (ndF ps (iP x) (iN x)))))] (45 : Nat)] (AV.s (SV.blit false)))
        (Tree.ite (!(!decide (iC x = ByteArray.empty)) == (iW x == (6 : Int))) (Tree.ret [AObj.own [AV.s (SV.int IntKind.i64 ck), AV.s (SV.int IntKind.i64 nx), AV.s (SV.ro (Con.typ cP ps)), AV.s (SV.ro (Con.typ cI is)), AV.s (SV.ro (Con.typ cC cs)), AV.s (SV.ro (Con.typ cW ws))] (27 : Nat), AObj.own [AV.s (SV.int IntKind.i64 (iI x)), AV.s (SV.int IntKind.i64 (iU x)), AV.s (SV.int IntKind.u8 (iS x)), AV.s (SV.str (iP x)), AV.s (SV.int IntKind.i64 (iN x)), AV.s (SV.int IntKind.i64 (iF x)), AV.s (SV.int IntKind.u8 (iW x)), AV.s (SV.str (iC x))] (31 : Nat), AObj.own [AV.s (SV.int IntKind.i64 (gI is (iU x))), AV.s (SV.int IntKind.i64 (gU is (iU x))), AV.s (SV.int IntKind.u8 (gS is (iU x))), AV.s (SV.str (gP is (iU x))), AV.s (SV.int IntKind.i64 (gN is (iU x))), AV.s (SV.int IntKind.i64 (gF is (iU x))), AV.s (SV.int IntKind.u8 (gW is (iU x))), AV.s (SV.str (gC is (iU x)))] (31 : Nat), AObj.own [AV.s (SV.str (nN (ndF ps (iP x) (iN x)))), AV.s (SV.int IntKind.u8 (nK (ndF ps (iP x) (iN x)))), AV.s (SV.int IntKind.i64 (nI (ndF ps (iP x) (iN x)))), AV.s (SV.int IntKind.i64 (nO (ndF ps (iP x) (iN x)))), AV.s (SV.int IntKind.u8 (nE (ndF ps (iP x) (iN x)))), AV.s (SV.str (nY (ndF ps (iP x) (iN x)))), AV.s (SV.str (nT (ndF ps (iP x) (iN x)))), AV.s (SV.str (nS (ndF ps (iP x) (iN x)))), AV.s (SV.bool (nB (ndF ps (iP x) (iN x)))), AV.s (SV.ro (Con.typ cV (nV (ndF ps (iP x) (iN x))))), AV.s (SV.ro (Con.strs (nZ (ndF ps (iP x) (iN x)))))] (45 : Nat)] (AV.s (SV.blit false))) (Tree.at (Cfg.mk (sl (124 : Nat) [((2 : Nat), AV.ptr (0 : Nat) (0 : Nat)), ((3 : Nat), AV.ptr (1 : Nat) (0 : Nat)), ((7 : Nat), AV.ptr (2 : Nat) (0 : Nat))]) [AObj.own [AV.s (SV.int IntKind.i64 ck), AV.s (SV.int IntKind.i64 nx), AV.s (SV.ro (Con.typ cP ps)), AV.s (SV.ro (Con.typ cI is)), AV.s (SV.ro (Con.typ cC cs)), AV.s (SV.ro (Con.typ cW ws))] (27 : Nat), AObj.own [AV.s (SV.int IntKind.i64 (iI x)), AV.s (SV.int IntKind.i64 (iU x)), AV.s (SV.int IntKind.u8 (iS x)), AV.s (SV.str (iP x)), AV.s (SV.int IntKind.i64 (iN x)), AV.s (SV.int IntKind.i64 (iF x)), AV.s (SV.int IntKind.u8 (iW x)), AV.s (SV.str (iC x))] (31 : Nat), AObj.own [AV.s (SV.str (nN (ndF ps (iP x) (iN x)))), AV.s (SV.int IntKind.u8 (nK (ndF ps (iP x) (iN x)))), AV.s (SV.int IntKind.i64 (nI (ndF ps (iP x) (iN x)))), AV.s (SV.int IntKind.i64 (nO (ndF ps (iP x) (iN x)))), AV.s (SV.int IntKind.u8 (nE (ndF ps (iP x) (iN x)))), AV.s (SV.str (nY (ndF ps (iP x) (iN x)))), AV.s (SV.str (nT (ndF ps (iP x) (iN x)))), AV.s (SV.str (nS (ndF ps (iP x) (iN x)))), AV.s (SV.bool (nB (ndF ps (iP x) (iN x)))), AV.s (SV.ro (Con.typ cV (nV (ndF ps (iP x) (iN x))))), AV.s (SV.ro (Con.strs (nZ (ndF ps (iP x) (iN x)))))] (45 : Nat)] (hr Tryd.f34 (5 : Nat)) (Stk.mk none false (0 : Nat) [] (0 : Nat)))))))) := by kernel_rfl
noncomputable def cTlA (ck nx : Int) (ps : Ps) (is : Is) (cs : Cs) (ws : Ws) (x : CL cI) (n : CL cN) : Cfg := ⟨sl 124 [(2, .ptr 0 0), (3, .ptr 1 0), (7, .ptr 2 0)], [obSt ck nx ps is cs ws, obIt x, obNo n], hr Tryd.f34 5, {}⟩
theorem midTlA (S : Value → List Int → Prop) (ck nx : Int) (ps : Ps) (is : Is) (cs : Cs) (ws : Ws) (x : CL cI) (n : CL cN) : run P (tabTk S).sum Tryd.f34 nsTl (cTlA ck nx ps is cs ws x n) =
  Tree.ite (iW x != (1 : Int)) (Tree.at (Cfg.mk (sl (124 : Nat) [((2 : Nat), AV.ptr (0 : Nat) (0 : Nat)), ((3 : Nat), AV.ptr (1 : Nat) (0 : Nat)), ((7 : Nat), AV.ptr (2 : Nat) (0 : Nat)), ((58 : Nat), AV.s (SV.bool true))]) [AObj.own [AV.s (SV.int IntKind.i64 ck), AV.s (SV.int IntKind.i64 nx), AV.s (SV.ro (Con.typ cP ps)), AV.s (SV.ro (Con.typ cI is)), AV.s (SV.ro (Con.typ cC cs)), AV.s (SV.ro (Con.typ cW ws))] (27 : Nat), AObj.own [AV.s (SV.int IntKind.i64 (iI x)), AV.s (SV.int IntKind.i64 (iU x)), AV.s (SV.int IntKind.u8 (iS x)), AV.s (SV.str (iP x)), AV.s (SV.int IntKind.i64 (iN x)), AV.s (SV.int IntKind.i64 (iF x)), AV.s (SV.int IntKind.u8 (iW x)), AV.s (SV.str (iC x))] (31 : Nat), AObj.own [AV.s (SV.str (nN n)), AV.s (SV.int IntKind.u8 (nK n)), AV.s (SV.int IntKind.i64 (nI n)), AV.s (SV.int IntKind.i64 (nO n)), AV.s (SV.int IntKind.u8 (nE n)), AV.s (SV.str (nY n)), AV.s (SV.str (nT n)), AV.s (SV.str (nS n)), AV.s (SV.bool (nB n)), AV.s (SV.ro (Con.typ cV (nV n))), AV.s (SV.ro (Con.strs (nZ n)))] (45 : Nat)] (cal Tryd.f34 (5 : Nat) (4 : Nat)) (Stk.mk none false (0 : Nat) [] (5 : Nat)))) (Tree.at (Cfg.mk (sl (124 : Nat) [((2 : Nat), AV.ptr (0 : Nat) (0 : Nat)), ((3 : Nat), AV.ptr (1 : Nat) (0 : Nat))]) [AObj.own [AV.s (SV.int IntKind.i64 ck), AV.s (SV.int IntKind.i64 nx), AV.s (SV.ro (Con.typ cP ps)), AV.s (SV.ro (Con.typ cI is)), AV.s (SV.ro (Con.typ cC cs)), AV.s (SV.ro (Con.typ cW ws))] (27 : Nat), AObj.own [AV.s (SV.int IntKind.i64 (iI x)), AV.s (SV.int IntKind.i64 (iU x)), AV.s (SV.int IntKind.u8 (iS x)), AV.s (SV.str (iP x)), AV.s (SV.int IntKind.i64 (iN x)), AV.s (SV.int IntKind.i64 (iF x)), AV.s (SV.int IntKind.u8 (iW x)), AV.s (SV.str (iC x))] (31 : Nat)] (hr Tryd.f34 (7 : Nat)) (Stk.mk none false (0 : Nat) [] (0 : Nat)))) := by kernel_rfl
noncomputable def cTlB (ck nx : Int) (ps : Ps) (is : Is) (cs : Cs) (ws : Ws) (x : CL cI) (n : CL cN) : Cfg := ⟨sl 124 [(2, .ptr 0 0), (3, .ptr 1 0), (7, .ptr 2 0), (58, .s (.bool true))], [obSt ck nx ps is cs ws, obIt x, obNo n], cal Tryd.f34 5 4, kk 5⟩
noncomputable def cTlB2 (ck nx : Int) (ps : Ps) (is : Is) (cs : Cs) (ws : Ws) (x : CL cI) (n : CL cN) (m : Value) : Cfg := ⟨sl 124 [(2, .ptr 0 0), (3, .ptr 1 0), (7, .ptr 2 0), (58, .s (.blit true)), (59, .s (.raw m []))], [obSt ck nx ps is cs ws, obIt x, obNo n], cal Tryd.f34 5 5, kk 5⟩
theorem midTlB (S : Value → List Int → Prop) (ck nx : Int) (ps : Ps) (is : Is) (cs : Cs) (ws : Ws) (x : CL cI) (n : CL cN) (m : Value) : run P (tabTk S).sum Tryd.f34 nsTl (cTlB2 ck nx ps is cs ws x n m) =
  Tree.at (Cfg.mk (sl (124 : Nat) [((2 : Nat), AV.ptr (0 : Nat) (0 : Nat)), ((3 : Nat), AV.ptr (1 : Nat) (0 : Nat)), ((7 : Nat), AV.ptr (2 : Nat) (0 : Nat)), ((58 : Nat), AV.s (SV.bool true)), ((59 : Nat), AV.s (SV.raw m [])), ((61 : Nat), AV.s (SV.int IntKind.u8 (iW x)))]) [AObj.own [AV.s (SV.int IntKind.i64 ck), AV.s (SV.int IntKind.i64 nx), AV.s (SV.ro (Con.typ cP ps)), AV.s (SV.ro (Con.typ cI is)), AV.s (SV.ro (Con.typ cC cs)), AV.s (SV.ro (Con.typ cW ws))] (27 : Nat), AObj.own [AV.s (SV.int IntKind.i64 (iI x)), AV.s (SV.int IntKind.i64 (iU x)), AV.s (SV.int IntKind.u8 (iS x)), AV.s (SV.str (iP x)), AV.s (SV.int IntKind.i64 (iN x)), AV.s (SV.int IntKind.i64 (iF x)), AV.s (SV.int IntKind.u8 (iW x)), AV.s (SV.str (iC x))] (31 : Nat), AObj.own [AV.s (SV.str (nN n)), AV.s (SV.int IntKind.u8 (nK n)), AV.s (SV.int IntKind.i64 (nI n)), AV.s (SV.int IntKind.i64 (nO n)), AV.s (SV.int IntKind.u8 (nE n)), AV.s (SV.str (nY n)), AV.s (SV.str (nT n)), AV.s (SV.str (nS n)), AV.s (SV.bool (nB n)), AV.s (SV.ro (Con.typ cV (nV n))), AV.s (SV.ro (Con.strs (nZ n)))] (45 : Nat)] (cal Tryd.f34 (5 : Nat) (7 : Nat)) (Stk.mk none false (0 : Nat) [] (5 : Nat))) := by kernel_rfl
noncomputable def cTlC2 (ck nx : Int) (ps : Ps) (is : Is) (cs : Cs) (ws : Ws) (x : CL cI) (n : CL cN) (m v : Value) (zs : List Int) : Cfg := ⟨sl 124 [(2, .ptr 0 0), (3, .ptr 1 0), (7, .ptr 2 0), (58, .s (.blit true)), (59, .s (.raw m [])), (61, avU (iW x)), (62, .s (.raw v zs))], [obSt ck nx ps is cs ws, obIt x, obNo n], cal Tryd.f34 5 8, kk 5⟩
theorem midTlC (S : Value → List Int → Prop) (ck nx : Int) (ps : Ps) (is : Is) (cs : Cs) (ws : Ws) (x : CL cI) (n : CL cN) (m v : Value) (zs : List Int) : run P (tabTk S).sum Tryd.f34 nsTl (cTlC2 ck nx ps is cs ws x n m v zs) =
  Tree.need (S v zs)
  (Tree.ite (!zs.contains (nK n)) (Tree.ret [AObj.own [AV.s (SV.int IntKind.i64 ck), AV.s (SV.int IntKind.i64 nx), AV.s (SV.ro (Con.typ cP ps)), AV.s (SV.ro (Con.typ cI is)), AV.s (SV.ro (Con.typ cC cs)), AV.s (SV.ro (Con.typ cW ws))] (27 : Nat), AObj.own [AV.s (SV.int IntKind.i64 (iI x)), AV.s (SV.int IntKind.i64 (iU x)), AV.s (SV.int IntKind.u8 (iS x)), AV.s (SV.str (iP x)), AV.s (SV.int IntKind.i64 (iN x)), AV.s (SV.int IntKind.i64 (iF x)), AV.s (SV.int IntKind.u8 (iW x)), AV.s (SV.str (iC x))] (31 : Nat), AObj.own [AV.s (SV.str (nN n)), AV.s (SV.int IntKind.u8 (nK n)), AV.s (SV.int IntKind.i64 (nI n)), AV.s (SV.int IntKind.i64 (nO n)), AV.s (SV.int IntKind.u8 (nE n)), AV.s (SV.str (nY n)), AV.s (SV.str (nT n)), AV.s (SV.str (nS n)), AV.s (SV.bool (nB n)), AV.s (SV.ro (Con.typ cV (nV n))), AV.s (SV.ro (Con.strs (nZ n)))] (45 : Nat)] (AV.s (SV.blit false)))
    (Tree.ite (iF x != (-1 : Int))
      (Tree.ite (decide (iF x < (0 : Int))) (Tree.ret [AObj.own [AV.s (SV.int IntKind.i64 ck), AV.s (SV.int IntKind.i64 nx), AV.s (SV.ro (Con.typ cP ps)), AV.s (SV.ro (Con.typ cI is)), AV.s (SV.ro (Con.typ cC cs)), AV.s (SV.ro (Con.typ cW ws))] (27 : Nat), AObj.own [AV.s (SV.int IntKind.i64 (iI x)), AV.s (SV.int IntKind.i64 (iU x)), AV.s (SV.int IntKind.u8 (iS x)), AV.s (SV.str (iP x)), AV.s (SV.int IntKind.i64 (iN x)), AV.s (SV.int IntKind.i64 (iF x)), AV.s (SV.int IntKind.u8 (iW x)), AV.s (SV.str (iC x))] (31 : Nat), AObj.own [AV.s (SV.str (nN n)), AV.s (SV.int IntKind.u8 (nK n)), AV.s (SV.int IntKind.i64 (nI n)), AV.s (SV.int IntKind.i64 (nO n)), AV.s (SV.int IntKind.u8 (nE n)), AV.s (SV.str (nY n)), AV.s (SV.str (nT n)), AV.s (SV.str (nS n)), AV.s (SV.bool (nB n)), AV.s (SV.ro (Con.typ cV (nV n))), AV.s (SV.ro (Con.strs (nZ n)))] (45 : Nat), AObj.own [AV.s (SV.str (pN (getP ps (iP x)))), AV.s (SV.ro (Con.typ cV (pV (getP ps (iP x))))), AV.s (SV.ro (Con.typ cN (pO (getP ps (iP x))))), AV.s (SV.ro (Con.typ cF (pF (getP ps (iP x)))))] (40 : Nat)] (AV.s (SV.blit false)))
        (Tree.ite (decide (iF x ≥ (↑(pF (getP ps (iP x))).length : Int))) (Tree.ret [AObj.own [AV.s (SV.int IntKind.i64 ck), AV.s (SV.int IntKind.i64 nx), AV.s (SV.ro (Con.typ cP ps)), AV.s (SV.ro (Con.typ cI is)), AV.s (SV.ro (Con.typ cC cs)), AV.s (SV.ro (Con.typ cW ws))] (27 : Nat), AObj.own [AV.s (SV.int IntKind.i64 (iI x)), AV.s (SV.int IntKind.i64 (iU x)), AV.s (SV.int IntKind.u8 (iS x)), AV.s (SV.str (iP x)), AV.s (SV.int IntKind.i64 (iN x)), AV.s (SV.int IntKind.i64 (iF x)), AV.s (SV.int IntKind.u8 (iW x)), AV.s (SV.str (iC x))] (31 : Nat), AObj.own [AV.s (SV.str (nN n)), AV.s (SV.int IntKind.u8 (nK n)), AV.s (SV.int IntKind.i64 (nI n)), AV.s (SV.int IntKind.i64 (nO n)), AV.s (SV.int IntKind.u8 (nE n)), AV.s (SV.str (nY n)), AV.s (SV.str (nT n)), AV.s (SV.str (nS n)), AV.s (SV.bool (nB n)), AV.s (SV.ro (Con.typ cV (nV n))), AV.s (SV.ro (Con.strs (nZ n)))] (45 : Nat), AObj.own [AV.s (SV.str (pN (getP ps (iP x)))), AV.s (SV.ro (Con.typ cV (pV (getP ps (iP x))))), AV.s (SV.ro (Con.typ cN (pO (getP ps (iP x))))), AV.s (SV.ro (Con.typ cF (pF (getP ps (iP x)))))] (40 : Nat)] (AV.s (SV.blit false)))
          (Tree.need ((0 : Int) ≤ iF x)
            (Tree.need (iF x < (↑(pF (getP ps (iP x))).length : Int))
              (Tree.ite (fB (el (pF (getP ps (iP x))) (iF x)) != iN x) (Tree.ret [AObj.own [AV.s (SV.int IntKind.i64 ck), AV.s (SV.int IntKind.i64 nx), AV.s (SV.ro (Con.typ cP ps)), AV.s (SV.ro (Con.typ cI is)), AV.s (SV.ro (Con.typ cC cs)), AV.s (SV.ro (Con.typ cW ws))] (27 : Nat), AObj.own [AV.s (SV.int IntKind.i64 (iI x)), AV.s (SV.int IntKind.i64 (iU x)), AV.s (SV.int IntKind.u8 (iS x)), AV.s (SV.str (iP x)), AV.s (SV.int IntKind.i64 (iN x)), AV.s (SV.int IntKind.i64 (iF x)), AV.s (SV.int IntKind.u8 (iW x)), AV.s (SV.str (iC x))] (31 : Nat), AObj.own [AV.s (SV.str (nN n)), AV.s (SV.int IntKind.u8 (nK n)), AV.s (SV.int IntKind.i64 (nI n)), AV.s (SV.int IntKind.i64 (nO n)), AV.s (SV.int IntKind.u8 (nE n)), AV.s (SV.str (nY n)), AV.s (SV.str (nT n)), AV.s (SV.str (nS n)), AV.s (SV.bool (nB n)), AV.s (SV.ro (Con.typ cV (nV n))), AV.s (SV.ro (Con.strs (nZ n)))] (45 : Nat), AObj.own [AV.s (SV.str (pN (getP ps (iP x)))), AV.s (SV.ro (Con.typ cV (pV (getP ps (iP x))))), AV.s (SV.ro (Con.typ cN (pO (getP ps (iP x))))), AV.s (SV.ro (Con.typ cF (pF (getP ps (iP x)))))] (40 : Nat)] (AV.s (SV.blit false)))
                (Tree.need (List.length is ≤ (1000000 : Nat))
                  (Tree.ite ((↑(kidsF (esOf is) (iI x)).length : Int) == (0 : Int)) (Tree.ite (iW x != (3 : Int)) (Tree.ret [AObj.own [AV.s (SV.int IntKind.i64 ck), AV.s (SV.int IntKind.i64 nx), AV.s (SV.ro (Con.typ cP ps)), AV.s (SV.ro (Con.typ cI is)), AV.s (SV.ro (Con.typ cC cs)), AV.s (SV.ro (Con.typ cW ws))] (27 : Nat), AObj.own [AV.s (SV.int IntKind.i64 (iI x)), AV.s (SV.int IntKind.i64 (iU x)), AV.s (SV.int IntKind.u8 (iS x)), AV.s (SV.str (iP x)), AV.s (SV.int IntKind.i64 (iN x)), AV.s (SV.int IntKind.i64 (iF x)), AV.s (SV.int IntKind.u8 (iW x)), AV.s (SV.str (iC x))] (31 : Nat), AObj.own [AV.s (SV.str (nN n)), AV.s (SV.int IntKind.u8 (nK n)), AV.s (SV.int IntKind.i64 (nI n)), AV.s (SV.int IntKind.i64 (nO n)), AV.s (SV.int IntKind.u8 (nE n)), AV.s (SV.str (nY n)), AV.s (SV.str (nT n)), AV.s (SV.str (nS n)), AV.s (SV.bool (nB n)), AV.s (SV.ro (Con.typ cV (nV n))), AV.s (SV.ro (Con.strs (nZ n)))] (45 : Nat), AObj.own [AV.s (SV.str (pN (getP ps (iP x)))), AV.s (SV.ro (Con.typ cV (pV (getP ps (iP x))))), AV.s (SV.ro (Con.typ cN (pO (getP ps (iP x))))), AV.s (SV.ro (Con.typ cF (pF (getP ps (iP x)))))] (40 : Nat), AObj.vec (Con.ints IntKind.i64 (kidsF (esOf is) (iI x))) (3 : Nat)] (AV.s (SV.blit true))) (Tree.ite ((↑(kidsF (esOf is) (iI x)).length : Int) == (1 : Int)) (Tree.ret [AObj.own [AV.s (SV.int IntKind.i64 ck), AV.s (SV.int IntKind.i64 nx), AV.s (SV.ro (Con.typ cP ps)), AV.s (SV.ro (Con.typ cI is)), AV.s (SV.ro (Con.typ cC cs)), AV.s (SV.ro (Con.typ cW ws))] (27 : Nat), AObj.own [AV.s (SV.int IntKind.i64 (iI x)), AV.s (SV.int IntKind.i64 (iU x)), AV.s (SV.int IntKind.u8 (iS x)), AV.s (SV.str (iP x)), AV.s (SV.int IntKind.i64 (iN x)), AV.s (SV.int IntKind.i64 (iF x)), AV.s (SV.int IntKind.u8 (iW x)), AV.s (SV.str (iC x))] (31 : Nat), AObj.own [AV.s (SV.str (nN n)), AV.s (SV.int IntKind.u8 (nK n)), AV.s (SV.int IntKind.i64 (nI n)), AV.s (SV.int IntKind.i64 (nO n)), AV.s (SV.int IntKind.u8 (nE n)), AV.s (SV.str (nY n)), AV.s (SV.str (nT n)), AV.s (SV.str (nS n)), AV.s (SV.bool (nB n)), AV.s (SV.ro (Con.typ cV (nV n))), AV.s (SV.ro (Con.strs (nZ n)))] (45 : Nat), AObj.own [AV.s (SV.str (pN (getP ps (iP x)))), AV.s (SV.ro (Con.typ cV (pV (getP ps (iP x))))), AV.s (SV.ro (Con.typ cN (pO (getP ps (iP x))))), AV.s (SV.ro (Con.typ cF (pF (getP ps (iP x)))))] (40 : Nat), AObj.vec (Con.ints IntKind.i64 (kidsF (esOf is) (iI x))) (3 : Nat)] (AV.s (SV.bool (iW x == (3 : Int))))) (Tree.ret [AObj.own [AV.s (SV.int IntKind.i64 ck), AV.s (SV.int IntKind.i64 nx), AV.s (SV.ro (Con.typ cP ps)), AV.s (SV.ro (Con.typ cI is)), AV.s (SV.ro (Con.typ cC cs)), AV.s (SV.ro (Con.typ cW ws))] (27 : Nat), AObj.own [AV.s (SV.int IntKind.i64 (iI x)), AV.s (SV.int IntKind.i64 (iU x)), AV.s (SV.int IntKind.u8 (iS x)), AV.s (SV.str (iP x)), AV.s (SV.int IntKind.i64 (iN x)), AV.s (SV.int IntKind.i64 (iF x)), AV.s (SV.int IntKind.u8 (iW x)), AV.s (SV.str (iC x))] (31 : Nat), AObj.own [AV.s (SV.str (nN n)), AV.s (SV.int IntKind.u8 (nK n)), AV.s (SV.int IntKind.i64 (nI n)), AV.s (SV.int IntKind.i64 (nO n)), AV.s (SV.int IntKind.u8 (nE n)), AV.s (SV.str (nY n)), AV.s (SV.str (nT n)), AV.s (SV.str (nS n)), AV.s (SV.bool (nB n)), AV.s (SV.ro (Con.typ cV (nV n))), AV.s (SV.ro (Con.strs (nZ n)))] (45 : Nat), AObj.own [AV.s (SV.str (pN (getP ps (iP x)))), AV.s (SV.ro (Con.typ cV (pV (getP ps (iP x))))), AV.s (SV.ro (Con.typ cN (pO (getP ps (iP x))))), AV.s (SV.ro (Con.typ cF (pF (getP ps (iP x)))))] (40 : Nat), AObj.vec (Con.ints IntKind.i64 (kidsF (esOf is) (iI x))) (3 : Nat)] (AV.s (SV.blit false)))))
                    (Tree.ite ((↑(kidsF (esOf is) (iI x)).length : Int) == (1 : Int)) (Tree.ret [AObj.own [AV.s (SV.int IntKind.i64 ck), AV.s (SV.int IntKind.i64 nx), AV.s (SV.ro (Con.typ cP ps)), AV.s (SV.ro (Con.typ cI is)), AV.s (SV.ro (Con.typ cC cs)), AV.s (SV.ro (Con.typ cW ws))] (27 : Nat), AObj.own [AV.s (SV.int IntKind.i64 (iI x)), AV.s (SV.int IntKind.i64 (iU x)), AV.s (SV.int IntKind.u8 (iS x)), AV.s (SV.str (iP x)), AV.s (SV.int IntKind.i64 (iN x)), AV.s (SV.int IntKind.i64 (iF x)), AV.s (SV.int IntKind.u8 (iW x)), AV.s (SV.str (iC x))] (31 : Nat), AObj.own [AV.s (SV.str (nN n)), AV.s (SV.int IntKind.u8 (nK n)), AV.s (SV.int IntKind.i64 (nI n)), AV.s (SV.int IntKind.i64 (nO n)), AV.s (SV.int IntKind.u8 (nE n)), AV.s (SV.str (nY n)), AV.s (SV.str (nT n)), AV.s (SV.str (nS n)), AV.s (SV.bool (nB n)), AV.s (SV.ro (Con.typ cV (nV n))), AV.s (SV.ro (Con.strs (nZ n)))] (45 : Nat), AObj.own [AV.s (SV.str (pN (getP ps (iP x)))), AV.s (SV.ro (Con.typ cV (pV (getP ps (iP x))))), AV.s (SV.ro (Con.typ cN (pO (getP ps (iP x))))), AV.s (SV.ro (Con.typ cF (pF (getP ps (iP x)))))] (40 : Nat), AObj.vec (Con.ints IntKind.i64 (kidsF (esOf is) (iI x))) (3 : Nat)] (AV.s (SV.bool (iW x == (3 : Int))))) (Tree.ret [AObj.own [AV.s (SV.int IntKind.i64 ck), AV.s (SV.int IntKind.i64 nx), AV.s (SV.ro (Con.typ cP ps)), AV.s (SV.ro (Con.typ cI is)), AV.s (SV.ro (Con.typ cC cs)), AV.s (SV.ro (Con.typ cW ws))] (27 : Nat), AObj.own [AV.s (SV.int IntKind.i64 (iI x)), AV.s (SV.int IntKind.i64 (iU x)), AV.s (SV.int IntKind.u8 (iS x)), AV.s (SV.str (iP x)), AV.s (SV.int IntKind.i64 (iN x)), AV.s (SV.int IntKind.i64 (iF x)), AV.s (SV.int IntKind.u8 (iW x)), AV.s (SV.str (iC x))] (31 : Nat), AObj.own [AV.s (SV.str (nN n)), AV.s (SV.int IntKind.u8 (nK n)), AV.s (SV.int IntKind.i64 (nI n)), AV.s (SV.int IntKind.i64 (nO n)), AV.s (SV.int IntKind.u8 (nE n)), AV.s (SV.str (nY n)), AV.s (SV.str (nT n)), AV.s (SV.str (nS n)), AV.s (SV.bool (nB n)), AV.s (SV.ro (Con.typ cV (nV n))), AV.s (SV.ro (Con.strs (nZ n)))] (45 : Nat), AObj.own [AV.s (SV.str (pN (getP ps (iP x)))), AV.s (SV.ro (Con.typ cV (pV (getP ps (iP x))))), AV.s (SV.ro (Con.typ cN (pO (getP ps (iP x))))), AV.s (SV.ro (Con.typ cF (pF (getP ps (iP x)))))] (40 : Nat), AObj.vec (Con.ints IntKind.i64 (kidsF (esOf is) (iI x))) (3 : Nat)] (AV.s (SV.blit false)))))))))))
      (Tree.need (List.length is ≤ (1000000 : Nat))
        (Tree.ite ((↑(kidsF (esOf is) (iI x)).length : Int) == (0 : Int)) (Tree.ite (iW x != (3 : Int)) (Tree.ret [AObj.own [AV.s (SV.int IntKind.i64 ck), AV.s (SV.int IntKind.i64 nx), AV.s (SV.ro (Con.typ cP ps)), AV.s (SV.ro (Con.typ cI is)), AV.s (SV.ro (Con.typ cC cs)), AV.s (SV.ro (Con.typ cW ws))] (27 : Nat), AObj.own [AV.s (SV.int IntKind.i64 (iI x)), AV.s (SV.int IntKind.i64 (iU x)), AV.s (SV.int IntKind.u8 (iS x)), AV.s (SV.str (iP x)), AV.s (SV.int IntKind.i64 (iN x)), AV.s (SV.int IntKind.i64 (iF x)), AV.s (SV.int IntKind.u8 (iW x)), AV.s (SV.str (iC x))] (31 : Nat), AObj.own [AV.s (SV.str (nN n)), AV.s (SV.int IntKind.u8 (nK n)), AV.s (SV.int IntKind.i64 (nI n)), AV.s (SV.int IntKind.i64 (nO n)), AV.s (SV.int IntKind.u8 (nE n)), AV.s (SV.str (nY n)), AV.s (SV.str (nT n)), AV.s (SV.str (nS n)), AV.s (SV.bool (nB n)), AV.s (SV.ro (Con.typ cV (nV n))), AV.s (SV.ro (Con.strs (nZ n)))] (45 : Nat), AObj.own [AV.s (SV.str (pN (getP ps (iP x)))), AV.s (SV.ro (Con.typ cV (pV (getP ps (iP x))))), AV.s (SV.ro (Con.typ cN (pO (getP ps (iP x))))), AV.s (SV.ro (Con.typ cF (pF (getP ps (iP x)))))] (40 : Nat), AObj.vec (Con.ints IntKind.i64 (kidsF (esOf is) (iI x))) (3 : Nat)] (AV.s (SV.blit true))) (Tree.ite ((↑(kidsF (esOf is) (iI x)).length : Int) == (1 : Int)) (Tree.ret [AObj.own [AV.s (SV.int IntKind.i64 ck), AV.s (SV.int IntKind.i64 nx), AV.s (SV.ro (Con.typ cP ps)), AV.s (SV.ro (Con.typ cI is)), AV.s (SV.ro (Con.typ cC cs)), AV.s (SV.ro (Con.typ cW ws))] (27 : Nat), AObj.own [AV.s (SV.int IntKind.i64 (iI x)), AV.s (SV.int IntKind.i64 (iU x)), AV.s (SV.int IntKind.u8 (iS x)), AV.s (SV.str (iP x)), AV.s (SV.int IntKind.i64 (iN x)), AV.s (SV.int IntKind.i64 (iF x)), AV.s (SV.int IntKind.u8 (iW x)), AV.s (SV.str (iC x))] (31 : Nat), AObj.own [AV.s (SV.str (nN n)), AV.s (SV.int IntKind.u8 (nK n)), AV.s (SV.int IntKind.i64 (nI n)), AV.s (SV.int IntKind.i64 (nO n)), AV.s (SV.int IntKind.u8 (nE n)), AV.s (SV.str (nY n)), AV.s (SV.str (nT n)), AV.s (SV.str (nS n)), AV.s (SV.bool (nB n)), AV.s (SV.ro (Con.typ cV (nV n))), AV.s (SV.ro (Con.strs (nZ n)))] (45 : Nat), AObj.own [AV.s (SV.str (pN (getP ps (iP x)))), AV.s (SV.ro (Con.typ cV (pV (getP ps (iP x))))), AV.s (SV.ro (Con.typ cN (pO (getP ps (iP x))))), AV.s (SV.ro (Con.typ cF (pF (getP ps (iP x)))))] (40 : Nat), AObj.vec (Con.ints IntKind.i64 (kidsF (esOf is) (iI x))) (3 : Nat)] (AV.s (SV.bool (iW x == (3 : Int))))) (Tree.ret [AObj.own [AV.s (SV.int IntKind.i64 ck), AV.s (SV.int IntKind.i64 nx), AV.s (SV.ro (Con.typ cP ps)), AV.s (SV.ro (Con.typ cI is)), AV.s (SV.ro (Con.typ cC cs)), AV.s (SV.ro (Con.typ cW ws))] (27 : Nat), AObj.own [AV.s (SV.int IntKind.i64 (iI x)), AV.s (SV.int IntKind.i64 (iU x)), AV.s (SV.int IntKind.u8 (iS x)), AV.s (SV.str (iP x)), AV.s (SV.int IntKind.i64 (iN x)), AV.s (SV.int IntKind.i64 (iF x)), AV.s (SV.int IntKind.u8 (iW x)), AV.s (SV.str (iC x))] (31 : Nat), AObj.own [AV.s (SV.str (nN n)), AV.s (SV.int IntKind.u8 (nK n)), AV.s (SV.int IntKind.i64 (nI n)), AV.s (SV.int IntKind.i64 (nO n)), AV.s (SV.int IntKind.u8 (nE n)), AV.s (SV.str (nY n)), AV.s (SV.str (nT n)), AV.s (SV.str (nS n)), AV.s (SV.bool (nB n)), AV.s (SV.ro (Con.typ cV (nV n))), AV.s (SV.ro (Con.strs (nZ n)))] (45 : Nat), AObj.own [AV.s (SV.str (pN (getP ps (iP x)))), AV.s (SV.ro (Con.typ cV (pV (getP ps (iP x))))), AV.s (SV.ro (Con.typ cN (pO (getP ps (iP x))))), AV.s (SV.ro (Con.typ cF (pF (getP ps (iP x)))))] (40 : Nat), AObj.vec (Con.ints IntKind.i64 (kidsF (esOf is) (iI x))) (3 : Nat)] (AV.s (SV.blit false)))))
          (Tree.ite ((↑(kidsF (esOf is) (iI x)).length : Int) == (1 : Int)) (Tree.ret [AObj.own [AV.s (SV.int IntKind.i64 ck), AV.s (SV.int IntKind.i64 nx), AV.s (SV.ro (Con.typ cP ps)), AV.s (SV.ro (Con.typ cI is)), AV.s (SV.ro (Con.typ cC cs)), AV.s (SV.ro (Con.typ cW ws))] (27 : Nat), AObj.own [AV.s (SV.int IntKind.i64 (iI x)), AV.s (SV.int IntKind.i64 (iU x)), AV.s (SV.int IntKind.u8 (iS x)), AV.s (SV.str (iP x)), AV.s (SV.int IntKind.i64 (iN x)), AV.s (SV.int IntKind.i64 (iF x)), AV.s (SV.int IntKind.u8 (iW x)), AV.s (SV.str (iC x))] (31 : Nat), AObj.own [AV.s (SV.str (nN n)), AV.s (SV.int IntKind.u8 (nK n)), AV.s (SV.int IntKind.i64 (nI n)), AV.s (SV.int IntKind.i64 (nO n)), AV.s (SV.int IntKind.u8 (nE n)), AV.s (SV.str (nY n)), AV.s (SV.str (nT n)), AV.s (SV.str (nS n)), AV.s (SV.bool (nB n)), AV.s (SV.ro (Con.typ cV (nV n))), AV.s (SV.ro (Con.strs (nZ n)))] (45 : Nat), AObj.own [AV.s (SV.str (pN (getP ps (iP x)))), AV.s (SV.ro (Con.typ cV (pV (getP ps (iP x))))), AV.s (SV.ro (Con.typ cN (pO (getP ps (iP x))))), AV.s (SV.ro (Con.typ cF (pF (getP ps (iP x)))))] (40 : Nat), AObj.vec (Con.ints IntKind.i64 (kidsF (esOf is) (iI x))) (3 : Nat)] (AV.s (SV.bool (iW x == (3 : Int))))) (Tree.ret [AObj.own [AV.s (SV.int IntKind.i64 ck), AV.s (SV.int IntKind.i64 nx), AV.s (SV.ro (Con.typ cP ps)), AV.s (SV.ro (Con.typ cI is)), AV.s (SV.ro (Con.typ cC cs)), AV.s (SV.ro (Con.typ cW ws))] (27 : Nat), AObj.own [AV.s (SV.int IntKind.i64 (iI x)), AV.s (SV.int IntKind.i64 (iU x)), AV.s (SV.int IntKind.u8 (iS x)), AV.s (SV.str (iP x)), AV.s (SV.int IntKind.i64 (iN x)), AV.s (SV.int IntKind.i64 (iF x)), AV.s (SV.int IntKind.u8 (iW x)), AV.s (SV.str (iC x))] (31 : Nat), AObj.own [AV.s (SV.str (nN n)), AV.s (SV.int IntKind.u8 (nK n)), AV.s (SV.int IntKind.i64 (nI n)), AV.s (SV.int IntKind.i64 (nO n)), AV.s (SV.int IntKind.u8 (nE n)), AV.s (SV.str (nY n)), AV.s (SV.str (nT n)), AV.s (SV.str (nS n)), AV.s (SV.bool (nB n)), AV.s (SV.ro (Con.typ cV (nV n))), AV.s (SV.ro (Con.strs (nZ n)))] (45 : Nat), AObj.own [AV.s (SV.str (pN (getP ps (iP x)))), AV.s (SV.ro (Con.typ cV (pV (getP ps (iP x))))), AV.s (SV.ro (Con.typ cN (pO (getP ps (iP x))))), AV.s (SV.ro (Con.typ cF (pF (getP ps (iP x)))))] (40 : Nat), AObj.vec (Con.ints IntKind.i64 (kidsF (esOf is) (iI x))) (3 : Nat)] (AV.s (SV.blit false)))))))) := by kernel_rfl
noncomputable def cTlD (ck nx : Int) (ps : Ps) (is : Is) (cs : Cs) (ws : Ws) (x : CL cI) : Cfg := ⟨sl 124 [(2, .ptr 0 0), (3, .ptr 1 0)], [obSt ck nx ps is cs ws, obIt x], hr Tryd.f34 7, {}⟩
theorem midTlD (S : Value → List Int → Prop) (ck nx : Int) (ps : Ps) (is : Is) (cs : Cs) (ws : Ws) (x : CL cI) : run P (tabTk S).sum Tryd.f34 nsTl (cTlD ck nx ps is cs ws x) =
  Tree.ite (iF x != (-1 : Int))
  (Tree.ite (decide (iF x < (0 : Int))) (Tree.ret [AObj.own [AV.s (SV.int IntKind.i64 ck), AV.s (SV.int IntKind.i64 nx), AV.s (SV.ro (Con.typ cP ps)), AV.s (SV.ro (Con.typ cI is)), AV.s (SV.ro (Con.typ cC cs)), AV.s (SV.ro (Con.typ cW ws))] (27 : Nat), AObj.own [AV.s (SV.int IntKind.i64 (iI x)), AV.s (SV.int IntKind.i64 (iU x)), AV.s (SV.int IntKind.u8 (iS x)), AV.s (SV.str (iP x)), AV.s (SV.int IntKind.i64 (iN x)), AV.s (SV.int IntKind.i64 (iF x)), AV.s (SV.int IntKind.u8 (iW x)), AV.s (SV.str (iC x))] (31 : Nat), AObj.own [AV.s (SV.str (pN (getP ps (iP x)))), AV.s (SV.ro (Con.typ cV (pV (getP ps (iP x))))), AV.s (SV.ro (Con.typ cN (pO (getP ps (iP x))))), AV.s (SV.ro (Con.typ cF (pF (getP ps (iP x)))))] (40 : Nat)] (AV.s (SV.blit false)))
    (Tree.ite (decide (iF x ≥ (↑(pF (getP ps (iP x))).length : Int))) (Tree.ret [AObj.own [AV.s (SV.int IntKind.i64 ck), AV.s (SV.int IntKind.i64 nx), AV.s (SV.ro (Con.typ cP ps)), AV.s (SV.ro (Con.typ cI is)), AV.s (SV.ro (Con.typ cC cs)), AV.s (SV.ro (Con.typ cW ws))] (27 : Nat), AObj.own [AV.s (SV.int IntKind.i64 (iI x)), AV.s (SV.int IntKind.i64 (iU x)), AV.s (SV.int IntKind.u8 (iS x)), AV.s (SV.str (iP x)), AV.s (SV.int IntKind.i64 (iN x)), AV.s (SV.int IntKind.i64 (iF x)), AV.s (SV.int IntKind.u8 (iW x)), AV.s (SV.str (iC x))] (31 : Nat), AObj.own [AV.s (SV.str (pN (getP ps (iP x)))), AV.s (SV.ro (Con.typ cV (pV (getP ps (iP x))))), AV.s (SV.ro (Con.typ cN (pO (getP ps (iP x))))), AV.s (SV.ro (Con.typ cF (pF (getP ps (iP x)))))] (40 : Nat)] (AV.s (SV.blit false)))
      (Tree.need ((0 : Int) ≤ iF x)
        (Tree.need (iF x < (↑(pF (getP ps (iP x))).length : Int))
          (Tree.ite (fB (el (pF (getP ps (iP x))) (iF x)) != iN x) (Tree.ret [AObj.own [AV.s (SV.int IntKind.i64 ck), AV.s (SV.int IntKind.i64 nx), AV.s (SV.ro (Con.typ cP ps)), AV.s (SV.ro (Con.typ cI is)), AV.s (SV.ro (Con.typ cC cs)), AV.s (SV.ro (Con.typ cW ws))] (27 : Nat), AObj.own [AV.s (SV.int IntKind.i64 (iI x)), AV.s (SV.int IntKind.i64 (iU x)), AV.s (SV.int IntKind.u8 (iS x)), AV.s (SV.str (iP x)), AV.s (SV.int IntKind.i64 (iN x)), AV.s (SV.int IntKind.i64 (iF x)), AV.s (SV.int IntKind.u8 (iW x)), AV.s (SV.str (iC x))] (31 : Nat), AObj.own [AV.s (SV.str (pN (getP ps (iP x)))), AV.s (SV.ro (Con.typ cV (pV (getP ps (iP x))))), AV.s (SV.ro (Con.typ cN (pO (getP ps (iP x))))), AV.s (SV.ro (Con.typ cF (pF (getP ps (iP x)))))] (40 : Nat)] (AV.s (SV.blit false)))
            (Tree.need (List.length is ≤ (1000000 : Nat))
              (Tree.ite ((↑(kidsF (esOf is) (iI x)).length : Int) == (0 : Int)) (Tree.ite (iW x != (3 : Int)) (Tree.ret [AObj.own [AV.s (SV.int IntKind.i64 ck), AV.s (SV.int IntKind.i64 nx), AV.s (SV.ro (Con.typ cP ps)), AV.s (SV.ro (Con.typ cI is)), AV.s (SV.ro (Con.typ cC cs)), AV.s (SV.ro (Con.typ cW ws))] (27 : Nat), AObj.own [AV.s (SV.int IntKind.i64 (iI x)), AV.s (SV.int IntKind.i64 (iU x)), AV.s (SV.int IntKind.u8 (iS x)), AV.s (SV.str (iP x)), AV.s (SV.int IntKind.i64 (iN x)), AV.s (SV.int IntKind.i64 (iF x)), AV.s (SV.int IntKind.u8 (iW x)), AV.s (SV.str (iC x))] (31 : Nat), AObj.own [AV.s (SV.str (pN (getP ps (iP x)))), AV.s (SV.ro (Con.typ cV (pV (getP ps (iP x))))), AV.s (SV.ro (Con.typ cN (pO (getP ps (iP x))))), AV.s (SV.ro (Con.typ cF (pF (getP ps (iP x)))))] (40 : Nat), AObj.vec (Con.ints IntKind.i64 (kidsF (esOf is) (iI x))) (3 : Nat)] (AV.s (SV.blit true))) (Tree.ite ((↑(kidsF (esOf is) (iI x)).length : Int) == (1 : Int)) (Tree.ret [AObj.own [AV.s (SV.int IntKind.i64 ck), AV.s (SV.int IntKind.i64 nx), AV.s (SV.ro (Con.typ cP ps)), AV.s (SV.ro (Con.typ cI is)), AV.s (SV.ro (Con.typ cC cs)), AV.s (SV.ro (Con.typ cW ws))] (27 : Nat), AObj.own [AV.s (SV.int IntKind.i64 (iI x)), AV.s (SV.int IntKind.i64 (iU x)), AV.s (SV.int IntKind.u8 (iS x)), AV.s (SV.str (iP x)), AV.s (SV.int IntKind.i64 (iN x)), AV.s (SV.int IntKind.i64 (iF x)), AV.s (SV.int IntKind.u8 (iW x)), AV.s (SV.str (iC x))] (31 : Nat), AObj.own [AV.s (SV.str (pN (getP ps (iP x)))), AV.s (SV.ro (Con.typ cV (pV (getP ps (iP x))))), AV.s (SV.ro (Con.typ cN (pO (getP ps (iP x))))), AV.s (SV.ro (Con.typ cF (pF (getP ps (iP x)))))] (40 : Nat), AObj.vec (Con.ints IntKind.i64 (kidsF (esOf is) (iI x))) (3 : Nat)] (AV.s (SV.bool (iW x == (3 : Int))))) (Tree.ret [AObj.own [AV.s (SV.int IntKind.i64 ck), AV.s (SV.int IntKind.i64 nx), AV.s (SV.ro (Con.typ cP ps)), AV.s (SV.ro (Con.typ cI is)), AV.s (SV.ro (Con.typ cC cs)), AV.s (SV.ro (Con.typ cW ws))] (27 : Nat), AObj.own [AV.s (SV.int IntKind.i64 (iI x)), AV.s (SV.int IntKind.i64 (iU x)), AV.s (SV.int IntKind.u8 (iS x)), AV.s (SV.str (iP x)), AV.s (SV.int IntKind.i64 (iN x)), AV.s (SV.int IntKind.i64 (iF x)), AV.s (SV.int IntKind.u8 (iW x)), AV.s (SV.str (iC x))] (31 : Nat), AObj.own [AV.s (SV.str (pN (getP ps (iP x)))), AV.s (SV.ro (Con.typ cV (pV (getP ps (iP x))))), AV.s (SV.ro (Con.typ cN (pO (getP ps (iP x))))), AV.s (SV.ro (Con.typ cF (pF (getP ps (iP x)))))] (40 : Nat), AObj.vec (Con.ints IntKind.i64 (kidsF (esOf is) (iI x))) (3 : Nat)] (AV.s (SV.blit false)))))
                (Tree.ite ((↑(kidsF (esOf is) (iI x)).length : Int) == (1 : Int)) (Tree.ret [AObj.own [AV.s (SV.int IntKind.i64 ck), AV.s (SV.int IntKind.i64 nx), AV.s (SV.ro (Con.typ cP ps)), AV.s (SV.ro (Con.typ cI is)), AV.s (SV.ro (Con.typ cC cs)), AV.s (SV.ro (Con.typ cW ws))] (27 : Nat), AObj.own [AV.s (SV.int IntKind.i64 (iI x)), AV.s (SV.int IntKind.i64 (iU x)), AV.s (SV.int IntKind.u8 (iS x)), AV.s (SV.str (iP x)), AV.s (SV.int IntKind.i64 (iN x)), AV.s (SV.int IntKind.i64 (iF x)), AV.s (SV.int IntKind.u8 (iW x)), AV.s (SV.str (iC x))] (31 : Nat), AObj.own [AV.s (SV.str (pN (getP ps (iP x)))), AV.s (SV.ro (Con.typ cV (pV (getP ps (iP x))))), AV.s (SV.ro (Con.typ cN (pO (getP ps (iP x))))), AV.s (SV.ro (Con.typ cF (pF (getP ps (iP x)))))] (40 : Nat), AObj.vec (Con.ints IntKind.i64 (kidsF (esOf is) (iI x))) (3 : Nat)] (AV.s (SV.bool (iW x == (3 : Int))))) (Tree.ret [AObj.own [AV.s (SV.int IntKind.i64 ck), AV.s (SV.int IntKind.i64 nx), AV.s (SV.ro (Con.typ cP ps)), AV.s (SV.ro (Con.typ cI is)), AV.s (SV.ro (Con.typ cC cs)), AV.s (SV.ro (Con.typ cW ws))] (27 : Nat), AObj.own [AV.s (SV.int IntKind.i64 (iI x)), AV.s (SV.int IntKind.i64 (iU x)), AV.s (SV.int IntKind.u8 (iS x)), AV.s (SV.str (iP x)), AV.s (SV.int IntKind.i64 (iN x)), AV.s (SV.int IntKind.i64 (iF x)), AV.s (SV.int IntKind.u8 (iW x)), AV.s (SV.str (iC x))] (31 : Nat), AObj.own [AV.s (SV.str (pN (getP ps (iP x)))), AV.s (SV.ro (Con.typ cV (pV (getP ps (iP x))))), AV.s (SV.ro (Con.typ cN (pO (getP ps (iP x))))), AV.s (SV.ro (Con.typ cF (pF (getP ps (iP x)))))] (40 : Nat), AObj.vec (Con.ints IntKind.i64 (kidsF (esOf is) (iI x))) (3 : Nat)] (AV.s (SV.blit false)))))))))))
  (Tree.need (List.length is ≤ (1000000 : Nat))
    (Tree.ite ((↑(kidsF (esOf is) (iI x)).length : Int) == (0 : Int)) (Tree.ite (iW x != (3 : Int)) (Tree.ret [AObj.own [AV.s (SV.int IntKind.i64 ck), AV.s (SV.int IntKind.i64 nx), AV.s (SV.ro (Con.typ cP ps)), AV.s (SV.ro (Con.typ cI is)), AV.s (SV.ro (Con.typ cC cs)), AV.s (SV.ro (Con.typ cW ws))] (27 : Nat), AObj.own [AV.s (SV.int IntKind.i64 (iI x)), AV.s (SV.int IntKind.i64 (iU x)), AV.s (SV.int IntKind.u8 (iS x)), AV.s (SV.str (iP x)), AV.s (SV.int IntKind.i64 (iN x)), AV.s (SV.int IntKind.i64 (iF x)), AV.s (SV.int IntKind.u8 (iW x)), AV.s (SV.str (iC x))] (31 : Nat), AObj.own [AV.s (SV.str (pN (getP ps (iP x)))), AV.s (SV.ro (Con.typ cV (pV (getP ps (iP x))))), AV.s (SV.ro (Con.typ cN (pO (getP ps (iP x))))), AV.s (SV.ro (Con.typ cF (pF (getP ps (iP x)))))] (40 : Nat), AObj.vec (Con.ints IntKind.i64 (kidsF (esOf is) (iI x))) (3 : Nat)] (AV.s (SV.blit true))) (Tree.ite ((↑(kidsF (esOf is) (iI x)).length : Int) == (1 : Int)) (Tree.ret [AObj.own [AV.s (SV.int IntKind.i64 ck), AV.s (SV.int IntKind.i64 nx), AV.s (SV.ro (Con.typ cP ps)), AV.s (SV.ro (Con.typ cI is)), AV.s (SV.ro (Con.typ cC cs)), AV.s (SV.ro (Con.typ cW ws))] (27 : Nat), AObj.own [AV.s (SV.int IntKind.i64 (iI x)), AV.s (SV.int IntKind.i64 (iU x)), AV.s (SV.int IntKind.u8 (iS x)), AV.s (SV.str (iP x)), AV.s (SV.int IntKind.i64 (iN x)), AV.s (SV.int IntKind.i64 (iF x)), AV.s (SV.int IntKind.u8 (iW x)), AV.s (SV.str (iC x))] (31 : Nat), AObj.own [AV.s (SV.str (pN (getP ps (iP x)))), AV.s (SV.ro (Con.typ cV (pV (getP ps (iP x))))), AV.s (SV.ro (Con.typ cN (pO (getP ps (iP x))))), AV.s (SV.ro (Con.typ cF (pF (getP ps (iP x)))))] (40 : Nat), AObj.vec (Con.ints IntKind.i64 (kidsF (esOf is) (iI x))) (3 : Nat)] (AV.s (SV.bool (iW x == (3 : Int))))) (Tree.ret [AObj.own [AV.s (SV.int IntKind.i64 ck), AV.s (SV.int IntKind.i64 nx), AV.s (SV.ro (Con.typ cP ps)), AV.s (SV.ro (Con.typ cI is)), AV.s (SV.ro (Con.typ cC cs)), AV.s (SV.ro (Con.typ cW ws))] (27 : Nat), AObj.own [AV.s (SV.int IntKind.i64 (iI x)), AV.s (SV.int IntKind.i64 (iU x)), AV.s (SV.int IntKind.u8 (iS x)), AV.s (SV.str (iP x)), AV.s (SV.int IntKind.i64 (iN x)), AV.s (SV.int IntKind.i64 (iF x)), AV.s (SV.int IntKind.u8 (iW x)), AV.s (SV.str (iC x))] (31 : Nat), AObj.own [AV.s (SV.str (pN (getP ps (iP x)))), AV.s (SV.ro (Con.typ cV (pV (getP ps (iP x))))), AV.s (SV.ro (Con.typ cN (pO (getP ps (iP x))))), AV.s (SV.ro (Con.typ cF (pF (getP ps (iP x)))))] (40 : Nat), AObj.vec (Con.ints IntKind.i64 (kidsF (esOf is) (iI x))) (3 : Nat)] (AV.s (SV.blit false)))))
      (Tree.ite ((↑(kidsF (esOf is) (iI x)).length : Int) == (1 : Int)) (Tree.ret [AObj.own [AV.s (SV.int IntKind.i64 ck), AV.s (SV.int IntKind.i64 nx), AV.s (SV.ro (Con.typ cP ps)), AV.s (SV.ro (Con.typ cI is)), AV.s (SV.ro (Con.typ cC cs)), AV.s (SV.ro (Con.typ cW ws))] (27 : Nat), AObj.own [AV.s (SV.int IntKind.i64 (iI x)), AV.s (SV.int IntKind.i64 (iU x)), AV.s (SV.int IntKind.u8 (iS x)), AV.s (SV.str (iP x)), AV.s (SV.int IntKind.i64 (iN x)), AV.s (SV.int IntKind.i64 (iF x)), AV.s (SV.int IntKind.u8 (iW x)), AV.s (SV.str (iC x))] (31 : Nat), AObj.own [AV.s (SV.str (pN (getP ps (iP x)))), AV.s (SV.ro (Con.typ cV (pV (getP ps (iP x))))), AV.s (SV.ro (Con.typ cN (pO (getP ps (iP x))))), AV.s (SV.ro (Con.typ cF (pF (getP ps (iP x)))))] (40 : Nat), AObj.vec (Con.ints IntKind.i64 (kidsF (esOf is) (iI x))) (3 : Nat)] (AV.s (SV.bool (iW x == (3 : Int))))) (Tree.ret [AObj.own [AV.s (SV.int IntKind.i64 ck), AV.s (SV.int IntKind.i64 nx), AV.s (SV.ro (Con.typ cP ps)), AV.s (SV.ro (Con.typ cI is)), AV.s (SV.ro (Con.typ cC cs)), AV.s (SV.ro (Con.typ cW ws))] (27 : Nat), AObj.own [AV.s (SV.int IntKind.i64 (iI x)), AV.s (SV.int IntKind.i64 (iU x)), AV.s (SV.int IntKind.u8 (iS x)), AV.s (SV.str (iP x)), AV.s (SV.int IntKind.i64 (iN x)), AV.s (SV.int IntKind.i64 (iF x)), AV.s (SV.int IntKind.u8 (iW x)), AV.s (SV.str (iC x))] (31 : Nat), AObj.own [AV.s (SV.str (pN (getP ps (iP x)))), AV.s (SV.ro (Con.typ cV (pV (getP ps (iP x))))), AV.s (SV.ro (Con.typ cN (pO (getP ps (iP x))))), AV.s (SV.ro (Con.typ cF (pF (getP ps (iP x)))))] (40 : Nat), AObj.vec (Con.ints IntKind.i64 (kidsF (esOf is) (iI x))) (3 : Nat)] (AV.s (SV.blit false)))))) := by kernel_rfl
end Ds

namespace Ds
open Go Go.Sx Go.Proofs Lf
def scopeF (ps : Ps) (is : Is) (x : CL cI) : Bool :=
  (iF x == -1) && (iW x == 0) && decide (iC x = ByteArray.empty) && !decide (depthF is (iI x) > 12) && ((iN x == -1) || (hasN ps (iP x) (iN x) && scnF (nK (ndF ps (iP x) (iN x))))) &&
  (if iU x = 0 then iN x == -1
   else if gS is (iU x) = 1 then hasN ps (iP x) (iN x) && (nK (ndF ps (iP x) (iN x)) == 13) && decide (gP is (iU x) = iP x) && (nI (ndF ps (iP x) (iN x)) == gN is (iU x))
   else hasN ps (gP is (iU x)) (gN is (iU x)) && (gW is (iU x) == 3) &&
     (if iN x = -1 then (nK (ndF ps (gP is (iU x)) (gN is (iU x))) == 14) && decide (nY (ndF ps (gP is (iU x)) (gN is (iU x))) = iP x)
      else decide (gP is (iU x) = iP x) && (gN is (iU x) == iN x)))
def kidsN (is : Is) (x : CL cI) : Int := ((kidsF (esOf is) (iI x)).length : Int)
def tokT (ps : Ps) (is : Is) (x : CL cI) : Bool :=
  ((iF x == -1) || (!decide (iF x < 0) && !decide (iF x ≥ ((pF (getP ps (iP x))).length : Int)) && (fB (el (pF (getP ps (iP x))) (iF x)) == iN x))) &&
  (((kidsN is x == 0) && (iW x != 3)) || ((kidsN is x == 1) && (iW x == 3)))
def tokenF (ps : Ps) (is : Is) (x : CL cI) : Bool :=
  (gS is (iU x) == 1) && decide (gP is (iU x) = iP x) && hasN ps (iP x) (iN x) && (nI (ndF ps (iP x) (iN x)) == gN is (iU x)) && ((!decide (iC x = ByteArray.empty)) == (iW x == 6)) &&
  ((iW x == 1) || (kindsF (iW x)).contains (nK (ndF ps (iP x) (iN x)))) && tokT ps is x
abbrev gKi : Nat := 0
abbrev tKi : TypeId := 109
theorem ends_is {L : List AObj} {b c : Bool} (h : b = c) : Ends [tBool] (b, ()) L (.s (.bool c)) := by subst h; exact rfl
theorem ends_il {L : List AObj} {b c : Bool} (h : b = c) : Ends [tBool] (b, ()) L (.s (.blit c)) := by subst h; exact rfl
theorem sc0_ok {Z : Glob} : FnOk P Z 62 [tU8] [tBool] (fun _ => []) (fun (k, ()) => (scnF k, ())) := by
  refine fnOk_of_safe Tryd.func62 (by kernel_rfl) (by kernel_rfl) ?_
  rintro ⟨(k : Int), ⟨⟩⟩ _ _ X hX hz
  show Safe P 62 X (Ends [tBool] (scnF k, ())) _
  refine go hz hX tabAc_ok Tryd.func62 (trSc0 k) ?_
  exact ends_eq _ rfl (by kernel_rfl)
theorem tabSc_ok {Z : Glob} : tabSc.Ok P Z := Tab.Ok.cons node_ok.sumR (Tab.Ok.cons depth_ok.sum (Tab.Ok.cons sc0_ok.sum (Tab.Ok.cons find_ok.sum Tab.Ok.nil)))
theorem scope_ok {Z : Glob} : FnOk P Z 33 [tSt, tIt] [tBool] (fun _ => []) (fun ((_, _, ps, is, _, _, ()), x, ()) => (scopeF ps is x, ())) := by
  refine fnOk_of_safe Tryd.func33 (by kernel_rfl) (by kernel_rfl) ?_
  rintro ⟨⟨(ck : Int), (nx : Int), (ps : Ps), (is : Is), (cs : Cs), (ws : Ws), ⟨⟩⟩, (x : CL cI), ⟨⟩⟩ _ _ X hX hz
  show Safe P 33 X (Ends [tBool] (scopeF ps is x, ())) _
  have mid : ∀ n b, scopeF ps is x = (if gS is (iU x) = 1 then b && (nK n == 13) && decide (gP is (iU x) = iP x) && (nI n == gN is (iU x))
   else hasN ps (gP is (iU x)) (gN is (iU x)) && (gW is (iU x) == 3) &&
     (if iN x = -1 then (nK (ndF ps (gP is (iU x)) (gN is (iU x))) == 14) && decide (nY (ndF ps (gP is (iU x)) (gN is (iU x))) = iP x)
      else decide (gP is (iU x) = iP x) && (gN is (iU x) == iN x))) → Safe P 33 X (Ends [tBool] (scopeF ps is x, ())) (cSc ck nx ps is cs ws x n b) := by
    intro n b he
    rw [he]
    clear he
    refine go hz hX tabSc_ok Tryd.func33 (midSc ck nx ps is cs ws x n b) ?_
    generalize hasN ps (gP is (iU x)) (gN is (iU x)) = hb
    generalize ndF ps (gP is (iU x)) (gN is (iU x)) = md
    repeat' (with_reducible (first | refine h_eq ?_ | refine h_need ?_ ?_ | refine h_dec (fun _ => ?_) (fun _ => ?_) | refine h_beq (fun _ => ?_) (fun _ => ?_) | refine h_bne (fun _ => ?_) (fun _ => ?_) | refine h_tt ?_ | refine h_ff ?_ | refine h_not ?_ | refine h_ite (fun _ => ?_) (fun _ => ?_) | refine h_both (fun _ => ?_) (fun _ => ?_) | refine h_ret ?_ | refine h_at ?_))
    all_goals first | exact ends_is (by simp [*]) | exact ends_il (by simp [*]) | exact ends_is (by simp_all) | exact ends_il (by simp_all)
  refine go hz hX tabSc_ok Tryd.func33 (trSc ck nx ps is cs ws x) ?_
  repeat' (with_reducible (first | refine h_eq ?_ | refine h_need ?_ ?_ | refine h_dec (fun _ => ?_) (fun _ => ?_) | refine h_beq (fun _ => ?_) (fun _ => ?_) | refine h_bne (fun _ => ?_) (fun _ => ?_) | refine h_tt ?_ | refine h_ff ?_ | refine h_not ?_ | refine h_ite (fun _ => ?_) (fun _ => ?_) | refine h_both (fun _ => ?_) (fun _ => ?_) | refine h_ret ?_ | refine h_at ?_))
  all_goals first
    | exact mid _ _ (by unfold scopeF; simp [*])
    | exact ends_is (by unfold scopeF; simp [*])
    | exact ends_il (by unfold scopeF; simp [*])
    | skip
theorem tabTk_ok {Z : Glob} (KV : MapVar P Z gKi tKi kindsF) : (tabTk (fun v zs => ∃ n, v = KV.at_ n ∧ zs = kindsF n)).Ok P Z :=
  Tab.Ok.cons node_ok.sumR (Tab.Ok.cons find_ok.sum (Tab.Ok.cons (sumIf_ok (sumKV_ok KV h8_ok) h8_ok.sum) (Tab.Ok.cons def_ok.sumR (Tab.Ok.cons kids_ok.sum Tab.Ok.nil))))
theorem token_ok {Z : Glob} (KV : MapVar P Z gKi tKi kindsF) : FnOk P Z 34 [tSt, tIt] [tBool] (fun ((_, _, _, is, _, _, ()), _, ()) => [(is : Is).length ≤ 1000000]) (fun ((_, _, ps, is, _, _, ()), x, ()) => (tokenF ps is x, ())) := by
  refine fnOk_of_safe Tryd.func34 (by kernel_rfl) (by kernel_rfl) ?_
  rintro ⟨⟨(ck : Int), (nx : Int), (ps : Ps), (is : Is), (cs : Cs), (ws : Ws), ⟨⟩⟩, (x : CL cI), ⟨⟩⟩ _ ⟨(hl : is.length ≤ 1000000), _⟩ X hX hz
  show Safe P 34 X (Ends [tBool] (tokenF ps is x, ())) _
  have tailD : tokenF ps is x = tokT ps is x → Safe P 34 X (Ends [tBool] (tokenF ps is x, ())) (cTlD ck nx ps is cs ws x) := fun he => by
    rw [he]
    refine go hz hX (tabTk_ok KV) Tryd.func34 (midTlD _ ck nx ps is cs ws x) ?_
    unfold tokT kidsN
    clear he
    generalize ((kidsF (esOf is) (iI x)).length : Int) = L
    generalize el (pF (getP ps (iP x))) (iF x) = fl
    generalize ((pF (getP ps (iP x))).length : Int) = fn
    repeat' (with_reducible (first | refine h_eq ?_ | refine h_need ?_ ?_ | refine h_dec (fun _ => ?_) (fun _ => ?_) | refine h_beq (fun _ => ?_) (fun _ => ?_) | refine h_bne (fun _ => ?_) (fun _ => ?_) | refine h_tt ?_ | refine h_ff ?_ | refine h_not ?_ | refine h_ite (fun _ => ?_) (fun _ => ?_) | refine h_both (fun _ => ?_) (fun _ => ?_) | refine h_ret ?_ | refine h_at ?_))
    all_goals first | omega | exact ends_is (by simp [*]) | exact ends_il (by simp [*]) | exact ends_is (by simp_all) | exact ends_il (by simp_all)
  have tailC : iW x ≠ 1 → ∀ n v zs, (∃ k, v = KV.at_ k ∧ zs = kindsF k) → tokenF ps is x = (zs.contains (nK n) && tokT ps is x) → Safe P 34 X (Ends [tBool] (tokenF ps is x, ())) (cTlC2 ck nx ps is cs ws x n KV.m v zs) := fun hw n v zs hv he => by
    rw [he]
    refine go hz hX (tabTk_ok KV) Tryd.func34 (midTlC _ ck nx ps is cs ws x n KV.m v zs) ⟨hv, ?_⟩
    unfold tokT kidsN
    clear he hv
    generalize ((kidsF (esOf is) (iI x)).length : Int) = L
    generalize el (pF (getP ps (iP x))) (iF x) = fl
    generalize ((pF (getP ps (iP x))).length : Int) = fn
    generalize zs.contains (nK n) = b
    repeat' (with_reducible (first | refine h_eq ?_ | refine h_need ?_ ?_ | refine h_dec (fun _ => ?_) (fun _ => ?_) | refine h_beq (fun _ => ?_) (fun _ => ?_) | refine h_bne (fun _ => ?_) (fun _ => ?_) | refine h_tt ?_ | refine h_ff ?_ | refine h_not ?_ | refine h_ite (fun _ => ?_) (fun _ => ?_) | refine h_both (fun _ => ?_) (fun _ => ?_) | refine h_ret ?_ | refine h_at ?_))
    all_goals first | omega | exact ends_is (by simp [*]) | exact ends_il (by simp [*]) | exact ends_is (by simp_all) | exact ends_il (by simp_all)
  have tailB : iW x ≠ 1 → ∀ n, tokenF ps is x = ((kindsF (iW x)).contains (nK n) && tokT ps is x) → Safe P 34 X (Ends [tBool] (tokenF ps is x, ())) (cTlB ck nx ps is cs ws x n) := fun hw n he => by
    refine slot_blit_safe (t := 58) (b := true) rfl ?_
    refine gload_safe KV hz (d := 59) (by kernel_rfl) (by kernel_rfl) (by kernel_rfl) ?_
    refine go hz hX (tabTk_ok KV) Tryd.func34 (midTlB _ ck nx ps is cs ws x n KV.m) ?_
    refine slot_blit_safe (t := 58) (b := true) rfl ?_
    refine glook_safe KV hz (y := 59) (z := 61) (d := 62) (n := iW x) (by kernel_rfl) (by kernel_rfl) (by kernel_rfl) rfl rfl ?_
    exact tailC hw n _ _ ⟨iW x, rfl, rfl⟩ he
  have midA : ∀ n, tokenF ps is x = (((iW x == 1) || (kindsF (iW x)).contains (nK n)) && tokT ps is x) → Safe P 34 X (Ends [tBool] (tokenF ps is x, ())) (cTlA ck nx ps is cs ws x n) := fun n he => by
    refine go hz hX (tabTk_ok KV) Tryd.func34 (midTlA _ ck nx ps is cs ws x n) ⟨fun h => ?_, fun h => ?_⟩
    · have hw : iW x ≠ 1 := by simpa using h
      exact tailB hw n (by rw [he, show (iW x == 1) = false from beq_eq_false_iff_ne.2 hw, Bool.false_or])
    · have hw : iW x = 1 := by simpa using h
      exact tailD (by rw [he, show (iW x == 1) = true from beq_iff_eq.2 hw, Bool.true_or, Bool.true_and])
  refine go hz hX (tabTk_ok KV) Tryd.func34 (trTl _ ck nx ps is cs ws x) ?_
  repeat' (with_reducible (first | refine h_eq ?_ | refine h_need ?_ ?_ | refine h_dec (fun _ => ?_) (fun _ => ?_) | refine h_beq (fun _ => ?_) (fun _ => ?_) | refine h_bne (fun _ => ?_) (fun _ => ?_) | refine h_tt ?_ | refine h_ff ?_ | refine h_not ?_ | refine h_ite (fun _ => ?_) (fun _ => ?_) | refine h_both (fun _ => ?_) (fun _ => ?_) | refine h_ret ?_ | refine h_at ?_))
  all_goals first
    | exact midA _ (by unfold tokenF; simp [*])
    | exact midA _ (by unfold tokenF; simp_all)
    | exact ends_is (by unfold tokenF; simp [*])
    | exact ends_il (by unfold tokenF; simp [*])
    | exact ends_il (by unfold tokenF; simp_all)
end Ds

namespace Ds
open Go Go.Sx Go.Proofs Lf
abbrev fCf : FuncId := 31
abbrev inSd : List FuncId := [fCf, fIx, 32]
def nsSd : List (Nat × Norm) := [(5, ⟨[], [1, 3, 14, 15, 16], 0, []⟩), ((fIx + 1) * 100000 + 2, ⟨[], [0, 1, 7, 8, 29, 31, 42, 43, 44, 65], 0, []⟩), (14, ⟨[], [1, 48, 49, 50], 0, []⟩)]
abbrev sumScp := sumOf [tSt, tIt] [tBool] (fun _ => []) (fun ((_, _, ps, is, _, _, ()), x, ()) => (scopeF ps is x, ()))
abbrev sumTok := sumOf [tSt, tIt] [tBool] (fun ((_, _, _, is, _, _, ()), _, ()) => [(is : Is).length ≤ 1000000]) (fun ((_, _, ps, is, _, _, ()), x, ()) => (tokenF ps is x, ()))
def tabSd : Tab := [(14, sumDf), (33, sumScp), (34, sumTok)]
theorem trSd (ck nx : Int) (ps : Ps) (is : Is) (cs : Cs) (ws : Ws) : run P tabSd.sum Tryd.f12 nsSd (start Tryd.f12 [avSt ck nx ps is cs ws] []) inSd =
  Tree.ite (decide (nx < (0 : Int))) (Tree.ret [AObj.own [AV.s (SV.int IntKind.i64 ck), AV.s (SV.int IntKind.i64 nx), AV.s (SV.ro (Con.typ cP ps)), AV.s (SV.ro (Con.typ cI is)), AV.s (SV.ro (Con.typ cC cs)), AV.s (SV.ro (Con.typ cW ws))] (27 : Nat)] (AV.s (SV.blit false))) (Tree.at (Cfg.mk (sl (82 : Nat) [((1 : Nat), AV.ptr (0 : Nat) (0 : Nat)), ((3 : Nat), AV.s (SV.int IntKind.i64 (0 : Int))), ((14 : Nat), AV.s (SV.ro (Con.typ cI is))), ((15 : Nat), AV.s (SV.int IntKind.i64 (↑(List.length is) : Int))), ((16 : Nat), AV.s (SV.int IntKind.i64 (0 : Int)))]) [AObj.own [AV.s (SV.int IntKind.i64 ck), AV.s (SV.int IntKind.i64 nx), AV.s (SV.ro (Con.typ cP ps)), AV.s (SV.ro (Con.typ cI is)), AV.s (SV.ro (Con.typ cC cs)), AV.s (SV.ro (Con.typ cW ws))] (27 : Nat)] (hd Tryd.f12 (5 : Nat)) (Stk.mk none false (0 : Nat) [] (0 : Nat)))) := by kernel_rfl
noncomputable def cSd (ck nx : Int) (ps : Ps) (is : Is) (cs : Cs) (ws : Ws) (last i : Int) : Cfg := ⟨sl 82 [(1, .ptr 0 0), (3, avI last), (14, .s (.ro (.typ cI is))), (15, avI (is.length : Int)), (16, avI i)], [obSt ck nx ps is cs ws], hd Tryd.f12 5, {}⟩
theorem loopSd (ck nx : Int) (ps : Ps) (is : Is) (cs : Cs) (ws : Ws) (last i : Int) : run P tabSd.sum Tryd.f12 nsSd (cSd ck nx ps is cs ws last i) inSd =
  Tree.ite (decide (i < (↑(List.length is) : Int))) (Tree.need ((0 : Int) ≤ i) (Tree.need (i < (↑(List.length is) : Int)) (Tree.ite (decide (iI (el is i) ≤ last)) (Tree.ret [AObj.own [AV.s (SV.int IntKind.i64 ck), AV.s (SV.int IntKind.i64 nx), AV.s (SV.ro (Con.typ cP ps)), AV.s (SV.ro (Con.typ cI is)), AV.s (SV.ro (Con.typ cC cs)), AV.s (SV.ro (Con.typ cW ws))] (27 : Nat), AObj.own [AV.s (SV.int IntKind.i64 (iI (el is i))), AV.s (SV.int IntKind.i64 (iU (el is i))), AV.s (SV.int IntKind.u8 (iS (el is i))), AV.s (SV.str (iP (el is i))), AV.s (SV.int IntKind.i64 (iN (el is i))), AV.s (SV.int IntKind.i64 (iF (el is i))), AV.s (SV.int IntKind.u8 (iW (el is i))), AV.s (SV.str (iC (el is i)))] (31 : Nat)] (AV.s (SV.blit false))) (Tree.ite (decide (iI (el is i) > nx)) (Tree.ret [AObj.own [AV.s (SV.int IntKind.i64 ck), AV.s (SV.int IntKind.i64 nx), AV.s (SV.ro (Con.typ cP ps)), AV.s (SV.ro (Con.typ cI is)), AV.s (SV.ro (Con.typ cC cs)), AV.s (SV.ro (Con.typ cW ws))] (27 : Nat), AObj.own [AV.s (SV.int IntKind.i64 (iI (el is i))), AV.s (SV.int IntKind.i64 (iU (el is i))), AV.s (SV.int IntKind.u8 (iS (el is i))), AV.s (SV.str (iP (el is i))), AV.s (SV.int IntKind.i64 (iN (el is i))), AV.s (SV.int IntKind.i64 (iF (el is i))), AV.s (SV.int IntKind.u8 (iW (el is i))), AV.s (SV.str (iC (el is i)))] (31 : Nat)] (AV.s (SV.blit false))) (Tree.ite (iU (el is i) != (0 : Int)) (Tree.need ((0 : Int) ≤ (0 : Int)) (Tree.need ((0 : Int) ≤ i) (Tree.need (i ≤ (↑(List.length is) : Int)) (Tree.at (Cfg.mk (sl (110 : Nat) [((0 : Nat), AV.s (SV.ro (Con.typ cI (List.drop (Int.toNat (0 : Int)) (List.take i.toNat is))))), ((1 : Nat), AV.fn (32 : Nat) [AV.ptr (0 : Nat) (0 : Nat)]), ((7 : Nat), AV.s (SV.int IntKind.i64 (↑(List.drop (Int.toNat (0 : Int)) (List.take i.toNat is)).length : Int))), ((8 : Nat), AV.s (SV.int IntKind.i64 (0 : Int))), ((29 : Nat), AV.ptr (1 : Nat) (0 : Nat)), ((31 : Nat), AV.s (SV.int IntKind.i64 (iI (el is i)))), ((42 : Nat), AV.s (SV.ro (Con.typ cI is))), ((43 : Nat), AV.s (SV.int IntKind.i64 (↑(List.length is) : Int))), ((44 : Nat), AV.s (SV.int IntKind.i64 i)), ((65 : Nat), AV.s (SV.bool true))]) [AObj.own [AV.s (SV.int IntKind.i64 (iI (el is i))), AV.s (SV.int IntKind.i64 (iU (el is i))), AV.s (SV.int IntKind.u8 (iS (el is i))), AV.s (SV.str (iP (el is i))), AV.s (SV.int IntKind.i64 (iN (el is i))), AV.s (SV.int IntKind.i64 (iF (el is i))), AV.s (SV.int IntKind.u8 (iW (el is i))), AV.s (SV.str (iC (el is i)))] (31 : Nat), AObj.own [AV.s (SV.int IntKind.i64 ck), AV.s (SV.int IntKind.i64 nx), AV.s (SV.ro (Con.typ cP ps)), AV.s (SV.ro (Con.typ cI is)), AV.s (SV.ro (Con.typ cC cs)), AV.s (SV.ro (Con.typ cW ws))] (27 : Nat)] (hd Tryd.f60 (2 : Nat)) (Stk.mk (some (60 : Nat)) false (0 : Nat) [inCall Tryd.f31 (some (31 : Nat)) (1 : Nat) (2 : Nat) false (0 : Nat), inCall Tryd.f12 none (10 : Nat) (9 : Nat) false (0 : Nat)] (0 : Nat))))))) (Tree.need (inI64 (i + (1 : Int))) (Tree.at (Cfg.mk (sl (82 : Nat) [((1 : Nat), AV.ptr (0 : Nat) (0 : Nat)), ((3 : Nat), AV.s (SV.int IntKind.i64 (iI (el is i)))), ((14 : Nat), AV.s (SV.ro (Con.typ cI is))), ((15 : Nat), AV.s (SV.int IntKind.i64 (↑(List.length is) : Int))), ((16 : Nat), AV.s (SV.int IntKind.i64 (i + (1 : Int))))]) [AObj.own [AV.s (SV.int IntKind.i64 ck), AV.s (SV.int IntKind.i64 nx), AV.s (SV.ro (Con.typ cP ps)), AV.s (SV.ro (Con.typ cI is)), AV.s (SV.ro (Con.typ cC cs)), AV.s (SV.ro (Con.typ cW ws))] (27 : Nat)] (hd Tryd.f12 (5 : Nat)) (Stk.mk none false (0 : Nat) [] (0 : Nat)))))))))) (Tree.at (Cfg.mk (sl (82 : Nat) [((1 : Nat), AV.ptr (0 : Nat) (0 : Nat)), ((48 : Nat), AV.s (SV.ro (Con.typ cI is))), ((49 : Nat), AV.s (SV.int IntKind.i64 (↑(List.length is) : Int))), ((50 : Nat), AV.s (SV.int IntKind.i64 (0 : Int)))]) [AObj.own [AV.s (SV.int IntKind.i64 ck), AV.s (SV.int IntKind.i64 nx), AV.s (SV.ro (Con.typ cP ps)), AV.s (SV.ro (Con.typ cI is)), AV.s (SV.ro (Con.typ cC cs)), AV.s (SV.ro (Con.typ cW ws))] (27 : Nat)] (hd Tryd.f12 (14 : Nat)) (Stk.mk none false (0 : Nat) [] (0 : Nat)))) := by kernel_rfl
noncomputable def cSe (ck nx : Int) (ps : Ps) (is : Is) (cs : Cs) (ws : Ws) (i : Int) : Cfg := ⟨sl 82 [(1, .ptr 0 0), (48, .s (.ro (.typ cI is))), (49, avI (is.length : Int)), (50, avI i)], [obSt ck nx ps is cs ws], hd Tryd.f12 14, {}⟩
theorem loopSe (ck nx : Int) (ps : Ps) (is : Is) (cs : Cs) (ws : Ws) (i : Int) : run P tabSd.sum Tryd.f12 nsSd (cSe ck nx ps is cs ws i) inSd =
  Tree.ite (decide (i < (↑(List.length is) : Int)))
  (Tree.need ((0 : Int) ≤ i)
    (Tree.need (i < (↑(List.length is) : Int))
      (Tree.ite (!hasP ps (iP (el is i))) (Tree.ret [AObj.own [AV.s (SV.int IntKind.i64 ck), AV.s (SV.int IntKind.i64 nx), AV.s (SV.ro (Con.typ cP ps)), AV.s (SV.ro (Con.typ cI is)), AV.s (SV.ro (Con.typ cC cs)), AV.s (SV.ro (Con.typ cW ws))] (27 : Nat), AObj.own [AV.s (SV.int IntKind.i64 (iI (el is i))), AV.s (SV.int IntKind.i64 (iU (el is i))), AV.s (SV.int IntKind.u8 (iS (el is i))), AV.s (SV.str (iP (el is i))), AV.s (SV.int IntKind.i64 (iN (el is i))), AV.s (SV.int IntKind.i64 (iF (el is i))), AV.s (SV.int IntKind.u8 (iW (el is i))), AV.s (SV.str (iC (el is i)))] (31 : Nat), AObj.own [AV.s (SV.str (pN (getP ps (iP (el is i))))), AV.s (SV.ro (Con.typ cV (pV (getP ps (iP (el is i)))))), AV.s (SV.ro (Con.typ cN (pO (getP ps (iP (el is i)))))), AV.s (SV.ro (Con.typ cF (pF (getP ps (iP (el is i))))))] (40 : Nat)] (AV.s (SV.blit false)))
        (Tree.ite (iS (el is i) == (1 : Int)) (Tree.ite (!scopeF ps is (iI (el is i), iU (el is i), iS (el is i), iP (el is i), iN (el is i), iF (el is i), iW (el is i), iC (el is i), ())) (Tree.ret [AObj.own [AV.s (SV.int IntKind.i64 ck), AV.s (SV.int IntKind.i64 nx), AV.s (SV.ro (Con.typ cP ps)), AV.s (SV.ro (Con.typ cI is)), AV.s (SV.ro (Con.typ cC cs)), AV.s (SV.ro (Con.typ cW ws))] (27 : Nat), AObj.own [AV.s (SV.int IntKind.i64 (iI (el is i))), AV.s (SV.int IntKind.i64 (iU (el is i))), AV.s (SV.int IntKind.u8 (iS (el is i))), AV.s (SV.str (iP (el is i))), AV.s (SV.int IntKind.i64 (iN (el is i))), AV.s (SV.int IntKind.i64 (iF (el is i))), AV.s (SV.int IntKind.u8 (iW (el is i))), AV.s (SV.str (iC (el is i)))] (31 : Nat), AObj.own [AV.s (SV.str (pN (getP ps (iP (el is i))))), AV.s (SV.ro (Con.typ cV (pV (getP ps (iP (el is i)))))), AV.s (SV.ro (Con.typ cN (pO (getP ps (iP (el is i)))))), AV.s (SV.ro (Con.typ cF (pF (getP ps (iP (el is i))))))] (40 : Nat)] (AV.s (SV.blit false))) (Tree.need (inI64 (i + (1 : Int))) (Tree.at (Cfg.mk (sl (82 : Nat) [((1 : Nat), AV.ptr (0 : Nat) (0 : Nat)), ((48 : Nat), AV.s (SV.ro (Con.typ cI is))), ((49 : Nat), AV.s (SV.int IntKind.i64 (↑(List.length is) : Int))), ((50 : Nat), AV.s (SV.int IntKind.i64 (i + (1 : Int))))]) [AObj.own [AV.s (SV.int IntKind.i64 ck), AV.s (SV.int IntKind.i64 nx), AV.s (SV.ro (Con.typ cP ps)), AV.s (SV.ro (Con.typ cI is)), AV.s (SV.ro (Con.typ cC cs)), AV.s (SV.ro (Con.typ cW ws))] (27 : Nat)] (hd Tryd.f12 (14 : Nat)) (Stk.mk none false (0 : Nat) [] (0 : Nat)))))) (Tree.ite (iS (el is i) == (2 : Int)) (Tree.need (List.length is ≤ (1000000 : Nat)) (Tree.ite (!tokenF ps is (iI (el is i), iU (el is i), iS (el is i), iP (el is i), iN (el is i), iF (el is i), iW (el is i), iC (el is i), ())) (Tree.ret [AObj.own [AV.s (SV.int IntKind.i64 ck), AV.s (SV.int IntKind.i64 nx), AV.s (SV.ro (Con.typ cP ps)), AV.s (SV.ro (Con.typ cI is)), AV.s (SV.ro (Con.typ cC cs)), AV.s (SV.ro (Con.typ cW ws))] (27 : Nat), AObj.own [AV.s (SV.int IntKind.i64 (iI (el is i))), AV.s (SV.int IntKind.i64 (iU (el is i))), AV.s (SV.int IntKind.u8 (iS (el is i))), AV.s (SV.str (iP (el is i))), AV.s (SV.int IntKind.i64 (iN (el is i))), AV.s (SV.int IntKind.i64 (iF (el is i))), AV.s (SV.int IntKind.u8 (iW (el is i))), AV.s (SV.str (iC (el is i)))] (31 : Nat), AObj.own [AV.s (SV.str (pN (getP ps (iP (el is i))))), AV.s (SV.ro (Con.typ cV (pV (getP ps (iP (el is i)))))), AV.s (SV.ro (Con.typ cN (pO (getP ps (iP (el is i)))))), AV.s (SV.ro (Con.typ cF (pF (getP ps (iP (el is i))))))] (40 : Nat)] (AV.s (SV.blit false))) (Tree.need (inI64 (i + (1 : Int))) (Tree.at (Cfg.mk (sl (82 : Nat) [((1 : Nat), AV.ptr (0 : Nat) (0 : Nat)), ((48 : Nat), AV.s (SV.ro (Con.typ cI is))), ((49 : Nat), AV.s (SV.int IntKind.i64 (↑(List.length is) : Int))), ((50 : Nat), AV.s (SV.int IntKind.i64 (i + (1 : Int))))]) [AObj.own [AV.s (SV.int IntKind.i64 ck), AV.s (SV.int IntKind.i64 nx), AV.s (SV.ro (Con.typ cP ps)), AV.s (SV.ro (Con.typ cI is)), AV.s (SV.ro (Con.typ cC cs)), AV.s (SV.ro (Con.typ cW ws))] (27 : Nat)] (hd Tryd.f12 (14 : Nat)) (Stk.mk none false (0 : Nat) [] (0 : Nat))))))) (Tree.ret [AObj.own [AV.s (SV.int IntKind.i64 ck), AV.s (SV.int IntKind.i64 nx), AV.s (SV.ro (Con.typ cP ps)), AV.s (SV.ro (Con.typ cI is)), AV.s (SV.ro (Con.typ cC cs)), AV.s (SV.ro (Con.typ cW ws))] (27 : Nat), AObj.own [AV.s (SV.int IntKind.i64 (iI (el is i))), AV.s (SV.int IntKind.i64 (iU (el is i))), AV.s (SV.int IntKind.u8 (iS (el is i))), AV.s (SV.str (iP (el is i))), AV.s (SV.int IntKind.i64 (iN (el is i))), AV.s (SV.int IntKind.i64 (iF (el is i))), AV.s (SV.int IntKind.u8 (iW (el is i))), AV.s (SV.str (iC (el is i)))] (31 : Nat), AObj.own [AV.s (SV.str (pN (getP ps (iP (el is i))))), AV.s (SV.ro (Con.typ cV (pV (getP ps (iP (el is i)))))), AV.s (SV.ro (Con.typ cN (pO (getP ps (iP (el is i)))))), AV.s (SV.ro (Con.typ cF (pF (getP ps (iP (el is i))))))] (40 : Nat)] (AV.s (SV.blit false))))))))
  (Tree.ret [AObj.own [AV.s (SV.int IntKind.i64 ck), AV.s (SV.int IntKind.i64 nx), AV.s (SV.ro (Con.typ cP ps)), AV.s (SV.ro (Con.typ cI is)), AV.s (SV.ro (Con.typ cC cs)), AV.s (SV.ro (Con.typ cW ws))] (27 : Nat)] (AV.s (SV.bool (decide ((↑(List.length is) : Int) ≤ (160 : Int)))))) := by kernel_rfl
end Ds

namespace Ds
open Go Go.Sx Go.Proofs Lf
noncomputable def cSi (b : AV) (ck nx : Int) (ps : Ps) (is : Is) (cs : Cs) (ws : Ws) (l : Is) (x : CL cI) (last i k : Int) : Cfg := ⟨sl 110 [(0, .s (.ro (.typ cI l))), (1, .fn 32 [.ptr 0 0]), (7, avI (l.length : Int)), (8, avI k), (29, .ptr 1 0), (31, avI last), (42, .s (.ro (.typ cI is))), (43, avI (is.length : Int)), (44, avI i), (65, b)], [obIt x, obSt ck nx ps is cs ws], hd Tryd.f60 2, ⟨some fIx, false, 0, [inCall Tryd.f31 (some fCf) 1 2 false 0, inCall Tryd.f12 none 10 9 false 0], 0⟩⟩
theorem loopSi (ck nx : Int) (ps : Ps) (is : Is) (cs : Cs) (ws : Ws) (l : Is) (x : CL cI) (last i k : Int) : run P tabSd.sum Tryd.f12 nsSd (cSi (.s (.blit true)) ck nx ps is cs ws l x last i k) inSd =
  Tree.ite (decide (k < (↑(List.length l) : Int))) (Tree.need ((0 : Int) ≤ k) (Tree.need (k < (↑(List.length l) : Int)) (Tree.ite (iI (el l k) == iU x) (Tree.ite (!decide (k ≥ (0 : Int))) (Tree.ret [AObj.own [AV.s (SV.int IntKind.i64 (iI x)), AV.s (SV.int IntKind.i64 (iU x)), AV.s (SV.int IntKind.u8 (iS x)), AV.s (SV.str (iP x)), AV.s (SV.int IntKind.i64 (iN x)), AV.s (SV.int IntKind.i64 (iF x)), AV.s (SV.int IntKind.u8 (iW x)), AV.s (SV.str (iC x))] (31 : Nat), AObj.own [AV.s (SV.int IntKind.i64 ck), AV.s (SV.int IntKind.i64 nx), AV.s (SV.ro (Con.typ cP ps)), AV.s (SV.ro (Con.typ cI is)), AV.s (SV.ro (Con.typ cC cs)), AV.s (SV.ro (Con.typ cW ws))] (27 : Nat), AObj.own [AV.s (SV.int IntKind.i64 (iI (el l k))), AV.s (SV.int IntKind.i64 (iU (el l k))), AV.s (SV.int IntKind.u8 (iS (el l k))), AV.s (SV.str (iP (el l k))), AV.s (SV.int IntKind.i64 (iN (el l k))), AV.s (SV.int IntKind.i64 (iF (el l k))), AV.s (SV.int IntKind.u8 (iW (el l k))), AV.s (SV.str (iC (el l k)))] (31 : Nat)] (AV.s (SV.blit false))) (Tree.need (inI64 (i + (1 : Int))) (Tree.at (Cfg.mk (sl (82 : Nat) [((1 : Nat), AV.ptr (0 : Nat) (0 : Nat)), ((3 : Nat), AV.s (SV.int IntKind.i64 last)), ((14 : Nat), AV.s (SV.ro (Con.typ cI is))), ((15 : Nat), AV.s (SV.int IntKind.i64 (↑(List.length is) : Int))), ((16 : Nat), AV.s (SV.int IntKind.i64 (i + (1 : Int))))]) [AObj.own [AV.s (SV.int IntKind.i64 ck), AV.s (SV.int IntKind.i64 nx), AV.s (SV.ro (Con.typ cP ps)), AV.s (SV.ro (Con.typ cI is)), AV.s (SV.ro (Con.typ cC cs)), AV.s (SV.ro (Con.typ cW ws))] (27 : Nat)] (hd Tryd.f12 (5 : Nat)) (Stk.mk none false (0 : Nat) [] (0 : Nat)))))) (Tree.need (inI64 (k + (1 : Int))) (Tree.at (Cfg.mk (sl (110 : Nat) [((0 : Nat), AV.s (SV.ro (Con.typ cI l))), ((1 : Nat), AV.fn (32 : Nat) [AV.ptr (0 : Nat) (0 : Nat)]), ((7 : Nat), AV.s (SV.int IntKind.i64 (↑(List.length l) : Int))), ((8 : Nat), AV.s (SV.int IntKind.i64 (k + (1 : Int)))), ((29 : Nat), AV.ptr (1 : Nat) (0 : Nat)), ((31 : Nat), AV.s (SV.int IntKind.i64 last)), ((42 : Nat), AV.s (SV.ro (Con.typ cI is))), ((43 : Nat), AV.s (SV.int IntKind.i64 (↑(List.length is) : Int))), ((44 : Nat), AV.s (SV.int IntKind.i64 i)), ((65 : Nat), AV.s (SV.bool true))]) [AObj.own [AV.s (SV.int IntKind.i64 (iI x)), AV.s (SV.int IntKind.i64 (iU x)), AV.s (SV.int IntKind.u8 (iS x)), AV.s (SV.str (iP x)), AV.s (SV.int IntKind.i64 (iN x)), AV.s (SV.int IntKind.i64 (iF x)), AV.s (SV.int IntKind.u8 (iW x)), AV.s (SV.str (iC x))] (31 : Nat), AObj.own [AV.s (SV.int IntKind.i64 ck), AV.s (SV.int IntKind.i64 nx), AV.s (SV.ro (Con.typ cP ps)), AV.s (SV.ro (Con.typ cI is)), AV.s (SV.ro (Con.typ cC cs)), AV.s (SV.ro (Con.typ cW ws))] (27 : Nat)] (hd Tryd.f60 (2 : Nat)) (Stk.mk (some (60 : Nat)) false (0 : Nat) [inCall Tryd.f31 (some (31 : Nat)) (1 : Nat) (2 : Nat) false (0 : Nat), inCall Tryd.f12 none (10 : Nat) (9 : Nat) false (0 : Nat)] (0 : Nat)))))))) (Tree.ret [AObj.own [AV.s (SV.int IntKind.i64 (iI x)), AV.s (SV.int IntKind.i64 (iU x)), AV.s (SV.int IntKind.u8 (iS x)), AV.s (SV.str (iP x)), AV.s (SV.int IntKind.i64 (iN x)), AV.s (SV.int IntKind.i64 (iF x)), AV.s (SV.int IntKind.u8 (iW x)), AV.s (SV.str (iC x))] (31 : Nat), AObj.own [AV.s (SV.int IntKind.i64 ck), AV.s (SV.int IntKind.i64 nx), AV.s (SV.ro (Con.typ cP ps)), AV.s (SV.ro (Con.typ cI is)), AV.s (SV.ro (Con.typ cC cs)), AV.s (SV.ro (Con.typ cW ws))] (27 : Nat)] (AV.s (SV.blit false))) := by kernel_rfl
end Ds

namespace Ds
open Go Go.Sx Go.Proofs Lf
def idsG (nx : Int) : Is → Is → Int → Bool
  | _, [], _ => true
  | pre, x :: r, last => !decide (iI x ≤ last) && !decide (iI x > nx) && ((iU x == 0) || hasI pre (iU x)) && idsG nx (pre ++ [x]) r (iI x)
def okI (ps : Ps) (is : Is) (x : CL cI) : Bool := hasP ps (iP x) && (if iS x = 1 then scopeF ps is x else if iS x = 2 then tokenF ps is x else false)
def soundB (ps : Ps) (is : Is) : Bool := is.all (okI ps is) && decide ((is.length : Int) ≤ 160)
def soundF (nx : Int) (ps : Ps) (is : Is) : Bool := !decide (nx < 0) && idsG nx [] is 0 && soundB ps is
theorem has_iff' {is : Is} {a : Int} : hasI is a = true ↔ ∃ y ∈ is, iI y = a := by
  rcases place_range is a with ⟨e, h⟩ | ⟨h1, h2, h3, h4⟩
  · refine ⟨fun hh => ?_, fun ⟨y, hy, e2⟩ => absurd e2 (h y hy)⟩
    have := of_decide_eq_true hh; omega
  · exact ⟨fun _ => ⟨_, List.getElem_mem h3, h4⟩, fun _ => decide_eq_true h1⟩
theorem has_no {is : Is} {a : Int} : hasI is a = false ↔ ∀ y ∈ is, iI y ≠ a := by
  rw [← Bool.not_eq_true, has_iff']
  exact ⟨fun h y hy e => h ⟨y, hy, e⟩, fun h ⟨y, hy, e⟩ => h y hy e⟩
theorem ok_scp {ps : Ps} {is : Is} {x : CL cI} (h1 : hasP ps (iP x) = true) (h2 : iS x = 1) (h3 : scopeF ps is x = true) : okI ps is x = true := by
  unfold okI; rw [if_pos h2, h1, h3]; rfl
theorem ok_scpN {ps : Ps} {is : Is} {x : CL cI} (h2 : iS x = 1) (h3 : scopeF ps is x = false) : okI ps is x = false := by
  unfold okI; rw [if_pos h2, h3, Bool.and_false]
theorem ok_tok {ps : Ps} {is : Is} {x : CL cI} (h1 : hasP ps (iP x) = true) (h2 : iS x = 2) (h3 : tokenF ps is x = true) : okI ps is x = true := by
  unfold okI; rw [if_neg (by omega), if_pos h2, h1, h3]; rfl
theorem ok_tokN {ps : Ps} {is : Is} {x : CL cI} (h2 : iS x = 2) (h3 : tokenF ps is x = false) : okI ps is x = false := by
  unfold okI; rw [if_neg (by omega), if_pos h2, h3, Bool.and_false]
theorem ok_noP {ps : Ps} {is : Is} {x : CL cI} (h1 : hasP ps (iP x) = false) : okI ps is x = false := by
  unfold okI; rw [h1, Bool.false_and]
theorem ok_noI {ps : Ps} {is : Is} {x : CL cI} (h1 : iS x ≠ 1) (h2 : iS x ≠ 2) : okI ps is x = false := by
  unfold okI; rw [if_neg h1, if_neg h2, Bool.and_false]
theorem tabSd_ok {Z : Glob} (KV : MapVar P Z gKi tKi kindsF) : tabSd.Ok P Z := Tab.Ok.cons def_ok.sumR (Tab.Ok.cons scope_ok.sum (Tab.Ok.cons (token_ok KV).sum Tab.Ok.nil))
theorem sound_ok {Z : Glob} (KV : MapVar P Z gKi tKi kindsF) : FnOk P Z 12 [tSt] [tBool] (fun ((_, _, _, is, _, _, ()), ()) => [(is : Is).length ≤ 1000000]) (fun ((_, nx, ps, is, _, _, ()), ()) => (soundF nx ps is, ())) := by
  refine fnOk_of_safe Tryd.func12 (by kernel_rfl) (by kernel_rfl) ?_
  rintro ⟨⟨(ck : Int), (nx : Int), (ps : Ps), (is : Is), (cs : Cs), (ws : Ws), ⟨⟩⟩, ⟨⟩⟩ _ ⟨(hl : is.length ≤ 1000000), _⟩ X hX hz
  show Safe P 12 X (Ends [tBool] (soundF nx ps is, ())) _
  have loop2 : ∀ (j k : Nat), k + j = is.length → soundF nx ps is = ((is.drop k).all (okI ps is) && decide ((is.length : Int) ≤ 160)) → Safe P 12 X (Ends [tBool] (soundF nx ps is, ())) (cSe ck nx ps is cs ws (k : Int)) := by
    intro j
    induction j with
    | zero =>
      intro k hk he
      rw [List.drop_eq_nil_of_le (by omega), List.all_nil, Bool.true_and] at he
      refine go hz hX (tabSd_ok KV) Tryd.func12 (loopSe ck nx ps is cs ws k) ⟨fun h => absurd (of_decide_eq_true h) (by omega), fun _ => ?_⟩
      exact ends_is he
    | succ j ih =>
      intro k hk he
      have hlt : k < is.length := by omega
      rw [List.drop_eq_getElem_cons hlt, List.all_cons] at he
      refine go hz hX (tabSd_ok KV) Tryd.func12 (loopSe ck nx ps is cs ws k) ?_
      rw [el_lt hlt]
      generalize is[k] = x at he
      have next : okI ps is x = true → Safe P 12 X (Ends [tBool] (soundF nx ps is, ())) (cSe ck nx ps is cs ws ((k : Int) + 1)) := fun h => by
        rw [h, Bool.true_and] at he
        exact ih (k + 1) (by omega) he
      have stop : okI ps is x = false → soundF nx ps is = false := fun h => by rw [he, h]; rfl
      clear ih he
      repeat' (with_reducible (first | refine h_eq ?_ | refine h_need ?_ ?_ | refine h_dec (fun _ => ?_) (fun _ => ?_) | refine h_beq (fun _ => ?_) (fun _ => ?_) | refine h_bne (fun _ => ?_) (fun _ => ?_) | refine h_tt ?_ | refine h_ff ?_ | refine h_not ?_ | refine h_ite (fun _ => ?_) (fun _ => ?_) | refine h_both (fun _ => ?_) (fun _ => ?_) | refine h_ret ?_ | refine h_at ?_))
      all_goals first
        | omega
        | exact ⟨by omega, by omega⟩
        | exact next (ok_scp (by assumption) (by assumption) (by assumption))
        | exact next (ok_tok (by assumption) (by assumption) (by assumption))
        | exact ends_il (stop (ok_scpN (by assumption) (by assumption)))
        | exact ends_il (stop (ok_tokN (by assumption) (by assumption)))
        | exact ends_il (stop (ok_noP (by assumption)))
        | exact ends_il (stop (ok_noI (by assumption) (by assumption)))
        | skip
  have loop1 : ∀ (j k : Nat) (last : Int), k + j = is.length → soundF nx ps is = (idsG nx (is.take k) (is.drop k) last && soundB ps is) → Safe P 12 X (Ends [tBool] (soundF nx ps is, ())) (cSd ck nx ps is cs ws last (k : Int)) := by
    intro j
    induction j with
    | zero =>
      intro k last hk he
      rw [List.drop_eq_nil_of_le (by omega)] at he
      refine go hz hX (tabSd_ok KV) Tryd.func12 (loopSd ck nx ps is cs ws last k) ⟨fun h => absurd (of_decide_eq_true h) (by omega), fun _ => ?_⟩
      exact loop2 is.length 0 (by omega) (by rw [he]; rfl)
    | succ j ih =>
      intro k last hk he
      have hlt : k < is.length := by omega
      rw [List.drop_eq_getElem_cons hlt] at he
      have e0 : idsG nx (is.take k) (is[k] :: is.drop (k + 1)) last = (!decide (iI is[k] ≤ last) && !decide (iI is[k] > nx) && ((iU is[k] == 0) || hasI (is.take k) (iU is[k])) && idsG nx (is.take (k + 1)) (is.drop (k + 1)) (iI is[k])) := by
        rw [List.take_add_one, List.getElem?_eq_getElem hlt]; rfl
      rw [e0] at he
      have inner : ∀ (x : CL cI) (l : Is), x = is[k] → l = is.take k → (!decide (iI x ≤ last)) = true → (!decide (iI x > nx)) = true → (iU x == 0) = false → ∀ (m i : Nat) (b : AV), i + m = l.length → b = .s (.bool true) →
          (∀ q (h1 : q < i) (h2 : q < l.length), iI l[q] ≠ iU x) → Safe P 12 X (Ends [tBool] (soundF nx ps is, ())) (cSi b ck nx ps is cs ws l x (iI x) (k : Int) (i : Int)) := by
        intro x l hx hel h1 h2 h3 m
        have hll : l.length ≤ 1000000 := by rw [hel, List.length_take]; omega
        have he' : soundF nx ps is = ((hasI l (iU x) && idsG nx (is.take (k + 1)) (is.drop (k + 1)) (iI x)) && soundB ps is) := by
          rw [he, hx, hel]
          rw [hx] at h1 h2 h3
          rw [h1, h2, h3]; rfl
        induction m with
        | zero =>
          intro i b hm hb hi
          subst hb
          refine slot_blit_safe (t := 65) (b := true) rfl ?_
          refine go hz hX (tabSd_ok KV) Tryd.func12 (loopSi ck nx ps is cs ws l x (iI x) k i) ⟨fun h => absurd (of_decide_eq_true h) (by omega), fun _ => ?_⟩
          refine ends_il ?_
          rw [he', has_no.2 fun y hy => ?_]
          · rfl
          · obtain ⟨q, hq, rfl⟩ := List.mem_iff_getElem.1 hy
            exact hi q (by omega) hq
        | succ m im =>
          intro i b hm hb hi
          subst hb
          have hil : i < l.length := by omega
          refine slot_blit_safe (t := 65) (b := true) rfl ?_
          refine go hz hX (tabSd_ok KV) Tryd.func12 (loopSi ck nx ps is cs ws l x (iI x) k i) (yes_and (decide_eq_true (by omega)) ⟨by omega, by omega, ?_⟩)
          rw [el_lt hil]
          cases hq : (iI l[i] == iU x) with
          | true =>
            rw [has_iff'.2 ⟨_, List.getElem_mem hil, beq_iff_eq.1 hq⟩, Bool.true_and] at he'
            refine yes_and rfl (no_and (by rw [decide_eq_true (by omega)]; rfl) ⟨⟨by omega, by omega⟩, ?_⟩)
            exact ih (k + 1) (iI x) (by omega) he'
          | false =>
            refine no_and rfl ⟨⟨by omega, by omega⟩, ?_⟩
            refine im (i + 1) _ (by omega) rfl fun q h1 h2 => ?_
            by_cases e : q = i
            · subst e; exact fun hh => by rw [hh, beq_self_eq_true] at hq; cases hq
            · exact hi q (by omega) h2
      refine go hz hX (tabSd_ok KV) Tryd.func12 (loopSd ck nx ps is cs ws last k) ?_
      rw [el_lt hlt]
      have inn := inner _ _ rfl rfl
      have next := ih (k + 1) (iI is[k]) (by omega)
      clear ih inner e0
      generalize is[k] = x at *
      repeat' (with_reducible (first | refine h_eq ?_ | refine h_need ?_ ?_ | refine h_dec (fun _ => ?_) (fun _ => ?_) | refine h_beq (fun _ => ?_) (fun _ => ?_) | refine h_bne (fun _ => ?_) (fun _ => ?_) | refine h_tt ?_ | refine h_ff ?_ | refine h_not ?_ | refine h_ite (fun _ => ?_) (fun _ => ?_) | refine h_both (fun _ => ?_) (fun _ => ?_) | refine h_ret ?_ | refine h_at ?_))
      all_goals first
        | omega
        | exact ⟨by omega, by omega⟩
        | exact ends_il (by rw [he]; simp_all)
        | exact next (by rw [he, decide_eq_false (show ¬ iI x ≤ last by omega), decide_eq_false (show ¬ iI x > nx by omega), (by assumption : iU x = 0)]; rfl)
        | exact inn (by rw [decide_eq_false (show ¬ iI x ≤ last by omega)]; rfl) (by rw [decide_eq_false (show ¬ iI x > nx by omega)]; rfl) (beq_eq_false_iff_ne.2 (by assumption)) _ 0 _ (Nat.zero_add _) rfl (fun q h => absurd h (Nat.not_lt_zero _))
        | skip
  refine go hz hX (tabSd_ok KV) Tryd.func12 (trSd ck nx ps is cs ws) ⟨fun h => ?_, fun h => ?_⟩
  · refine ends_il ?_
    unfold soundF; rw [h]; rfl
  · refine loop1 is.length 0 0 (by omega) ?_
    unfold soundF; rw [h]; rfl
end Ds

namespace Ds
open Go Go.Sx Go.Proofs Lf
theorem kinds_rows : ∀ x ∈ ([(2, [3]), (3, [11, 12, 14]), (4, [6, 10]), (5, [8, 9]), (6, [7, 9, 2])] : List (Int × List Int)), kindsF x.1 = x.2 := by decide
theorem kinds_no (n : Int) (h : ∀ x ∈ ([(2, [3]), (3, [11, 12, 14]), (4, [6, 10]), (5, [8, 9]), (6, [7, 9, 2])] : List (Int × List Int)), x.1 ≠ n) : kindsF n = [] := by
  simp only [List.mem_cons, List.not_mem_nil, or_false, forall_eq_or_imp, forall_eq] at h
  unfold kindsF
  rw [if_neg (by omega), if_neg (by omega), if_neg (by omega), if_neg (by omega), if_neg (by omega)]
/-- IDs rise, and each Up stands ahead. -/
structure Trees (nx : Int) (is : Is) : Prop where
  pos : ∀ x ∈ is, 0 < iI x ∧ iI x ≤ nx
  ris : is.Pairwise (fun x y => iI x < iI y)
  up : ∀ x ∈ is, iU x = 0 ∨ ∃ y ∈ is, iI y = iU x ∧ iI y < iI x
theorem idsG_iff {nx : Int} : ∀ (r pre : Is) (last : Int), (∀ y ∈ pre, iI y ≤ last) →
    (idsG nx pre r last = true ↔ (∀ x ∈ r, last < iI x ∧ iI x ≤ nx) ∧ r.Pairwise (fun x y => iI x < iI y) ∧ ∀ x ∈ r, iU x = 0 ∨ ∃ y ∈ pre ++ r, iI y = iU x ∧ iI y < iI x)
  | [], pre, last, _ => by simp [idsG]
  | x :: r, pre, last, hp => by
    have hpre : iI x > last → ∀ y ∈ pre ++ [x], iI y ≤ iI x := fun hx y hy => by
      rcases List.mem_append.1 hy with h | h
      · have := hp y h; omega
      · rw [List.mem_singleton.1 h]; exact Int.le_refl _
    unfold idsG
    simp only [Bool.and_eq_true, Bool.not_eq_true', decide_eq_false_iff_not, Bool.or_eq_true, beq_iff_eq]
    constructor
    · rintro ⟨⟨⟨h1, h2⟩, h3⟩, h4⟩
      obtain ⟨g1, g2, g3⟩ := (idsG_iff r (pre ++ [x]) (iI x) (hpre (by omega))).1 h4
      refine ⟨fun y hy => ?_, List.pairwise_cons.2 ⟨fun y hy => (g1 y hy).1, g2⟩, fun y hy => ?_⟩
      · rcases List.mem_cons.1 hy with rfl | hy
        · omega
        · have := g1 y hy; omega
      · rcases List.mem_cons.1 hy with rfl | hy
        · rcases h3 with h3 | h3
          · exact .inl h3
          · obtain ⟨z, hz, e⟩ := has_iff'.1 h3
            have := hp z hz
            exact .inr ⟨z, List.mem_append.2 (.inl hz), e, by omega⟩
        · rcases g3 y hy with h | ⟨z, hz, e⟩
          · exact .inl h
          · rw [List.append_assoc] at hz
            exact .inr ⟨z, hz, e⟩
    · rintro ⟨g1, g2, g3⟩
      obtain ⟨g4, g5⟩ := List.pairwise_cons.1 g2
      have hx := g1 x (List.mem_cons_self ..)
      refine ⟨⟨⟨by omega, by omega⟩, ?_⟩, (idsG_iff r (pre ++ [x]) (iI x) (hpre (by omega))).2 ⟨fun y hy => ⟨g4 y hy, (g1 y (List.mem_cons_of_mem _ hy)).2⟩, g5, fun y hy => ?_⟩⟩
      · rcases g3 x (List.mem_cons_self ..) with h | ⟨z, hz, e, hlt⟩
        · exact .inl h
        · refine .inr (has_iff'.2 ⟨z, ?_, e⟩)
          rcases List.mem_append.1 hz with h | h
          · exact h
          · rcases List.mem_cons.1 h with rfl | h
            · omega
            · have := g4 z h; omega
      · rcases g3 y (List.mem_cons_of_mem _ hy) with h | ⟨z, hz, e⟩
        · exact .inl h
        · exact .inr ⟨z, by rw [List.append_assoc]; exact hz, e⟩
theorem trees_iff {nx : Int} {is : Is} : idsG nx [] is 0 = true ↔ Trees nx is := by
  rw [idsG_iff is [] 0 (fun y hy => by cases hy)]
  exact ⟨fun ⟨a, b, c⟩ => ⟨a, b, c⟩, fun h => ⟨h.pos, h.ris, h.up⟩⟩
structure Snd (nx : Int) (ps : Ps) (is : Is) : Prop where
  nx0 : 0 ≤ nx
  tr : Trees nx is
  ok : ∀ x ∈ is, okI ps is x = true
  len : is.length ≤ 160
theorem sound_iff {nx : Int} {ps : Ps} {is : Is} : soundF nx ps is = true ↔ Snd nx ps is := by
  unfold soundF soundB
  simp only [Bool.and_eq_true, Bool.not_eq_true', decide_eq_false_iff_not, List.all_eq_true, decide_eq_true_iff, trees_iff]
  exact ⟨fun ⟨⟨a, b⟩, c, d⟩ => ⟨by omega, b, c, by omega⟩, fun h => ⟨⟨by have := h.nx0; omega, h.tr⟩, h.ok, by have := h.len; omega⟩⟩
variable {nx : Int} {ps : Ps} {is is' : Is}
theorem Trees.inj (T : Trees nx is) {x y : CL cI} (hx : x ∈ is) (hy : y ∈ is) (e : iI x = iI y) : x = y := by
  obtain ⟨i, hi, rfl⟩ := List.mem_iff_getElem.1 hx
  obtain ⟨j, hj, rfl⟩ := List.mem_iff_getElem.1 hy
  have hp := List.pairwise_iff_getElem.1 T.ris
  rcases Nat.lt_trichotomy i j with h | h | h
  · have := hp i j hi hj h; omega
  · subst h; rfl
  · have := hp j i hj hi h; omega
theorem get_mem {id : Int} (h : hasI is id = true) : getI is id ∈ is ∧ iI (getI is id) = id := by
  obtain ⟨h1, h2⟩ := get_at' h
  exact ⟨List.mem_of_getElem? h1, h2⟩
theorem Trees.get (T : Trees nx is) {x : CL cI} (hx : x ∈ is) : hasI is (iI x) = true ∧ getI is (iI x) = x := by
  have h := has_iff'.2 ⟨x, hx, rfl⟩
  exact ⟨h, T.inj (get_mem h).1 hx (get_mem h).2⟩
theorem Trees.no0 (T : Trees nx is) {id : Int} (h : id ≤ 0) : hasI is id = false := has_no.2 fun y hy e => by have := (T.pos y hy).1; omega
theorem Trees.hi (T : Trees nx is) {id : Int} (h : nx < id) : hasI is id = false := has_no.2 fun y hy e => by have := (T.pos y hy).2; omega
theorem Trees.up_lt (T : Trees nx is) {id : Int} (h : hasI is id = true) : gU is id < id ∧ (gU is id = 0 ∨ hasI is (gU is id) = true) := by
  obtain ⟨h1, h2⟩ := get_mem h
  have h0 := (T.pos _ h1).1
  rcases T.up _ h1 with e | ⟨y, hy, e, hlt⟩
  · have e : gU is id = 0 := e
    exact ⟨by omega, .inl e⟩
  · have e : iI y = gU is id := e
    exact ⟨by omega, .inr (has_iff'.2 ⟨y, hy, e⟩)⟩
/-- how many stand up to one -/
def upTo (is : Is) (id : Int) : Nat := (is.filter fun x => decide (iI x ≤ id)).length
theorem upTo_le (is : Is) (id : Int) : upTo is id ≤ is.length := List.length_filter_le _ _
theorem filter_lt {α : Type} {p q : α → Bool} : ∀ {l : List α}, (∀ x ∈ l, p x = true → q x = true) → (∃ x ∈ l, p x = false ∧ q x = true) → (l.filter p).length < (l.filter q).length
  | [], _, ⟨x, hx, _⟩ => by cases hx
  | a :: l, hi, hx => by
    have h1 : ∀ x ∈ l, p x = true → q x = true := fun x hx => hi x (List.mem_cons_of_mem _ hx)
    have hle : (l.filter p).length ≤ (l.filter q).length := by
      rw [← List.countP_eq_length_filter, ← List.countP_eq_length_filter]
      exact List.countP_mono_left h1
    obtain ⟨x, hx, h2, h3⟩ := hx
    rcases List.mem_cons.1 hx with rfl | hx
    · rw [List.filter_cons, List.filter_cons, h2, h3]
      simp only [if_true, Bool.false_eq_true, if_false, List.length_cons]; omega
    · have ih := filter_lt h1 ⟨x, hx, h2, h3⟩
      have ha := hi a (List.mem_cons_self ..)
      rw [List.filter_cons, List.filter_cons]
      cases hp : p a with
      | true => rw [ha hp]; simp only [if_true, List.length_cons]; omega
      | false =>
        cases q a <;> simp only [Bool.false_eq_true, if_false, if_true, List.length_cons] <;> omega
theorem upTo_lt {a b : Int} (h : hasI is b = true) (hab : a < b) : upTo is a < upTo is b := by
  obtain ⟨y, hy, e⟩ := has_iff'.1 h
  exact filter_lt (fun x _ hx => by simp at hx ⊢; omega) ⟨y, hy, by simp; omega, by simp; omega⟩
theorem Trees.go (T : Trees nx is) : ∀ (n m : Nat) (id : Int) (s1 s2 : List Int), upTo is id < n → upTo is id < m → (∀ s ∈ s1, id < s) → (∀ s ∈ s2, id < s) → depthGo is n id s1 = depthGo is m id s2
  | 0, _, _, _, _, h, _, _, _ => by omega
  | _, 0, _, _, _, _, h, _, _ => by omega
  | n + 1, m + 1, id, s1, s2, hn, hm, h1, h2 => by
    rw [depthGo_succ is n id s1, depthGo_succ is m id s2]
    by_cases h : hasI is id = true
    · have g1 : id ∉ s1 := fun hh => by have := h1 id hh; omega
      have g2 : id ∉ s2 := fun hh => by have := h2 id hh; omega
      rw [if_pos (show hasI is id = true ∧ id ∉ s1 from ⟨h, g1⟩), if_pos (show hasI is id = true ∧ id ∉ s2 from ⟨h, g2⟩)]
      obtain ⟨hlt, _⟩ := T.up_lt h
      have hc := upTo_lt h hlt
      have hs : ∀ l : List Int, (∀ s ∈ l, id < s) → ∀ s ∈ l ++ [id], gU is id < s := fun l hl s hs => by
        rcases List.mem_append.1 hs with h | h
        · have := hl s h; omega
        · rw [List.mem_singleton.1 h]; exact hlt
      rw [T.go n m (gU is id) (s1 ++ [id]) (s2 ++ [id]) (by omega) (by omega) (hs _ h1) (hs _ h2)]
    · rw [if_neg (show ¬ (hasI is id = true ∧ id ∉ s1) from fun hh => h hh.1), if_neg (show ¬ (hasI is id = true ∧ id ∉ s2) from fun hh => h hh.1)]
theorem Trees.depth (T : Trees nx is) {id : Int} (h : hasI is id = true) : depthF is id = (if gS is id = 1 then 1 else 0) + depthF is (gU is id) := by
  obtain ⟨hlt, _⟩ := T.up_lt h
  have hc := upTo_lt h hlt
  have hle := upTo_le is id
  unfold depthF
  rw [depthGo_succ, if_pos ⟨h, by simp⟩, T.go is.length (is.length + 1) (gU is id) ([] ++ [id]) [] (by omega) (by omega) (fun s hs => by simp at hs; omega) (fun s hs => by cases hs)]
  split <;> simp
theorem depth_no {id : Int} (h : hasI is id = false) : depthF is id = 0 := by
  unfold depthF
  rw [depthGo_succ, if_neg (fun hh => by rw [h] at hh; cases hh.1)]; rfl
/-- Two forests that agree at what is closed upwards are as deep there. -/
theorem Trees.same (T : Trees nx is) {nx' : Int} (T' : Trees nx' is') {K : Int → Prop} (hK : ∀ id, K id → hasI is id = hasI is' id ∧ (hasI is id = true → getI is id = getI is' id ∧ K (gU is id))) :
    ∀ (n : Nat) (id : Int), id.toNat ≤ n → K id → depthF is id = depthF is' id
  | n, id, hn, hk => by
    obtain ⟨h1, h2⟩ := hK id hk
    by_cases h : hasI is id = true
    · obtain ⟨h3, h4⟩ := h2 h
      obtain ⟨hlt, _⟩ := T.up_lt h
      have h5 : hasI is' id = true := by rw [← h1]; exact h
      have hp : 0 < id := by have := (T.pos _ (get_mem h).1).1; rw [(get_mem h).2] at this; exact this
      have e1 : gS is id = gS is' id := congrArg iS h3
      have e2 : gU is id = gU is' id := congrArg iU h3
      match n, hn with
      | 0, hn => omega
      | n + 1, hn =>
        rw [T.depth h, T'.depth h5, ← e1, ← e2, T.same T' hK n (gU is id) (by omega) h4]
    · have h : hasI is id = false := by simpa using h
      rw [depth_no h, depth_no (by rw [← h1]; exact h)]
end Ds

namespace Ds
open Go Go.Sx Go.Proofs Lf
abbrev sumSd := sumOf [tSt] [tBool] (fun ((_, _, _, is, _, _, ()), ()) => [(is : Is).length ≤ 1000000]) (fun ((_, nx, ps, is, _, _, ()), ()) => (soundF nx ps is, ()))
end Ds

namespace Ds
open Go Go.Sx Go.Proofs Lf
variable {nx : Int} {ps : Ps} {is is' : Is}
variable {x : CL cI}
theorem Trees.add (T : Trees nx is) (h0 : 0 ≤ nx) (hi : iI x = nx + 1) (hu : iU x = 0 ∨ hasI is (iU x) = true) : Trees (nx + 1) (is ++ [x]) := by
  refine ⟨fun y hy => ?_, ?_, fun y hy => ?_⟩
  · rcases List.mem_append.1 hy with h | h
    · have := T.pos y h; omega
    · rw [List.mem_singleton.1 h]; omega
  · refine List.pairwise_append.2 ⟨T.ris, List.pairwise_singleton .., fun a ha b hb => ?_⟩
    rw [List.mem_singleton.1 hb]
    have := T.pos a ha; omega
  · rcases List.mem_append.1 hy with h | h
    · rcases T.up y h with e | ⟨z, hz, e⟩
      · exact .inl e
      · exact .inr ⟨z, List.mem_append.2 (.inl hz), e⟩
    · rw [List.mem_singleton.1 h]
      rcases hu with e | e
      · exact .inl e
      · obtain ⟨z, hz, e2⟩ := has_iff'.1 e
        have := T.pos z hz
        exact .inr ⟨z, List.mem_append.2 (.inl hz), e2, by omega⟩
end Ds

namespace Ds
open Go Go.Sx Go.Proofs Lf
end Ds

namespace Ds
open Go Go.Sx Go.Proofs Lf
variable {nx : Int} {ps : Ps} {is is' : Is} {x : CL cI}
variable {Z : Glob}
end Ds

namespace Ds
open Go Go.Sx Go.Proofs Lf
def nsAt : List (Nat × Norm) := [(5, ⟨[], [1, 2, 5, 6], 0, []⟩), (14, ⟨[], [2, 5, 7, 8, 9], 0, []⟩), (20, ⟨[], [2, 10], 0, []⟩), (32, ⟨[], [2, 10, 11, 13, 14], 0, []⟩)]
abbrev sumKiR := sumR [tSt, tInt] [tNs] (fun ((_, _, _, is, _, _, ()), _, ()) => [(is : Is).length ≤ 1000000]) (fun ((_, _, _, is, _, _, ()), id, ()) => (kidsF (esOf is) id, ()))
abbrev sumBlo := sumR [tSt, tInt] [tNs] (fun ((_, _, _, is, _, _, ()), _, ()) => [(is : Is).length ≤ 1000000]) (fun ((_, _, _, is, _, _, ()), id, ()) => (belowF (esOf is) id, ()))
def tabAt : Tab := [(10, sumL18), (11, sumTt), (12, sumSd), (16, sumBlo), (17, sumKiR), (15, sumDp)]
theorem trAt (ck nx : Int) (ps : Ps) (is : Is) (cs : Cs) (ws : Ws) (id : Int) : run P tabAt.sum Tryd.f5 nsAt (start Tryd.f5 [avSt ck nx ps is cs ws, avI id] []) =
  Tree.ite (large22 ps is cs ws) (Tree.ret [AObj.own [AV.s (SV.int IntKind.i64 ck), AV.s (SV.int IntKind.i64 nx), AV.s (SV.ro (Con.typ cP ps)), AV.s (SV.ro (Con.typ cI is)), AV.s (SV.ro (Con.typ cC cs)), AV.s (SV.ro (Con.typ cW ws))] (27 : Nat)] (AV.s (SV.bool true))) (Tree.ite false (Tree.ret [AObj.own [AV.s (SV.int IntKind.i64 ck), AV.s (SV.int IntKind.i64 nx), AV.s (SV.ro (Con.typ cP ps)), AV.s (SV.ro (Con.typ cI is)), AV.s (SV.ro (Con.typ cC cs)), AV.s (SV.ro (Con.typ cW ws))] (27 : Nat)] (AV.s (SV.bool true))) (Tree.need (List.length is ≤ (1000000 : Nat)) (Tree.at (Cfg.mk (sl (130 : Nat) [((1 : Nat), AV.s (SV.int IntKind.i64 id)), ((2 : Nat), AV.ptr (0 : Nat) (0 : Nat)), ((5 : Nat), AV.vec (1 : Nat)), ((6 : Nat), AV.s (SV.int IntKind.i64 (0 : Int)))]) [AObj.own [AV.s (SV.int IntKind.i64 ck), AV.s (SV.int IntKind.i64 nx), AV.s (SV.ro (Con.typ cP ps)), AV.s (SV.ro (Con.typ cI is)), AV.s (SV.ro (Con.typ cC cs)), AV.s (SV.ro (Con.typ cW ws))] (27 : Nat), AObj.vec (Con.ints IntKind.i64 (belowF (esOf is) id)) (3 : Nat)] (hd Tryd.f5 (5 : Nat)) (Stk.mk none false (0 : Nat) [] (0 : Nat)))))) := by kernel_rfl
noncomputable def cAt1 (ck nx : Int) (ps : Ps) (is : Is) (cs : Cs) (ws : Ws) (id : Int) (l : List Int) (i : Int) : Cfg := ⟨sl 130 [(1, avI id), (2, .ptr 0 0), (5, avL l), (6, avI i)], [obSt ck nx ps is cs ws], hd Tryd.f5 5, {}⟩
theorem loopAt1 (ck nx : Int) (ps : Ps) (is : Is) (cs : Cs) (ws : Ws) (id : Int) (l : List Int) (i : Int) : run P tabAt.sum Tryd.f5 nsAt (cAt1 ck nx ps is cs ws id l i) =
  Tree.ite (decide (i < (↑l.length : Int))) (Tree.ite (decide (i > (0 : Int))) (Tree.need (inI64 (i - (1 : Int))) (Tree.need ((0 : Int) ≤ i - (1 : Int)) (Tree.need (i - (1 : Int) < (↑l.length : Int)) (Tree.need ((0 : Int) ≤ i) (Tree.need (i < (↑l.length : Int)) (Tree.ite (decide (l.getD (i - (1 : Int)).toNat (0 : Int) ≥ l.getD i.toNat (0 : Int))) (Tree.ret [AObj.own [AV.s (SV.int IntKind.i64 ck), AV.s (SV.int IntKind.i64 nx), AV.s (SV.ro (Con.typ cP ps)), AV.s (SV.ro (Con.typ cI is)), AV.s (SV.ro (Con.typ cC cs)), AV.s (SV.ro (Con.typ cW ws))] (27 : Nat)] (AV.s (SV.blit false))) (Tree.need ((0 : Int) ≤ i) (Tree.need (i < (↑l.length : Int)) (Tree.ite (l.getD i.toNat (0 : Int) == id) (Tree.ret [AObj.own [AV.s (SV.int IntKind.i64 ck), AV.s (SV.int IntKind.i64 nx), AV.s (SV.ro (Con.typ cP ps)), AV.s (SV.ro (Con.typ cI is)), AV.s (SV.ro (Con.typ cC cs)), AV.s (SV.ro (Con.typ cW ws))] (27 : Nat)] (AV.s (SV.blit false))) (Tree.need (inI64 (i + (1 : Int))) (Tree.at (Cfg.mk (sl (130 : Nat) [((1 : Nat), AV.s (SV.int IntKind.i64 id)), ((2 : Nat), AV.ptr (0 : Nat) (0 : Nat)), ((5 : Nat), AV.s (SV.ro (Con.ints IntKind.i64 l))), ((6 : Nat), AV.s (SV.int IntKind.i64 (i + (1 : Int))))]) [AObj.own [AV.s (SV.int IntKind.i64 ck), AV.s (SV.int IntKind.i64 nx), AV.s (SV.ro (Con.typ cP ps)), AV.s (SV.ro (Con.typ cI is)), AV.s (SV.ro (Con.typ cC cs)), AV.s (SV.ro (Con.typ cW ws))] (27 : Nat)] (hd Tryd.f5 (5 : Nat)) (Stk.mk none false (0 : Nat) [] (0 : Nat)))))))))))))) (Tree.need ((0 : Int) ≤ i) (Tree.need (i < (↑l.length : Int)) (Tree.ite (l.getD i.toNat (0 : Int) == id) (Tree.ret [AObj.own [AV.s (SV.int IntKind.i64 ck), AV.s (SV.int IntKind.i64 nx), AV.s (SV.ro (Con.typ cP ps)), AV.s (SV.ro (Con.typ cI is)), AV.s (SV.ro (Con.typ cC cs)), AV.s (SV.ro (Con.typ cW ws))] (27 : Nat)] (AV.s (SV.blit false))) (Tree.need (inI64 (i + (1 : Int))) (Tree.at (Cfg.mk (sl (130 : Nat) [((1 : Nat), AV.s (SV.int IntKind.i64 id)), ((2 : Nat), AV.ptr (0 : Nat) (0 : Nat)), ((5 : Nat), AV.s (SV.ro (Con.ints IntKind.i64 l))), ((6 : Nat), AV.s (SV.int IntKind.i64 (i + (1 : Int))))]) [AObj.own [AV.s (SV.int IntKind.i64 ck), AV.s (SV.int IntKind.i64 nx), AV.s (SV.ro (Con.typ cP ps)), AV.s (SV.ro (Con.typ cI is)), AV.s (SV.ro (Con.typ cC cs)), AV.s (SV.ro (Con.typ cW ws))] (27 : Nat)] (hd Tryd.f5 (5 : Nat)) (Stk.mk none false (0 : Nat) [] (0 : Nat))))))))) (Tree.need (List.length is ≤ (1000000 : Nat)) (Tree.ite (!soundF nx ps is) (Tree.ret [AObj.own [AV.s (SV.int IntKind.i64 ck), AV.s (SV.int IntKind.i64 nx), AV.s (SV.ro (Con.typ cP ps)), AV.s (SV.ro (Con.typ cI is)), AV.s (SV.ro (Con.typ cC cs)), AV.s (SV.ro (Con.typ cW ws))] (27 : Nat)] (AV.s (SV.blit true))) (Tree.need (List.length is ≤ (1000000 : Nat)) (Tree.at (Cfg.mk (sl (130 : Nat) [((2 : Nat), AV.ptr (0 : Nat) (0 : Nat)), ((5 : Nat), AV.s (SV.ro (Con.ints IntKind.i64 l))), ((7 : Nat), AV.s (SV.int IntKind.i64 (0 : Int))), ((8 : Nat), AV.vec (1 : Nat)), ((9 : Nat), AV.s (SV.int IntKind.i64 (0 : Int)))]) [AObj.own [AV.s (SV.int IntKind.i64 ck), AV.s (SV.int IntKind.i64 nx), AV.s (SV.ro (Con.typ cP ps)), AV.s (SV.ro (Con.typ cI is)), AV.s (SV.ro (Con.typ cC cs)), AV.s (SV.ro (Con.typ cW ws))] (27 : Nat), AObj.vec (Con.ints IntKind.i64 (kidsF (esOf is) id)) (3 : Nat)] (hd Tryd.f5 (14 : Nat)) (Stk.mk none false (0 : Nat) [] (0 : Nat))))))) := by kernel_rfl
noncomputable def cAt2 (ck nx : Int) (ps : Ps) (is : Is) (cs : Cs) (ws : Ws) (l : List Int) (m : Int) (ks : List Int) (i : Int) : Cfg := ⟨sl 130 [(2, .ptr 0 0), (5, avL l), (7, avI m), (8, avL ks), (9, avI i)], [obSt ck nx ps is cs ws], hd Tryd.f5 14, {}⟩
theorem loopAt2 (ck nx : Int) (ps : Ps) (is : Is) (cs : Cs) (ws : Ws) (l : List Int) (m : Int) (ks : List Int) (i : Int) : run P tabAt.sum Tryd.f5 nsAt (cAt2 ck nx ps is cs ws l m ks i) =
  Tree.ite (decide (i < (↑ks.length : Int))) (Tree.need (inI64 (m + (1 : Int))) (Tree.need ((0 : Int) ≤ i) (Tree.need (i < (↑ks.length : Int)) (Tree.need (List.length is ≤ (1000000 : Nat)) (Tree.need (inI64 (m + (1 : Int) + (↑(belowF (esOf is) (ks.getD i.toNat (0 : Int))).length : Int))) (Tree.need (inI64 (i + (1 : Int))) (Tree.at (Cfg.mk (sl (130 : Nat) [((2 : Nat), AV.ptr (0 : Nat) (0 : Nat)), ((5 : Nat), AV.s (SV.ro (Con.ints IntKind.i64 l))), ((7 : Nat), AV.s (SV.int IntKind.i64 (m + (1 : Int) + (↑(belowF (esOf is) (ks.getD i.toNat (0 : Int))).length : Int)))), ((8 : Nat), AV.s (SV.ro (Con.ints IntKind.i64 ks))), ((9 : Nat), AV.s (SV.int IntKind.i64 (i + (1 : Int))))]) [AObj.own [AV.s (SV.int IntKind.i64 ck), AV.s (SV.int IntKind.i64 nx), AV.s (SV.ro (Con.typ cP ps)), AV.s (SV.ro (Con.typ cI is)), AV.s (SV.ro (Con.typ cC cs)), AV.s (SV.ro (Con.typ cW ws))] (27 : Nat)] (hd Tryd.f5 (14 : Nat)) (Stk.mk none false (0 : Nat) [] (0 : Nat)))))))))) (Tree.ite (m != (↑l.length : Int)) (Tree.ret [AObj.own [AV.s (SV.int IntKind.i64 ck), AV.s (SV.int IntKind.i64 nx), AV.s (SV.ro (Con.typ cP ps)), AV.s (SV.ro (Con.typ cI is)), AV.s (SV.ro (Con.typ cC cs)), AV.s (SV.ro (Con.typ cW ws))] (27 : Nat)] (AV.s (SV.blit false))) (Tree.at (Cfg.mk (sl (130 : Nat) [((2 : Nat), AV.ptr (0 : Nat) (0 : Nat)), ((10 : Nat), AV.s (SV.int IntKind.i64 (0 : Int)))]) [AObj.own [AV.s (SV.int IntKind.i64 ck), AV.s (SV.int IntKind.i64 nx), AV.s (SV.ro (Con.typ cP ps)), AV.s (SV.ro (Con.typ cI is)), AV.s (SV.ro (Con.typ cC cs)), AV.s (SV.ro (Con.typ cW ws))] (27 : Nat)] (hd Tryd.f5 (20 : Nat)) (Stk.mk none false (0 : Nat) [] (0 : Nat))))) := by kernel_rfl
noncomputable def cAt3 (ck nx : Int) (ps : Ps) (is : Is) (cs : Cs) (ws : Ws) (i : Int) : Cfg := ⟨sl 130 [(2, .ptr 0 0), (10, avI i)], [obSt ck nx ps is cs ws], hd Tryd.f5 20, {}⟩
theorem loopAt3 (ck nx : Int) (ps : Ps) (is : Is) (cs : Cs) (ws : Ws) (i : Int) : run P tabAt.sum Tryd.f5 nsAt (cAt3 ck nx ps is cs ws i) =
  Tree.ite (decide (i < (↑(List.length is) : Int)))
  (Tree.need ((0 : Int) ≤ i)
    (Tree.need (i < (↑(List.length is) : Int))
      (Tree.ite (iU (el is i) != (0 : Int))
        (Tree.ite (iS (el is i) == (1 : Int)) (Tree.need (inI64 (depthF is (iU (el is i)) + (1 : Int))) (Tree.ite (depthF is (iI (el is i)) != depthF is (iU (el is i)) + (1 : Int)) (Tree.ret [AObj.own [AV.s (SV.int IntKind.i64 ck), AV.s (SV.int IntKind.i64 nx), AV.s (SV.ro (Con.typ cP ps)), AV.s (SV.ro (Con.typ cI is)), AV.s (SV.ro (Con.typ cC cs)), AV.s (SV.ro (Con.typ cW ws))] (27 : Nat), AObj.own [AV.s (SV.int IntKind.i64 (iI (el is i))), AV.s (SV.int IntKind.i64 (iU (el is i))), AV.s (SV.int IntKind.u8 (iS (el is i))), AV.s (SV.str (iP (el is i))), AV.s (SV.int IntKind.i64 (iN (el is i))), AV.s (SV.int IntKind.i64 (iF (el is i))), AV.s (SV.int IntKind.u8 (iW (el is i))), AV.s (SV.str (iC (el is i)))] (31 : Nat)] (AV.s (SV.blit false))) (Tree.ite (decide (depthF is (iU (el is i)) + (1 : Int) > (12 : Int))) (Tree.ret [AObj.own [AV.s (SV.int IntKind.i64 ck), AV.s (SV.int IntKind.i64 nx), AV.s (SV.ro (Con.typ cP ps)), AV.s (SV.ro (Con.typ cI is)), AV.s (SV.ro (Con.typ cC cs)), AV.s (SV.ro (Con.typ cW ws))] (27 : Nat), AObj.own [AV.s (SV.int IntKind.i64 (iI (el is i))), AV.s (SV.int IntKind.i64 (iU (el is i))), AV.s (SV.int IntKind.u8 (iS (el is i))), AV.s (SV.str (iP (el is i))), AV.s (SV.int IntKind.i64 (iN (el is i))), AV.s (SV.int IntKind.i64 (iF (el is i))), AV.s (SV.int IntKind.u8 (iW (el is i))), AV.s (SV.str (iC (el is i)))] (31 : Nat)] (AV.s (SV.blit false))) (Tree.need (List.length is ≤ (1000000 : Nat)) (Tree.at (Cfg.mk (sl (130 : Nat) [((2 : Nat), AV.ptr (0 : Nat) (0 : Nat)), ((10 : Nat), AV.s (SV.int IntKind.i64 i)), ((11 : Nat), AV.ptr (1 : Nat) (0 : Nat)), ((13 : Nat), AV.vec (2 : Nat)), ((14 : Nat), AV.s (SV.int IntKind.i64 (0 : Int)))]) [AObj.own [AV.s (SV.int IntKind.i64 ck), AV.s (SV.int IntKind.i64 nx), AV.s (SV.ro (Con.typ cP ps)), AV.s (SV.ro (Con.typ cI is)), AV.s (SV.ro (Con.typ cC cs)), AV.s (SV.ro (Con.typ cW ws))] (27 : Nat), AObj.own [AV.s (SV.int IntKind.i64 (iI (el is i))), AV.s (SV.int IntKind.i64 (iU (el is i))), AV.s (SV.int IntKind.u8 (iS (el is i))), AV.s (SV.str (iP (el is i))), AV.s (SV.int IntKind.i64 (iN (el is i))), AV.s (SV.int IntKind.i64 (iF (el is i))), AV.s (SV.int IntKind.u8 (iW (el is i))), AV.s (SV.str (iC (el is i)))] (31 : Nat), AObj.vec (Con.ints IntKind.i64 (belowF (esOf is) (iI (el is i)))) (3 : Nat)] (hd Tryd.f5 (32 : Nat)) (Stk.mk none false (0 : Nat) [] (0 : Nat))))))))
          (Tree.ite (depthF is (iI (el is i)) != depthF is (iU (el is i))) (Tree.ret [AObj.own [AV.s (SV.int IntKind.i64 ck), AV.s (SV.int IntKind.i64 nx), AV.s (SV.ro (Con.typ cP ps)), AV.s (SV.ro (Con.typ cI is)), AV.s (SV.ro (Con.typ cC cs)), AV.s (SV.ro (Con.typ cW ws))] (27 : Nat), AObj.own [AV.s (SV.int IntKind.i64 (iI (el is i))), AV.s (SV.int IntKind.i64 (iU (el is i))), AV.s (SV.int IntKind.u8 (iS (el is i))), AV.s (SV.str (iP (el is i))), AV.s (SV.int IntKind.i64 (iN (el is i))), AV.s (SV.int IntKind.i64 (iF (el is i))), AV.s (SV.int IntKind.u8 (iW (el is i))), AV.s (SV.str (iC (el is i)))] (31 : Nat)] (AV.s (SV.blit false))) (Tree.ite (decide (depthF is (iU (el is i)) > (12 : Int))) (Tree.ret [AObj.own [AV.s (SV.int IntKind.i64 ck), AV.s (SV.int IntKind.i64 nx), AV.s (SV.ro (Con.typ cP ps)), AV.s (SV.ro (Con.typ cI is)), AV.s (SV.ro (Con.typ cC cs)), AV.s (SV.ro (Con.typ cW ws))] (27 : Nat), AObj.own [AV.s (SV.int IntKind.i64 (iI (el is i))), AV.s (SV.int IntKind.i64 (iU (el is i))), AV.s (SV.int IntKind.u8 (iS (el is i))), AV.s (SV.str (iP (el is i))), AV.s (SV.int IntKind.i64 (iN (el is i))), AV.s (SV.int IntKind.i64 (iF (el is i))), AV.s (SV.int IntKind.u8 (iW (el is i))), AV.s (SV.str (iC (el is i)))] (31 : Nat)] (AV.s (SV.blit false))) (Tree.need (List.length is ≤ (1000000 : Nat)) (Tree.at (Cfg.mk (sl (130 : Nat) [((2 : Nat), AV.ptr (0 : Nat) (0 : Nat)), ((10 : Nat), AV.s (SV.int IntKind.i64 i)), ((11 : Nat), AV.ptr (1 : Nat) (0 : Nat)), ((13 : Nat), AV.vec (2 : Nat)), ((14 : Nat), AV.s (SV.int IntKind.i64 (0 : Int)))]) [AObj.own [AV.s (SV.int IntKind.i64 ck), AV.s (SV.int IntKind.i64 nx), AV.s (SV.ro (Con.typ cP ps)), AV.s (SV.ro (Con.typ cI is)), AV.s (SV.ro (Con.typ cC cs)), AV.s (SV.ro (Con.typ cW ws))] (27 : Nat), AObj.own [AV.s (SV.int IntKind.i64 (iI (el is i))), AV.s (SV.int IntKind.i64 (iU (el is i))), AV.s (SV.int IntKind.u8 (iS (el is i))), AV.s (SV.str (iP (el is i))), AV.s (SV.int IntKind.i64 (iN (el is i))), AV.s (SV.int IntKind.i64 (iF (el is i))), AV.s (SV.int IntKind.u8 (iW (el is i))), AV.s (SV.str (iC (el is i)))] (31 : Nat), AObj.vec (Con.ints IntKind.i64 (belowF (esOf is) (iI (el is i)))) (3 : Nat)] (hd Tryd.f5 (32 : Nat)) (Stk.mk none false (0 : Nat) [] (0 : Nat))))))))
        (Tree.ite (iS (el is i) == (1 : Int)) (Tree.ite (depthF is (iI (el is i)) != (1 : Int)) (Tree.ret [AObj.own [AV.s (SV.int IntKind.i64 ck), AV.s (SV.int IntKind.i64 nx), AV.s (SV.ro (Con.typ cP ps)), AV.s (SV.ro (Con.typ cI is)), AV.s (SV.ro (Con.typ cC cs)), AV.s (SV.ro (Con.typ cW ws))] (27 : Nat), AObj.own [AV.s (SV.int IntKind.i64 (iI (el is i))), AV.s (SV.int IntKind.i64 (iU (el is i))), AV.s (SV.int IntKind.u8 (iS (el is i))), AV.s (SV.str (iP (el is i))), AV.s (SV.int IntKind.i64 (iN (el is i))), AV.s (SV.int IntKind.i64 (iF (el is i))), AV.s (SV.int IntKind.u8 (iW (el is i))), AV.s (SV.str (iC (el is i)))] (31 : Nat)] (AV.s (SV.blit false))) (Tree.need (List.length is ≤ (1000000 : Nat)) (Tree.at (Cfg.mk (sl (130 : Nat) [((2 : Nat), AV.ptr (0 : Nat) (0 : Nat)), ((10 : Nat), AV.s (SV.int IntKind.i64 i)), ((11 : Nat), AV.ptr (1 : Nat) (0 : Nat)), ((13 : Nat), AV.vec (2 : Nat)), ((14 : Nat), AV.s (SV.int IntKind.i64 (0 : Int)))]) [AObj.own [AV.s (SV.int IntKind.i64 ck), AV.s (SV.int IntKind.i64 nx), AV.s (SV.ro (Con.typ cP ps)), AV.s (SV.ro (Con.typ cI is)), AV.s (SV.ro (Con.typ cC cs)), AV.s (SV.ro (Con.typ cW ws))] (27 : Nat), AObj.own [AV.s (SV.int IntKind.i64 (iI (el is i))), AV.s (SV.int IntKind.i64 (iU (el is i))), AV.s (SV.int IntKind.u8 (iS (el is i))), AV.s (SV.str (iP (el is i))), AV.s (SV.int IntKind.i64 (iN (el is i))), AV.s (SV.int IntKind.i64 (iF (el is i))), AV.s (SV.int IntKind.u8 (iW (el is i))), AV.s (SV.str (iC (el is i)))] (31 : Nat), AObj.vec (Con.ints IntKind.i64 (belowF (esOf is) (iI (el is i)))) (3 : Nat)] (hd Tryd.f5 (32 : Nat)) (Stk.mk none false (0 : Nat) [] (0 : Nat)))))) (Tree.ite (depthF is (iI (el is i)) != (0 : Int)) (Tree.ret [AObj.own [AV.s (SV.int IntKind.i64 ck), AV.s (SV.int IntKind.i64 nx), AV.s (SV.ro (Con.typ cP ps)), AV.s (SV.ro (Con.typ cI is)), AV.s (SV.ro (Con.typ cC cs)), AV.s (SV.ro (Con.typ cW ws))] (27 : Nat), AObj.own [AV.s (SV.int IntKind.i64 (iI (el is i))), AV.s (SV.int IntKind.i64 (iU (el is i))), AV.s (SV.int IntKind.u8 (iS (el is i))), AV.s (SV.str (iP (el is i))), AV.s (SV.int IntKind.i64 (iN (el is i))), AV.s (SV.int IntKind.i64 (iF (el is i))), AV.s (SV.int IntKind.u8 (iW (el is i))), AV.s (SV.str (iC (el is i)))] (31 : Nat)] (AV.s (SV.blit false))) (Tree.need (List.length is ≤ (1000000 : Nat)) (Tree.at (Cfg.mk (sl (130 : Nat) [((2 : Nat), AV.ptr (0 : Nat) (0 : Nat)), ((10 : Nat), AV.s (SV.int IntKind.i64 i)), ((11 : Nat), AV.ptr (1 : Nat) (0 : Nat)), ((13 : Nat), AV.vec (2 : Nat)), ((14 : Nat), AV.s (SV.int IntKind.i64 (0 : Int)))]) [AObj.own [AV.s (SV.int IntKind.i64 ck), AV.s (SV.int IntKind.i64 nx), AV.s (SV.ro (Con.typ cP ps)), AV.s (SV.ro (Con.typ cI is)), AV.s (SV.ro (Con.typ cC cs)), AV.s (SV.ro (Con.typ cW ws))] (27 : Nat), AObj.own [AV.s (SV.int IntKind.i64 (iI (el is i))), AV.s (SV.int IntKind.i64 (iU (el is i))), AV.s (SV.int IntKind.u8 (iS (el is i))), AV.s (SV.str (iP (el is i))), AV.s (SV.int IntKind.i64 (iN (el is i))), AV.s (SV.int IntKind.i64 (iF (el is i))), AV.s (SV.int IntKind.u8 (iW (el is i))), AV.s (SV.str (iC (el is i)))] (31 : Nat), AObj.vec (Con.ints IntKind.i64 (belowF (esOf is) (iI (el is i)))) (3 : Nat)] (hd Tryd.f5 (32 : Nat)) (Stk.mk none false (0 : Nat) [] (0 : Nat))))))))))
  (Tree.ret [AObj.own [AV.s (SV.int IntKind.i64 ck), AV.s (SV.int IntKind.i64 nx), AV.s (SV.ro (Con.typ cP ps)), AV.s (SV.ro (Con.typ cI is)), AV.s (SV.ro (Con.typ cC cs)), AV.s (SV.ro (Con.typ cW ws))] (27 : Nat)] (AV.s (SV.blit true))) := by kernel_rfl
noncomputable def cAt4 (ck nx : Int) (ps : Ps) (is : Is) (cs : Cs) (ws : Ws) (i : Int) (x : CL cI) (b : List Int) (k : Int) : Cfg := ⟨sl 130 [(2, .ptr 0 0), (10, avI i), (11, .ptr 1 0), (13, avL b), (14, avI k)], [obSt ck nx ps is cs ws, obIt x], hd Tryd.f5 32, {}⟩
theorem loopAt4 (ck nx : Int) (ps : Ps) (is : Is) (cs : Cs) (ws : Ws) (i : Int) (x : CL cI) (b : List Int) (k : Int) : run P tabAt.sum Tryd.f5 nsAt (cAt4 ck nx ps is cs ws i x b k) =
  Tree.ite (decide (k < (↑b.length : Int))) (Tree.need ((0 : Int) ≤ k) (Tree.need (k < (↑b.length : Int)) (Tree.ite (decide (b.getD k.toNat (0 : Int) ≤ iI x)) (Tree.ret [AObj.own [AV.s (SV.int IntKind.i64 ck), AV.s (SV.int IntKind.i64 nx), AV.s (SV.ro (Con.typ cP ps)), AV.s (SV.ro (Con.typ cI is)), AV.s (SV.ro (Con.typ cC cs)), AV.s (SV.ro (Con.typ cW ws))] (27 : Nat), AObj.own [AV.s (SV.int IntKind.i64 (iI x)), AV.s (SV.int IntKind.i64 (iU x)), AV.s (SV.int IntKind.u8 (iS x)), AV.s (SV.str (iP x)), AV.s (SV.int IntKind.i64 (iN x)), AV.s (SV.int IntKind.i64 (iF x)), AV.s (SV.int IntKind.u8 (iW x)), AV.s (SV.str (iC x))] (31 : Nat)] (AV.s (SV.blit false))) (Tree.need (inI64 (k + (1 : Int))) (Tree.at (Cfg.mk (sl (130 : Nat) [((2 : Nat), AV.ptr (0 : Nat) (0 : Nat)), ((10 : Nat), AV.s (SV.int IntKind.i64 i)), ((11 : Nat), AV.ptr (1 : Nat) (0 : Nat)), ((13 : Nat), AV.s (SV.ro (Con.ints IntKind.i64 b))), ((14 : Nat), AV.s (SV.int IntKind.i64 (k + (1 : Int))))]) [AObj.own [AV.s (SV.int IntKind.i64 ck), AV.s (SV.int IntKind.i64 nx), AV.s (SV.ro (Con.typ cP ps)), AV.s (SV.ro (Con.typ cI is)), AV.s (SV.ro (Con.typ cC cs)), AV.s (SV.ro (Con.typ cW ws))] (27 : Nat), AObj.own [AV.s (SV.int IntKind.i64 (iI x)), AV.s (SV.int IntKind.i64 (iU x)), AV.s (SV.int IntKind.u8 (iS x)), AV.s (SV.str (iP x)), AV.s (SV.int IntKind.i64 (iN x)), AV.s (SV.int IntKind.i64 (iF x)), AV.s (SV.int IntKind.u8 (iW x)), AV.s (SV.str (iC x))] (31 : Nat)] (hd Tryd.f5 (32 : Nat)) (Stk.mk none false (0 : Nat) [] (0 : Nat)))))))) (Tree.need (inI64 (i + (1 : Int))) (Tree.at (Cfg.mk (sl (130 : Nat) [((2 : Nat), AV.ptr (0 : Nat) (0 : Nat)), ((10 : Nat), AV.s (SV.int IntKind.i64 (i + (1 : Int))))]) [AObj.own [AV.s (SV.int IntKind.i64 ck), AV.s (SV.int IntKind.i64 nx), AV.s (SV.ro (Con.typ cP ps)), AV.s (SV.ro (Con.typ cI is)), AV.s (SV.ro (Con.typ cC cs)), AV.s (SV.ro (Con.typ cW ws))] (27 : Nat)] (hd Tryd.f5 (20 : Nat)) (Stk.mk none false (0 : Nat) [] (0 : Nat))))) := by kernel_rfl
end Ds

namespace Ds
open Go Go.Sx Go.Proofs Lf
theorem frzn_safe {X : Ctx} {K : List AObj → AV → Prop} {f : FuncId} {tmps : List AV} {L : List AObj} {todo : List Item} {stk : Stk} (hX : ∀ id, X.H id = none) (id : Nat) (N : Norm) {c : Cfg}
    (e : N.run ⟨(frzSt ⟨tmps, L⟩ id).tmps, (frzSt ⟨tmps, L⟩ id).H, todo, stk⟩ = some c) (h : Safe P f X K c) : Safe P f X K ⟨tmps, L, todo, stk⟩ :=
  frz_safe id rfl (Norm.safe (fun i _ => hX i) e h)
variable {nx : Int} {ps : Ps} {is is' : Is}
theorem Trees.kid (T : Trees nx is) {a b : Int} (h : b ∈ kidsF (esOf is) a) : a < b ∧ hasI is b = true ∧ gU is b = a := by
  obtain ⟨h1, h2⟩ := mem_kids.1 h
  obtain ⟨x, hx, e⟩ := List.mem_map.1 h1
  simp only [Prod.mk.injEq] at e
  obtain ⟨e1, e2⟩ := e
  obtain ⟨g1, g2⟩ := T.get hx
  rw [e1] at g1 g2
  have hU : gU is b = a := by unfold gU; rw [g2]; exact e2
  exact ⟨by rw [← hU]; exact (T.up_lt g1).1, g1, hU⟩
theorem Trees.reach_lt (T : Trees nx is) {a b : Int} (h : Reach (esOf is) a b) : a < b := by
  induction h with
  | kid h => exact (T.kid h).1
  | more _ h ih => have := (T.kid h).1; omega
theorem Trees.parent (T : Trees nx is) {a b c : Int} (h1 : c ∈ kidsF (esOf is) a) (h2 : c ∈ kidsF (esOf is) b) : a = b := by rw [← (T.kid h1).2.2, (T.kid h2).2.2]
theorem Trees.back (T : Trees nx is) {a b c : Int} (h : Reach (esOf is) a c) (hk : c ∈ kidsF (esOf is) b) : a = b ∨ Reach (esOf is) a b := by
  cases h with
  | kid h => exact .inl (T.parent h hk)
  | more h1 h2 => exact .inr (by rw [← T.parent h2 hk]; exact h1)
theorem Trees.chain (T : Trees nx is) {a b x : Int} (h : Reach (esOf is) a x) : Reach (esOf is) b x → a = b ∨ Reach (esOf is) a b ∨ Reach (esOf is) b a := by
  induction h with
  | kid h =>
    intro h2
    rcases T.back h2 h with e | e
    · exact .inl e.symm
    · exact .inr (.inr e)
  | more h1 h ih =>
    intro h2
    rcases T.back h2 h with e | e
    · subst e; exact .inr (.inl h1)
    · exact ih e
theorem reach_kid {es : Es} {a x : Int} (h : Reach es a x) : ∃ k ∈ kidsF es a, x = k ∨ Reach es k x := by
  induction h with
  | kid h => exact ⟨_, h, .inl rfl⟩
  | more _ h ih =>
    obtain ⟨k, hk, e⟩ := ih
    refine ⟨k, hk, .inr ?_⟩
    rcases e with rfl | e
    · exact .kid h
    · exact .more e h
/-- what is below the kids, and they -/
def sumBw (es : Es) (ks : List Int) : Nat := (ks.map fun k => 1 + (belowF es k).length).sum
theorem Trees.sumB (T : Trees nx is) (id : Int) : sumBw (esOf is) (kidsF (esOf is) id) = (belowF (esOf is) id).length := by
  have e : sumBw (esOf is) (kidsF (esOf is) id) = ((kidsF (esOf is) id).flatMap fun k => k :: belowF (esOf is) k).length := by
    unfold sumBw
    rw [List.length_flatMap]
    congr 1
    exact List.map_congr_left fun k _ => by simp; omega
  rw [e]
  have hk : ∀ k ∈ kidsF (esOf is) id, ∀ x ∈ k :: belowF (esOf is) k, x = k ∨ Reach (esOf is) k x := fun k _ x hx => by
    rcases List.mem_cons.1 hx with h | h
    · exact .inl h
    · exact .inr (mem_below.1 h).2
  have hnd : ((kidsF (esOf is) id).flatMap fun k => k :: belowF (esOf is) k).Nodup := by
    refine List.pairwise_flatMap.2 ⟨fun k _ => List.nodup_cons.2 ⟨fun h => (mem_below.1 h).1 rfl, rises_nodup (below_lt _ _)⟩, ?_⟩
    refine List.Pairwise.imp_of_mem ?_ (rises_nodup (setS_lt _))
    intro k1 k2 m1 m2 hne x hx y hy hxy
    subst hxy
    have l1 := (T.kid m1).1
    have l2 := (T.kid m2).1
    have no : ∀ {p q : Int}, p ∈ kidsF (esOf is) id → q ∈ kidsF (esOf is) id → ¬ Reach (esOf is) p q := fun {p q} hp hq h => by
      have := (T.kid hp).1
      rcases T.back h hq with e | e
      · omega
      · have := T.reach_lt e; omega
    rcases hk k1 m1 x hx with e1 | e1 <;> rcases hk k2 m2 x hy with e2 | e2
    · exact hne (by rw [← e1, e2])
    · rw [e1] at e2; exact no m2 m1 e2
    · rw [e2] at e1; exact no m1 m2 e1
    · rcases T.chain e1 e2 with h | h | h
      · exact hne h
      · exact no m1 m2 h
      · exact no m2 m1 h
  have hmem : ∀ x, x ∈ ((kidsF (esOf is) id).flatMap fun k => k :: belowF (esOf is) k) ↔ x ∈ belowF (esOf is) id := by
    intro x
    rw [List.mem_flatMap]
    constructor
    · rintro ⟨k, m, hx⟩
      have hr : Reach (esOf is) id x := by
        rcases hk k m x hx with e | e
        · subst e; exact .kid m
        · exact (Reach.kid m).trans e
      have := T.reach_lt hr
      exact mem_below.2 ⟨by omega, hr⟩
    · intro h
      obtain ⟨k, m, e⟩ := reach_kid (mem_below.1 h).2
      refine ⟨k, m, ?_⟩
      rcases e with e | e
      · exact List.mem_cons.2 (.inl e)
      · have := T.reach_lt e
        exact List.mem_cons.2 (.inr (mem_below.2 ⟨by omega, e⟩))
  have h1 := nodup_len hnd fun x hx => (hmem x).1 hx
  have h2 := nodup_len (rises_nodup (below_lt (esOf is) id)) fun x hx => (hmem x).2 hx
  omega
theorem depth_ge (is : Is) (id : Int) : 0 ≤ depthF is id := Int.natCast_nonneg _
theorem Snd.kind (S : Snd nx ps is) {x : CL cI} (hx : x ∈ is) : (iS x = 1 ∧ scopeF ps is x = true) ∨ (iS x = 2 ∧ tokenF ps is x = true) := by
  have h := S.ok x hx
  unfold okI at h
  rw [Bool.and_eq_true] at h
  by_cases e1 : iS x = 1
  · rw [if_pos e1] at h; exact .inl ⟨e1, h.2⟩
  · rw [if_neg e1] at h
    by_cases e2 : iS x = 2
    · rw [if_pos e2] at h; exact .inr ⟨e2, h.2⟩
    · rw [if_neg e2] at h; cases h.2
theorem gS_has {id : Int} (h : gS is id = 1) : hasI is id = true := by
  cases h0 : hasI is id with
  | true => rfl
  | false => unfold gS at h; rw [get_no h0] at h; cases h
theorem Snd.tok_up (S : Snd nx ps is) {x : CL cI} (h : tokenF ps is x = true) : gS is (iU x) = 1 ∧ gP is (iU x) = iP x := by
  unfold tokenF at h
  simp only [Bool.and_eq_true, beq_iff_eq, decide_eq_true_iff] at h
  exact ⟨h.1.1.1.1.1.1, h.1.1.1.1.1.2⟩
theorem Snd.scope_deep (S : Snd nx ps is) {x : CL cI} (hx : x ∈ is) (h : iS x = 1) : depthF is (iI x) ≤ 12 := by
  rcases S.kind hx with ⟨_, e⟩ | ⟨e, _⟩
  · unfold scopeF at e
    simp only [Bool.and_eq_true, Bool.not_eq_true', decide_eq_false_iff_not] at e
    have := e.1.1.2
    omega
  · omega
theorem Snd.deep (S : Snd nx ps is) {x : CL cI} (hx : x ∈ is) : depthF is (iI x) = (if iS x = 1 then 1 else 0) + (if iU x = 0 then 0 else depthF is (iU x)) ∧ depthF is (iI x) ≤ 12 := by
  obtain ⟨g1, g2⟩ := S.tr.get hx
  have hd := S.tr.depth g1
  unfold gS gU at hd
  rw [g2] at hd
  refine ⟨?_, ?_⟩
  · rw [hd]
    congr 1
    split
    · rename_i h; rw [h]; exact depth_no (S.tr.no0 (Int.le_refl 0))
    · rfl
  · rcases S.kind hx with ⟨e, _⟩ | ⟨e, h⟩
    · exact S.scope_deep hx e
    · have hu := (S.tok_up h).1
      have hh := gS_has hu
      obtain ⟨h1, h2⟩ := get_mem hh
      have := S.scope_deep h1 hu
      rw [h2] at this
      rw [if_neg (by omega)] at hd
      omega
end Ds

namespace Ds
open Go Go.Sx Go.Proofs Lf
variable {Z : Glob}
theorem rises_at {l : List Int} (h : Rises l) {i j : Nat} (hij : i < j) (hj : j < l.length) : l.getD i 0 < l.getD j 0 := by
  rw [getD_lt (by omega), getD_lt hj]
  exact List.pairwise_iff_getElem.1 h i j (by omega) hj hij
theorem getD_mem {l : List Int} {i : Nat} (h : i < l.length) : l.getD i 0 ∈ l := by rw [getD_lt h]; exact List.getElem_mem _
theorem sum_take {l : List Int} {f : Int → Nat} {i : Nat} (h : i < l.length) : ((l.take (i + 1)).map f).sum = ((l.take i).map f).sum + f (l.getD i 0) := by
  rw [take_snoc h, List.map_append, List.sum_append]; simp
theorem sum_le {l : List Int} {f : Int → Nat} {m : Nat} (h : ∀ x ∈ l, f x ≤ m) : (l.map f).sum ≤ l.length * m := by
  induction l with
  | nil => simp
  | cons x l ih =>
    have h1 := h x List.mem_cons_self
    have h2 := ih fun y hy => h y (List.mem_cons_of_mem _ hy)
    simp only [List.map_cons, List.sum_cons, List.length_cons, Nat.succ_mul]
    omega
theorem tabAt_ok (KV : MapVar P Z gKi tKi kindsF) : tabAt.Ok P Z := Tab.Ok.cons l18_ok.sum (Tab.Ok.cons a18_ok.sum (Tab.Ok.cons (sound_ok KV).sum (Tab.Ok.cons below_ok.sumR (Tab.Ok.cons kids_ok.sumR (Tab.Ok.cons depth_ok.sum Tab.Ok.nil)))))
theorem arenaTrees_ok (KV : MapVar P Z gKi tKi kindsF) : FnOk P Z 5 [tSt, tInt] [tBool] (fun _ => []) (fun _ => (true, ())) := by
  refine fnOk_of_safe Tryd.func5 (by kernel_rfl) (by kernel_rfl) ?_
  rintro ⟨⟨(ck : Int), (nx : Int), (ps : Ps), (is : Is), (cs : Cs), (ws : Ws), ⟨⟩⟩, (id : Int), ⟨⟩⟩ _ _ X hX hz
  show Safe P 5 X (Ends [tBool] (true, ())) _
  refine go hz hX (tabAt_ok KV) Tryd.func5 (trAt ck nx ps is cs ws id) ⟨fun _ => ends_eq _ rfl (by kernel_rfl), fun hl => no_and rfl ?_⟩
  obtain ⟨_, l1, l2, l3, l4⟩ := okN_of hl
  refine ⟨by omega, ?_⟩
  have hbl : ∀ k, (belowF (esOf is) k).length ≤ is.length := fun k => by have := below_le (esOf is) k; rw [show (esOf is).length = is.length from List.length_map _] at this; exact this
  refine frzn_safe hX 1 ⟨[], [1, 2, 5, 6], 0, []⟩ (c := cAt1 ck nx ps is cs ws id (belowF (esOf is) id) 0) (by kernel_rfl) ?_
  have rise := below_lt (esOf is) id
  have hlen := hbl id
  have hno : ∀ x ∈ belowF (esOf is) id, x ≠ id := fun x hx => (mem_below.1 hx).1
  have eB : Snd nx ps is → sumBw (esOf is) (kidsF (esOf is) id) = (belowF (esOf is) id).length := fun S => S.tr.sumB id
  generalize belowF (esOf is) id = l at rise hlen hno eB
  have fin3 : Snd nx ps is → ∀ (j i : Nat), i + j = is.length → Safe P 5 X (Ends [tBool] (true, ())) (cAt3 ck nx ps is cs ws (i : Int)) := by
    intro S j
    induction j with
    | zero =>
      intro i hij
      exact go hz hX (tabAt_ok KV) Tryd.func5 (loopAt3 ck nx ps is cs ws i) ⟨fun h => absurd (of_decide_eq_true h) (by omega), fun _ => ends_il rfl⟩
    | succ j ih =>
      intro i hij
      have hlt : i < is.length := by omega
      have inner : ∀ (x : CL cI), x ∈ is → ∀ (b : List Int), (∀ y ∈ b, iI x < y) → b.length ≤ is.length → ∀ (m k : Nat), k + m = b.length → Safe P 5 X (Ends [tBool] (true, ())) (cAt4 ck nx ps is cs ws (i : Int) x b (k : Int)) := by
        intro x hx b hb hbl m
        induction m with
        | zero =>
          intro k hk
          exact go hz hX (tabAt_ok KV) Tryd.func5 (loopAt4 ck nx ps is cs ws i x b k) ⟨fun h => absurd (of_decide_eq_true h) (by omega), fun _ => ⟨⟨by omega, by omega⟩, ih (i + 1) (by omega)⟩⟩
        | succ m im =>
          intro k hk
          have := hb _ (getD_mem (l := b) (i := k) (by omega))
          refine go hz hX (tabAt_ok KV) Tryd.func5 (loopAt4 ck nx ps is cs ws i x b k) (yes_and (decide_eq_true (by omega)) ⟨by omega, by omega, no_and (decide_eq_false ?_) ⟨⟨by omega, by omega⟩, im (k + 1) (by omega)⟩⟩)
          rw [Int.toNat_natCast]; omega
      refine go hz hX (tabAt_ok KV) Tryd.func5 (loopAt3 ck nx ps is cs ws i) (yes_and (decide_eq_true (by omega)) ⟨by omega, by omega, ?_⟩)
      rw [el_lt hlt]
      have hx := List.getElem_mem hlt
      generalize is[i] = x at hx
      obtain ⟨d1, d2⟩ := S.deep hx
      have go4 : Safe P 5 X (Ends [tBool] (true, ())) (cAt4 ck nx ps is cs ws (i : Int) x (belowF (esOf is) (iI x)) 0) :=
        inner x hx _ (fun y hy => S.tr.reach_lt (mem_below.1 hy).2) (hbl _) _ 0 (Nat.zero_add _)
      have hd := depth_ge is (iU x)
      have en : ∀ (h : List.length is ≤ 1000000), True := fun _ => trivial
      clear ih inner
      refine ⟨fun hu => ⟨fun hs => ?_, fun hs => ?_⟩, fun hu => ⟨fun hs => ?_, fun hs => ?_⟩⟩
      · have hu : iU x ≠ 0 := by simpa using hu
        have hs : iS x = 1 := by simpa using hs
        rw [if_pos hs, if_neg hu] at d1
        refine ⟨⟨by omega, by omega⟩, no_and (by rw [bne_eq_false_iff_eq]; omega) (no_and (decide_eq_false (by omega)) ⟨by omega, ?_⟩)⟩
        exact frzn_safe hX 2 ⟨[], [2, 10, 11, 13, 14], 0, []⟩ (by kernel_rfl) go4
      · have hu : iU x ≠ 0 := by simpa using hu
        have hs : iS x ≠ 1 := by simpa using hs
        rw [if_neg hs, if_neg hu] at d1
        refine no_and (by rw [bne_eq_false_iff_eq]; omega) (no_and (decide_eq_false (by omega)) ⟨by omega, ?_⟩)
        exact frzn_safe hX 2 ⟨[], [2, 10, 11, 13, 14], 0, []⟩ (by kernel_rfl) go4
      · have hu : iU x = 0 := by simpa using hu
        have hs : iS x = 1 := by simpa using hs
        rw [if_pos hs, if_pos hu] at d1
        refine no_and (by rw [bne_eq_false_iff_eq]; omega) ⟨by omega, ?_⟩
        exact frzn_safe hX 2 ⟨[], [2, 10, 11, 13, 14], 0, []⟩ (by kernel_rfl) go4
      · have hu : iU x = 0 := by simpa using hu
        have hs : iS x ≠ 1 := by simpa using hs
        rw [if_neg hs, if_pos hu] at d1
        refine no_and (by rw [bne_eq_false_iff_eq]; omega) ⟨by omega, ?_⟩
        exact frzn_safe hX 2 ⟨[], [2, 10, 11, 13, 14], 0, []⟩ (by kernel_rfl) go4
  have loop2 : Snd nx ps is → ∀ (ks : List Int), sumBw (esOf is) ks = l.length → ks.length ≤ 200 → ∀ (j i : Nat) (m : Int), i + j = ks.length → m = ((((ks.take i).map fun k => 1 + (belowF (esOf is) k).length).sum : Nat) : Int) →
      Safe P 5 X (Ends [tBool] (true, ())) (cAt2 ck nx ps is cs ws l m ks (i : Int)) := by
    intro S ks hks hkl j
    induction j with
    | zero =>
      intro i m hij hm
      have e : m = (l.length : Int) := by
        rw [hm, List.take_of_length_le (by omega), ← hks]; rfl
      exact go hz hX (tabAt_ok KV) Tryd.func5 (loopAt2 ck nx ps is cs ws l m ks i) ⟨fun h => absurd (of_decide_eq_true h) (by omega), fun _ => no_and (by rw [bne_eq_false_iff_eq]; exact e) (fin3 S is.length 0 (by omega))⟩
    | succ j ih =>
      intro i m hij hm
      have hb := hbl (ks.getD i 0)
      have hs : m ≤ ((ks.take i).length : Int) * 171 := by
        rw [hm]
        have := sum_le (l := ks.take i) (f := fun k => 1 + (belowF (esOf is) k).length) (m := 171) fun k _ => by have := hbl k; omega
        omega
      have ht : (ks.take i).length ≤ ks.length := by rw [List.length_take]; omega
      have h0 : 0 ≤ m := by rw [hm]; exact Int.natCast_nonneg _
      have hn := ih (i + 1) (m + 1 + ((belowF (esOf is) (ks.getD i 0)).length : Int)) (by omega) (by rw [sum_take (by omega), hm]; omega)
      refine go hz hX (tabAt_ok KV) Tryd.func5 (loopAt2 ck nx ps is cs ws l m ks i) (yes_and (decide_eq_true (by omega)) ⟨⟨by omega, by omega⟩, by omega, by omega, by omega, ?_⟩)
      rw [Int.toNat_natCast]
      exact ⟨⟨by omega, by omega⟩, ⟨by omega, by omega⟩, hn⟩
  have loop1 : ∀ (j i : Nat), i + j = l.length → Safe P 5 X (Ends [tBool] (true, ())) (cAt1 ck nx ps is cs ws id l (i : Int)) := by
    intro j
    induction j with
    | zero =>
      intro i hij
      refine go hz hX (tabAt_ok KV) Tryd.func5 (loopAt1 ck nx ps is cs ws id l i) ⟨fun h => absurd (of_decide_eq_true h) (by omega), fun _ => ⟨by omega, fun _ => ends_il rfl, fun hs => ⟨by omega, ?_⟩⟩⟩
      have S := sound_iff.1 (by simpa using hs)
      have hkl : (kidsF (esOf is) id).length ≤ 200 := by
        have h1 := setS_len (kidsL (esOf is) id)
        have h2 : (kidsL (esOf is) id).length ≤ is.length := by
          unfold kidsL
          rw [List.length_map]
          exact Nat.le_trans (List.length_filter_le _ _) (Nat.le_of_eq (List.length_map _))
        have h3 : (kidsF (esOf is) id).length ≤ (kidsL (esOf is) id).length := h1
        omega
      exact frzn_safe hX 1 ⟨[], [2, 5, 7, 8, 9], 0, []⟩ (by kernel_rfl) (loop2 S (kidsF (esOf is) id) (eB S) hkl _ 0 0 (Nat.zero_add _) rfl)
    | succ j ih =>
      intro i hij
      have hne := hno _ (getD_mem (l := l) (i := i) (by omega))
      refine go hz hX (tabAt_ok KV) Tryd.func5 (loopAt1 ck nx ps is cs ws id l i) (yes_and (decide_eq_true (by omega)) ?_)
      rw [Int.toNat_natCast]
      refine ⟨fun h => ?_, fun _ => ⟨by omega, by omega, no_and (by simpa using hne) ⟨⟨by omega, by omega⟩, ih (i + 1) (by omega)⟩⟩⟩
      have h := of_decide_eq_true h
      have hr := rises_at rise (i := i - 1) (j := i) (by omega) (by omega)
      refine ⟨⟨by omega, by omega⟩, by omega, by omega, by omega, by omega, no_and (decide_eq_false ?_) ⟨by omega, by omega, no_and (by simpa using hne) ⟨⟨by omega, by omega⟩, ih (i + 1) (by omega)⟩⟩⟩
      rw [show ((i : Int) - 1).toNat = i - 1 from by omega]; omega
  exact loop1 l.length 0 (by omega)
end Ds

/-! A package variable that is a map of rows of bytes: from what a row lists to how it is read. -/
namespace Go.Sx
open Go Go.RowKit Go.ChangeShapes Go.WideShapes Go.ChangeAt

/-- All that stood there stands. -/
def Glob.all (W : World) : Glob where
  bs := List.range W.heap.size
  ok w := ∀ b, b < W.heap.size → w.heap[b]? = W.heap[b]?
  low w h b hb := by
    have hb := List.mem_range.1 hb
    have := h b hb
    rw [Array.getElem?_eq_getElem hb] at this
    exact (Array.getElem?_eq_some_iff.1 this).1
  keep w w' h hk b hb := (hk b (List.mem_range.2 hb)).trans (h b hb)

theorem Glob.all_self (W : World) : (Glob.all W).ok W := fun _ _ => rfl

theorem all_cell {W w : World} (h : (Glob.all W).ok w) {a : Addr} {v : Value} (hc : W.cell? a = some v) : w.cell? a = some v := by
  have hlt : a.block < W.heap.size := by
    rcases Nat.lt_or_ge a.block W.heap.size with h2 | h2
    · exact h2
    · simp [World.cell?, Array.getElem?_eq_none h2] at hc
  unfold World.cell? at hc ⊢
  rw [h a.block hlt]
  exact hc

/-- The map as a row lists it. -/
def rowsData {H : Type} (rows : List (Int × List Int)) : DataW H := .map (rows.map fun x => (.int .u8 x.1, .slice (lits .u8 x.2) []))

def foundAt (es : List MapEntry) (n : Int) : Value := match Instr.findNow (.int .u8) (.int .u8 n) es 0 with
  | some (some (_, v)) => v
  | _ => .slice none 0 0

theorem find_u8 {l : List MapEntry} (hks : ∀ x ∈ l, MapKept.IsKey (.int .u8) x.key) (n : Int) :
    (Instr.findNow (.int .u8) (.int .u8 n) l 0 = some none ∧ ∀ x ∈ l, x.key ≠ .int .u8 n) ∨ ∃ j e, Instr.findNow (.int .u8) (.int .u8 n) l 0 = some (some (j, e.val)) ∧ e ∈ l ∧ e.key = .int .u8 n := by
  rcases MapKept.findNow_spec (d := .int .u8) (k := .int .u8 n) rfl l 0 hks with h | ⟨j, e, h1, h2, h3⟩
  · exact .inl h
  · exact .inr ⟨_, e, h1, List.mem_of_getElem? h2, h3⟩

section
variable {P : Program} {W : World} {name : String} {rows : List (Int × List Int)} {rest : List (String × DataW Unit)} {g : Nat} {t kt et e1 : TypeId} {row : Int → List Int}

theorem lits_inj {H : Type} {k : IntKind} : ∀ {xs ys : List Int}, (lits k xs : List (DataW H)) = lits k ys → xs = ys
  | [], [], _ => rfl
  | [], _ :: _, h => by simp [lits] at h
  | _ :: _, [], h => by simp [lits] at h
  | x :: xs, y :: ys, h => by
    simp only [lits, List.map_cons, List.cons.injEq, DataW.lit.injEq, Lit.int.injEq, true_and] at h
    rw [h.1, lits_inj (H := H) (k := k) (show lits k xs = lits k ys from h.2)]

/-- A row without spare reads as its integers. -/
theorem row_den {H : Type} {enc : TypeId × Value → H} {base : Nat} {sp : Nat → Bool} {held : Bool} {t e : TypeId} {fuel : Nat} {v : Value} {zs : List Int} {p : List MemPlace} (ht : P.underlying t = some (.slice e)) (he : P.underlying e = some (.int .u8)) (hc : P.cellsOf e = 1)
    (hf : v.formed P t = true) (h : DataW.trod enc P W base sp held fuel t v.cells.toList = some (.slice (lits .u8 zs) [], p)) {w : World} (hz : (Glob.all W).ok w) : v.oneCell' = true ∧ DenS (fun _ => False) w (.ro (.ints .u8 zs)) v := by
  rcases open_ints ht he hc h with ⟨_, hx⟩ | ⟨a, len, cap, zs', hcs, _, hl, hm, hlen, hx, hcell, _⟩
  · cases hx
  · simp only [Prod.mk.injEq, DataW.slice.injEq] at hx
    obtain ⟨⟨hx1, hx2⟩, _⟩ := hx
    have hd : zs'.drop len = [] := lits_inj (H := H) (k := .u8) (by rw [← hx2]; rfl)
    have e1 := lits_inj hx1
    have hle : zs'.length ≤ len := by simpa using hd
    have h2 : len ≤ zs'.length := by rw [hlen]; split <;> omega
    rw [List.take_of_length_le hle] at e1
    subst e1
    have hlz : zs.length = len := by omega
    have hv : v = .slice (some a) len cap := by
      cases v <;> first
        | (simp only [Value.cells, List.cons.injEq, and_true] at hcs; exact hcs)
        | (simp [Value.formed, ht] at hf)
    subst hv
    refine ⟨rfl, ?_⟩
    rcases Nat.eq_zero_or_pos len with h0 | h0
    · have hz0 : zs = [] := List.length_eq_zero_iff.1 (by omega)
      subst hz0
      subst h0
      exact .ro (.ints .u8 []) (some a) cap (fun _ _ => undef) 0 0 (Nat.zero_le _) hm (fun h => by simp [Con.n] at h) (fun i j hi hj => by simp [Con.n] at hi) (fun i j hi hj => by simp [Con.n] at hi)
    · obtain ⟨b, o, rfl, hc⟩ := ints_at hcell (by omega)
      have hn : (Con.ints .u8 zs).n = len := hlz
      have key := DenS.ro (O := fun _ => False) (w := w) (.ints .u8 zs) (some ⟨b, o, none⟩) cap (fun j _ => .int .u8 (zs.getD j 0)) b o (by omega) hm (fun _ => ⟨rfl, fun h => h, ?_⟩) (fun j l hj hl' => ?_) (fun j l hj hl' => ?_)
      · rw [hn] at key
        exact key
      · have h1 := all_cell hz (hc 0 (by omega))
        rcases Nat.lt_or_ge b w.heap.size with h2 | h2
        · exact h2
        · simp [World.cell?, Array.getElem?_eq_none h2] at h1
      · rw [hn] at hj
        simp only [Con.size] at hl' ⊢
        obtain rfl : l = 0 := by omega
        rw [Nat.mul_one, Nat.add_zero]
        exact all_cell hz (hc j (by omega))
      · exact .int _ _

/-- From the list to the variable. -/
theorem mapVar_of (hg : P.globalNamed name = some g) (hty : (P.globals[g]?).map (·.type) = some t) (ht : P.underlying t = some (.map kt et)) (hk : P.underlying kt = some (.int .u8)) (he : P.underlying et = some (.slice e1)) (h1 : P.underlying e1 = some (.int .u8)) (hc1 : P.cellsOf e1 = 1)
    (hzv : (P.info? et).bind (·.zero) = some (.slice none 0 0)) (hrow : ∀ x ∈ rows, row x.1 = x.2) (hno : ∀ n, (∀ x ∈ rows, x.1 ≠ n) → row n = [])
    (h : laidMet P ((name, rowsData rows) :: rest) W) : Nonempty (MapVar P (Glob.all W) g t row) := by
  obtain ⟨ps, ⟨g', t', cs, fuel, p, q, hg', ht', hvar, hd, _, _⟩, _⟩ := h
  obtain rfl := Option.some.inj (hg.symm.trans hg')
  obtain rfl := Option.some.inj (hty.symm.trans ht')
  rcases WideElems.open_map ht hd with ⟨_, hx⟩ | ⟨b, es, clock, n, rfl, hcs, hb, _, F, hx⟩
  · cases hx
  · simp only [Prod.mk.injEq, rowsData, DataW.map.injEq] at hx
    obtain ⟨hx, _⟩ := hx
    have hperm := sorted_perm (es.toList.map (WideElems.rg P kt (WideElems.elemAt (fun _ => ()) P W 0 (fun _ => true) false n et)))
    rw [← hx] at hperm
    have hkey : ∀ x ∈ es.toList, ∃ m, x.key = .int .u8 m ∧ ∃ zs q, (m, zs) ∈ rows ∧ x.val.formed P et = true ∧ DataW.trod (fun _ => ()) P W 0 (fun _ => true) false n et x.val.cells.toList = some (.slice (lits .u8 zs) [], q) := by
      intro x hxm
      obtain ⟨y, hy⟩ := F.reads x hxm
      have hk1 := WideElems.rd_key hy
      obtain ⟨z, hz1, hz2⟩ := WideElems.rd_val hy
      have hm := hperm.mem_iff.2 (List.mem_map_of_mem (f := WideElems.rg P kt (WideElems.elemAt (fun _ => ()) P W 0 (fun _ => true) false n et)) hxm)
      rw [WideElems.rg_of hy] at hm
      obtain ⟨r, hr, e⟩ := List.mem_map.1 hm
      subst e
      simp only at hk1 hz2
      have hk2 : mapKey P kt x.key = some (.int .u8 r.1) := by unfold Go.keyOf at hk1; rw [hk] at hk1; exact hk1
      have hk3 : x.key = .int .u8 r.1 := by
        generalize x.key = u at hk2
        unfold mapKey at hk2
        rw [hk] at hk2
        cases u <;> simp at hk2
        obtain ⟨⟨rfl, _⟩, rfl⟩ := hk2
        rfl
      unfold WideElems.elemAt at hz1
      split at hz1
      · rename_i hf
        refine ⟨r.1, hk3, r.2, z.2, hr, hf, ?_⟩
        rw [hz1, hz2]
      · cases hz1
    have hback : ∀ x ∈ rows, ∃ y ∈ es.toList, y.key = .int .u8 x.1 := by
      intro x hx1
      have hm := hperm.mem_iff.1 (List.mem_map_of_mem (f := fun x : Int × List Int => ((Lit.int .u8 x.1, DataW.slice (lits .u8 x.2) []) : Lit × DataW Unit)) hx1)
      obtain ⟨y, hy, e⟩ := List.mem_map.1 hm
      obtain ⟨z, hz⟩ := F.reads y hy
      rw [WideElems.rg_of hz] at e
      subst e
      have hk1 := WideElems.rd_key hz
      simp only at hk1
      have hk2 : mapKey P kt y.key = some (.int .u8 x.1) := by unfold Go.keyOf at hk1; rw [hk] at hk1; exact hk1
      refine ⟨y, hy, ?_⟩
      generalize y.key = u at hk2
      unfold mapKey at hk2
      rw [hk] at hk2
      cases u <;> simp at hk2
      obtain ⟨⟨rfl, _⟩, rfl⟩ := hk2
      rfl
    have hks : ∀ x ∈ es.toList, MapKept.IsKey (.int .u8) x.key := fun x hx => by
      obtain ⟨m, h1, _⟩ := hkey x hx
      rw [h1]; rfl
    have hblt : b < W.heap.size := (Array.getElem?_eq_some_iff.1 hb).1
    have hgc : W.cell? ⟨g, 0, none⟩ = some (.map (some b)) := by
      rw [World.var?_cell hg hvar 0, ← Array.getElem?_toList, hcs]; rfl
    refine ⟨⟨.map (some b), foundAt es.toList, rfl, fun m => ?_, fun o e w ho hev hz => ?_, fun w m hz => ?_, fun w m hz => ?_⟩⟩
    · unfold foundAt
      rcases find_u8 hks m with ⟨h2, _⟩ | ⟨j, x, h2, h3, _⟩
      · rw [h2]; rfl
      · rw [h2]
        obtain ⟨_, _, zs, q, _, h5, h6⟩ := hkey x h3
        exact (row_den he h1 hc1 h5 h6 (Glob.all_self W)).1
    · unfold execOp
      rw [ho]
      have := run_loadVar_one (P := P) (w := w) (t := t) (b := g) (off := 0) (v := .map (some b)) (by unfold aggT; rw [ht]) (all_cell hz hgc)
      simp only [hev, Sem.run_bind, this, Result.andThen_ok, Sem.run_pure]
    · have hb' : w.heap[b]? = some (.map es clock) := (hz b hblt).trans hb
      have hzero : (zeroValue et).run P w = .ok (.slice none 0 0) w := by
        obtain ⟨i, h1, h2⟩ := Option.bind_eq_some_iff.1 hzv
        simp [zeroValue, typeInfo, h1, h2]
      have hc := MapKept.run_checkKey (P := P) (w := w) hk (k := .int .u8 m) rfl es.isEmpty 9999
      unfold foundAt
      rcases find_u8 hks m with ⟨h2, _⟩ | ⟨j, x, h2, h3, _⟩
      · have h4 := MapKept.run_findKey (P := P) (w := w) hk h2
        simp [Instr.lookup, run_underlying ht, MapKept.run_getObj_map hb', hc, h4, h2, hzero, Result.andThen]
      · have h4 := MapKept.run_findKey (P := P) (w := w) hk h2
        simp [Instr.lookup, run_underlying ht, MapKept.run_getObj_map hb', hc, h4, h2, Result.andThen]
    · unfold foundAt
      rcases find_u8 hks m with ⟨h2, h3⟩ | ⟨j, x, h2, h3, h4⟩
      · rw [h2, hno m fun x hx e => ?_]
        · exact .ro (.ints .u8 []) none 0 (fun _ _ => undef) 0 0 (Nat.zero_le _) (Nat.zero_le _) (fun h => by simp [Con.n] at h) (fun i j hi hj => by simp [Con.n] at hi) (fun i j hi hj => by simp [Con.n] at hi)
        · obtain ⟨y, hy, e2⟩ := hback x hx
          exact h3 y hy (by rw [e2, e])
      · rw [h2]
        obtain ⟨m', h8, zs, q, h9, h5, h6⟩ := hkey x h3
        rw [h4] at h8
        cases h8
        have := hrow _ h9
        simp only at this
        rw [this]
        exact (row_den he h1 hc1 h5 h6 hz).2
end
end Go.Sx
