/- Lemmas: R13. -/
import Derived.Test.YtjmdfmafnenjnaaPE

namespace Lf
open Go Go.Sx Go.Proofs
def tabLs : Tab := [(22, sLarge), (23, sTrue), (24, sGiven), (25, sMay), (34, sSize), (35, sFits), (50, sPut), (33, sSame), (39, sSpl)]
def nsLs : List (Nat × Norm) := [(8, ⟨[], [1, 2, 7], 0, []⟩)]
noncomputable def cLs (l : Bool) (es : List (CL cE)) (bs : List (CL cB)) (key val : ByteArray) : Cfg := ⟨sl 139 [(1, .s (.str key)), (2, .s (.str val)), (7, .ptr 0 0)], [.own [.s (.bool l), .vec 1, .vec 2] 31, .vec (.typ cE es) eE, .vec (.typ cB bs) eB], hr Try.f10 8, {}⟩
theorem treeLs (l : Bool) (es : List (CL cE)) (bs : List (CL cB)) (key val : ByteArray) : run P tabLs.sum Try.f10 nsLs (start Try.f10 [avN l es bs, .s (.str key), .s (.str val)] []) =
  Tree.ite (largeN es bs) (Tree.ret [AObj.own [AV.s (SV.bool l), AV.s (SV.ro (Con.typ [CK.str, CK.str] es)), AV.s (SV.ro (Con.typ [CK.str, CK.int IntKind.i64] bs))] (25 : Nat)] (AV.s (SV.bool true)))
  (Tree.ite (decide ((↑key.size : Int) > (300 : Int))) (Tree.ret [AObj.own [AV.s (SV.bool l), AV.s (SV.ro (Con.typ [CK.str, CK.str] es)), AV.s (SV.ro (Con.typ [CK.str, CK.int IntKind.i64] bs))] (25 : Nat)] (AV.s (SV.bool true)))
    (Tree.ite (decide ((↑val.size : Int) > (300 : Int))) (Tree.ret [AObj.own [AV.s (SV.bool l), AV.s (SV.ro (Con.typ [CK.str, CK.str] es)), AV.s (SV.ro (Con.typ [CK.str, CK.int IntKind.i64] bs))] (25 : Nat)] (AV.s (SV.bool true)))
      (Tree.ite false (Tree.ret [AObj.own [AV.s (SV.bool l), AV.s (SV.ro (Con.typ [CK.str, CK.str] es)), AV.s (SV.ro (Con.typ [CK.str, CK.int IntKind.i64] bs))] (25 : Nat)] (AV.s (SV.bool true)))
        (Tree.need (es.length ≤ (100000 : Nat))
          (Tree.need (bs.length ≤ (100000 : Nat))
            (Tree.need (smallE es)
              (Tree.need (smallB bs)
                (Tree.ite (spC l es bs == (0 : Int))
                  (Tree.need ((0 : Nat) + (spE1 l es bs).length ≤ (4294967296 : Nat))
                    (Tree.need (([] ++ spE1 l es bs).length + (spE2 l es bs).length ≤ (4294967296 : Nat))
                      (Tree.need ((0 : Nat) + (spB1 l es bs).length ≤ (4294967296 : Nat))
                        (Tree.need (([] ++ spB1 l es bs).length + (spB2 l es bs).length ≤ (4294967296 : Nat))
                          (Tree.ite (!sameN (spL l es bs) ([] ++ spE1 l es bs ++ spE2 l es bs) ([] ++ spB1 l es bs ++ spB2 l es bs) l es bs) (Tree.ret [AObj.own [AV.s (SV.bool l), AV.s (SV.ro (Con.typ [CK.str, CK.str] es)), AV.s (SV.ro (Con.typ [CK.str, CK.int IntKind.i64] bs))] (25 : Nat), AObj.vec (Con.typ [CK.str, CK.str] es) (59 : Nat), AObj.vec (Con.typ [CK.str, CK.int IntKind.i64] bs) (36 : Nat), AObj.own [AV.s (SV.bool l), AV.vec (1 : Nat), AV.vec (2 : Nat)] (31 : Nat), AObj.vec (Con.typ [CK.str, CK.str] (spE1 l es bs)) (59 : Nat), AObj.vec (Con.typ [CK.str, CK.int IntKind.i64] (spB1 l es bs)) (36 : Nat), AObj.vec (Con.typ [CK.str, CK.str] (spE2 l es bs)) (59 : Nat), AObj.vec (Con.typ [CK.str, CK.int IntKind.i64] (spB2 l es bs)) (36 : Nat), AObj.own [AV.s (SV.bool (spL l es bs)), AV.vec (4 : Nat), AV.vec (5 : Nat)] (31 : Nat), AObj.own [AV.s (SV.bool (spL l es bs)), AV.vec (6 : Nat), AV.vec (7 : Nat)] (31 : Nat), AObj.dead, AObj.dead, AObj.vec (Con.typ [CK.str, CK.str] ([] ++ spE1 l es bs ++ spE2 l es bs)) (59 : Nat), AObj.dead, AObj.dead, AObj.vec (Con.typ [CK.str, CK.int IntKind.i64] ([] ++ spB1 l es bs ++ spB2 l es bs)) (36 : Nat)] (AV.s (SV.blit false)))
                            (Tree.need (smallE (spE1 l es bs))
                              (Tree.need (smallB (spB1 l es bs))
                                (Tree.need (smallE es)
                                  (Tree.need (smallB bs)
                                    (Tree.ite (decide (sizeN (spE1 l es bs) (spB1 l es bs) ≥ sizeN es bs)) (Tree.ret [AObj.own [AV.s (SV.bool l), AV.s (SV.ro (Con.typ [CK.str, CK.str] es)), AV.s (SV.ro (Con.typ [CK.str, CK.int IntKind.i64] bs))] (25 : Nat), AObj.vec (Con.typ [CK.str, CK.str] es) (59 : Nat), AObj.vec (Con.typ [CK.str, CK.int IntKind.i64] bs) (36 : Nat), AObj.own [AV.s (SV.bool l), AV.vec (1 : Nat), AV.vec (2 : Nat)] (31 : Nat), AObj.vec (Con.typ [CK.str, CK.str] (spE1 l es bs)) (59 : Nat), AObj.vec (Con.typ [CK.str, CK.int IntKind.i64] (spB1 l es bs)) (36 : Nat), AObj.vec (Con.typ [CK.str, CK.str] (spE2 l es bs)) (59 : Nat), AObj.vec (Con.typ [CK.str, CK.int IntKind.i64] (spB2 l es bs)) (36 : Nat), AObj.own [AV.s (SV.bool (spL l es bs)), AV.vec (4 : Nat), AV.vec (5 : Nat)] (31 : Nat), AObj.own [AV.s (SV.bool (spL l es bs)), AV.vec (6 : Nat), AV.vec (7 : Nat)] (31 : Nat), AObj.dead, AObj.dead, AObj.vec (Con.typ [CK.str, CK.str] ([] ++ spE1 l es bs ++ spE2 l es bs)) (59 : Nat), AObj.dead, AObj.dead, AObj.vec (Con.typ [CK.str, CK.int IntKind.i64] ([] ++ spB1 l es bs ++ spB2 l es bs)) (36 : Nat)] (AV.s (SV.blit false)))
                                      (Tree.need (smallE (spE2 l es bs))
                                        (Tree.need (smallB (spB2 l es bs))
                                          (Tree.need (smallE es)
                                            (Tree.need (smallB bs)
                                              (Tree.ite (decide (sizeN (spE2 l es bs) (spB2 l es bs) ≥ sizeN es bs)) (Tree.ret [AObj.own [AV.s (SV.bool l), AV.s (SV.ro (Con.typ [CK.str, CK.str] es)), AV.s (SV.ro (Con.typ [CK.str, CK.int IntKind.i64] bs))] (25 : Nat), AObj.vec (Con.typ [CK.str, CK.str] es) (59 : Nat), AObj.vec (Con.typ [CK.str, CK.int IntKind.i64] bs) (36 : Nat), AObj.own [AV.s (SV.bool l), AV.vec (1 : Nat), AV.vec (2 : Nat)] (31 : Nat), AObj.vec (Con.typ [CK.str, CK.str] (spE1 l es bs)) (59 : Nat), AObj.vec (Con.typ [CK.str, CK.int IntKind.i64] (spB1 l es bs)) (36 : Nat), AObj.vec (Con.typ [CK.str, CK.str] (spE2 l es bs)) (59 : Nat), AObj.vec (Con.typ [CK.str, CK.int IntKind.i64] (spB2 l es bs)) (36 : Nat), AObj.own [AV.s (SV.bool (spL l es bs)), AV.vec (4 : Nat), AV.vec (5 : Nat)] (31 : Nat), AObj.own [AV.s (SV.bool (spL l es bs)), AV.vec (6 : Nat), AV.vec (7 : Nat)] (31 : Nat), AObj.dead, AObj.dead, AObj.vec (Con.typ [CK.str, CK.str] ([] ++ spE1 l es bs ++ spE2 l es bs)) (59 : Nat), AObj.dead, AObj.dead, AObj.vec (Con.typ [CK.str, CK.int IntKind.i64] ([] ++ spB1 l es bs ++ spB2 l es bs)) (36 : Nat)] (AV.s (SV.blit false)))
                                                (Tree.ite (!mayN (spL l es bs) (spE1 l es bs) (spB1 l es bs)) (Tree.ret [AObj.own [AV.s (SV.bool l), AV.s (SV.ro (Con.typ [CK.str, CK.str] es)), AV.s (SV.ro (Con.typ [CK.str, CK.int IntKind.i64] bs))] (25 : Nat), AObj.vec (Con.typ [CK.str, CK.str] es) (59 : Nat), AObj.vec (Con.typ [CK.str, CK.int IntKind.i64] bs) (36 : Nat), AObj.own [AV.s (SV.bool l), AV.vec (1 : Nat), AV.vec (2 : Nat)] (31 : Nat), AObj.vec (Con.typ [CK.str, CK.str] (spE1 l es bs)) (59 : Nat), AObj.vec (Con.typ [CK.str, CK.int IntKind.i64] (spB1 l es bs)) (36 : Nat), AObj.vec (Con.typ [CK.str, CK.str] (spE2 l es bs)) (59 : Nat), AObj.vec (Con.typ [CK.str, CK.int IntKind.i64] (spB2 l es bs)) (36 : Nat), AObj.own [AV.s (SV.bool (spL l es bs)), AV.vec (4 : Nat), AV.vec (5 : Nat)] (31 : Nat), AObj.own [AV.s (SV.bool (spL l es bs)), AV.vec (6 : Nat), AV.vec (7 : Nat)] (31 : Nat), AObj.dead, AObj.dead, AObj.vec (Con.typ [CK.str, CK.str] ([] ++ spE1 l es bs ++ spE2 l es bs)) (59 : Nat), AObj.dead, AObj.dead, AObj.vec (Con.typ [CK.str, CK.int IntKind.i64] ([] ++ spB1 l es bs ++ spB2 l es bs)) (36 : Nat)] (AV.s (SV.blit false)))
                                                  (Tree.ite (!mayN (spL l es bs) (spE2 l es bs) (spB2 l es bs)) (Tree.ret [AObj.own [AV.s (SV.bool l), AV.s (SV.ro (Con.typ [CK.str, CK.str] es)), AV.s (SV.ro (Con.typ [CK.str, CK.int IntKind.i64] bs))] (25 : Nat), AObj.vec (Con.typ [CK.str, CK.str] es) (59 : Nat), AObj.vec (Con.typ [CK.str, CK.int IntKind.i64] bs) (36 : Nat), AObj.own [AV.s (SV.bool l), AV.vec (1 : Nat), AV.vec (2 : Nat)] (31 : Nat), AObj.vec (Con.typ [CK.str, CK.str] (spE1 l es bs)) (59 : Nat), AObj.vec (Con.typ [CK.str, CK.int IntKind.i64] (spB1 l es bs)) (36 : Nat), AObj.vec (Con.typ [CK.str, CK.str] (spE2 l es bs)) (59 : Nat), AObj.vec (Con.typ [CK.str, CK.int IntKind.i64] (spB2 l es bs)) (36 : Nat), AObj.own [AV.s (SV.bool (spL l es bs)), AV.vec (4 : Nat), AV.vec (5 : Nat)] (31 : Nat), AObj.own [AV.s (SV.bool (spL l es bs)), AV.vec (6 : Nat), AV.vec (7 : Nat)] (31 : Nat), AObj.dead, AObj.dead, AObj.vec (Con.typ [CK.str, CK.str] ([] ++ spE1 l es bs ++ spE2 l es bs)) (59 : Nat), AObj.dead, AObj.dead, AObj.vec (Con.typ [CK.str, CK.int IntKind.i64] ([] ++ spB1 l es bs ++ spB2 l es bs)) (36 : Nat)] (AV.s (SV.blit false))) (Tree.need (smallE (spE1 l es bs)) (Tree.need (smallB (spB1 l es bs)) (Tree.need (smallE (spE2 l es bs)) (Tree.need (smallB (spB2 l es bs)) (Tree.need (inI64 (sizeN (spE1 l es bs) (spB1 l es bs) + sizeN (spE2 l es bs) (spB2 l es bs))) (Tree.need (smallE es) (Tree.need (smallB bs) (Tree.need (inI64 (sizeN es bs + (1 : Int))) (Tree.ite (sizeN (spE1 l es bs) (spB1 l es bs) + sizeN (spE2 l es bs) (spB2 l es bs) != sizeN es bs + (1 : Int)) (Tree.ret [AObj.own [AV.s (SV.bool l), AV.s (SV.ro (Con.typ [CK.str, CK.str] es)), AV.s (SV.ro (Con.typ [CK.str, CK.int IntKind.i64] bs))] (25 : Nat), AObj.vec (Con.typ [CK.str, CK.str] es) (59 : Nat), AObj.vec (Con.typ [CK.str, CK.int IntKind.i64] bs) (36 : Nat), AObj.own [AV.s (SV.bool l), AV.vec (1 : Nat), AV.vec (2 : Nat)] (31 : Nat), AObj.vec (Con.typ [CK.str, CK.str] (spE1 l es bs)) (59 : Nat), AObj.vec (Con.typ [CK.str, CK.int IntKind.i64] (spB1 l es bs)) (36 : Nat), AObj.vec (Con.typ [CK.str, CK.str] (spE2 l es bs)) (59 : Nat), AObj.vec (Con.typ [CK.str, CK.int IntKind.i64] (spB2 l es bs)) (36 : Nat), AObj.own [AV.s (SV.bool (spL l es bs)), AV.vec (4 : Nat), AV.vec (5 : Nat)] (31 : Nat), AObj.own [AV.s (SV.bool (spL l es bs)), AV.vec (6 : Nat), AV.vec (7 : Nat)] (31 : Nat), AObj.dead, AObj.dead, AObj.vec (Con.typ [CK.str, CK.str] ([] ++ spE1 l es bs ++ spE2 l es bs)) (59 : Nat), AObj.dead, AObj.dead, AObj.vec (Con.typ [CK.str, CK.int IntKind.i64] ([] ++ spB1 l es bs ++ spB2 l es bs)) (36 : Nat)] (AV.s (SV.blit false))) (Tree.at (Cfg.mk (sl (139 : Nat) [((1 : Nat), AV.s (SV.str key)), ((2 : Nat), AV.s (SV.str val)), ((7 : Nat), AV.ptr (0 : Nat) (0 : Nat))]) [AObj.own [AV.s (SV.bool l), AV.vec (1 : Nat), AV.vec (2 : Nat)] (31 : Nat), AObj.vec (Con.typ [CK.str, CK.str] es) (59 : Nat), AObj.vec (Con.typ [CK.str, CK.int IntKind.i64] bs) (36 : Nat)] (hr Try.f10 (8 : Nat)) (Stk.mk none false (0 : Nat) [] (0 : Nat))))))))))))))))))))))))))))))
                  (Tree.at (Cfg.mk (sl (139 : Nat) [((1 : Nat), AV.s (SV.str key)), ((2 : Nat), AV.s (SV.str val)), ((7 : Nat), AV.ptr (0 : Nat) (0 : Nat))]) [AObj.own [AV.s (SV.bool l), AV.vec (1 : Nat), AV.vec (2 : Nat)] (31 : Nat), AObj.vec (Con.typ [CK.str, CK.str] es) (59 : Nat), AObj.vec (Con.typ [CK.str, CK.int IntKind.i64] bs) (36 : Nat)] (hr Try.f10 (8 : Nat)) (Stk.mk none false (0 : Nat) [] (0 : Nat)))))))))))) := by kernel_rfl
theorem loopLs (l : Bool) (es : List (CL cE)) (bs : List (CL cB)) (key val : ByteArray) : run P tabLs.sum Try.f10 nsLs (cLs l es bs key val) =
  Tree.ite (!mayN l es bs) (Tree.ret [AObj.own [AV.s (SV.bool l), AV.vec (1 : Nat), AV.vec (2 : Nat)] (31 : Nat), AObj.vec (Con.typ [CK.str, CK.str] es) (59 : Nat), AObj.vec (Con.typ [CK.str, CK.int IntKind.i64] bs) (36 : Nat)] (AV.s (SV.blit true)))
  (Tree.ite (!l) (Tree.ret [AObj.own [AV.s (SV.bool l), AV.vec (1 : Nat), AV.vec (2 : Nat)] (31 : Nat), AObj.vec (Con.typ [CK.str, CK.str] es) (59 : Nat), AObj.vec (Con.typ [CK.str, CK.int IntKind.i64] bs) (36 : Nat)] (AV.s (SV.blit true)))
    (Tree.need (smallE es)
      (Tree.need (smallB bs)
        (Tree.ite (!decide (sizeN es bs ≤ (254 : Int))) (Tree.ret [AObj.own [AV.s (SV.bool l), AV.vec (1 : Nat), AV.vec (2 : Nat)] (31 : Nat), AObj.vec (Con.typ [CK.str, CK.str] es) (59 : Nat), AObj.vec (Con.typ [CK.str, CK.int IntKind.i64] bs) (36 : Nat)] (AV.s (SV.blit true)))
          (Tree.need (es.length ≤ (100000 : Nat))
            (Tree.need (srt (ksE es))
              (Tree.ite (!mayN true (putE es key val) []) (Tree.ret [AObj.own [AV.s (SV.bool l), AV.vec (1 : Nat), AV.vec (2 : Nat)] (31 : Nat), AObj.vec (Con.typ [CK.str, CK.str] es) (59 : Nat), AObj.vec (Con.typ [CK.str, CK.int IntKind.i64] bs) (36 : Nat), AObj.vec (Con.typ [CK.str, CK.str] (putE es key val)) (59 : Nat), AObj.own [AV.s (SV.blit true), AV.vec (3 : Nat), AV.emp] (31 : Nat)] (AV.s (SV.blit true)))
                (Tree.need (smallE (putE es key val)) (Tree.need (smallB []) (Tree.ite (decide (sizeN (putE es key val) [] ≤ (254 : Int))) (Tree.ret [AObj.own [AV.s (SV.bool l), AV.vec (1 : Nat), AV.vec (2 : Nat)] (31 : Nat), AObj.vec (Con.typ [CK.str, CK.str] es) (59 : Nat), AObj.vec (Con.typ [CK.str, CK.int IntKind.i64] bs) (36 : Nat), AObj.vec (Con.typ [CK.str, CK.str] (putE es key val)) (59 : Nat), AObj.own [AV.s (SV.blit true), AV.vec (3 : Nat), AV.emp] (31 : Nat)] (AV.s (SV.blit true))) (Tree.need (smallE (putE es key val)) (Tree.need (smallB []) (Tree.ite (spC true (putE es key val) [] == (0 : Int)) (Tree.need (smallE (spE1 true (putE es key val) [])) (Tree.need (smallB (spB1 true (putE es key val) [])) (Tree.ite (decide (sizeN (spE1 true (putE es key val) []) (spB1 true (putE es key val) []) ≤ (254 : Int))) (Tree.need (smallE (spE2 true (putE es key val) [])) (Tree.need (smallB (spB2 true (putE es key val) [])) (Tree.ret [AObj.own [AV.s (SV.bool l), AV.vec (1 : Nat), AV.vec (2 : Nat)] (31 : Nat), AObj.vec (Con.typ [CK.str, CK.str] es) (59 : Nat), AObj.vec (Con.typ [CK.str, CK.int IntKind.i64] bs) (36 : Nat), AObj.vec (Con.typ [CK.str, CK.str] (putE es key val)) (59 : Nat), AObj.own [AV.s (SV.blit true), AV.vec (3 : Nat), AV.emp] (31 : Nat), AObj.vec (Con.typ [CK.str, CK.str] (spE1 true (putE es key val) [])) (59 : Nat), AObj.vec (Con.typ [CK.str, CK.int IntKind.i64] (spB1 true (putE es key val) [])) (36 : Nat), AObj.vec (Con.typ [CK.str, CK.str] (spE2 true (putE es key val) [])) (59 : Nat), AObj.vec (Con.typ [CK.str, CK.int IntKind.i64] (spB2 true (putE es key val) [])) (36 : Nat), AObj.own [AV.s (SV.bool (spL true (putE es key val) [])), AV.vec (5 : Nat), AV.vec (6 : Nat)] (31 : Nat), AObj.own [AV.s (SV.bool (spL true (putE es key val) [])), AV.vec (7 : Nat), AV.vec (8 : Nat)] (31 : Nat)] (AV.s (SV.bool (decide (sizeN (spE2 true (putE es key val) []) (spB2 true (putE es key val) []) ≤ (254 : Int)))))))) (Tree.ret [AObj.own [AV.s (SV.bool l), AV.vec (1 : Nat), AV.vec (2 : Nat)] (31 : Nat), AObj.vec (Con.typ [CK.str, CK.str] es) (59 : Nat), AObj.vec (Con.typ [CK.str, CK.int IntKind.i64] bs) (36 : Nat), AObj.vec (Con.typ [CK.str, CK.str] (putE es key val)) (59 : Nat), AObj.own [AV.s (SV.blit true), AV.vec (3 : Nat), AV.emp] (31 : Nat), AObj.vec (Con.typ [CK.str, CK.str] (spE1 true (putE es key val) [])) (59 : Nat), AObj.vec (Con.typ [CK.str, CK.int IntKind.i64] (spB1 true (putE es key val) [])) (36 : Nat), AObj.vec (Con.typ [CK.str, CK.str] (spE2 true (putE es key val) [])) (59 : Nat), AObj.vec (Con.typ [CK.str, CK.int IntKind.i64] (spB2 true (putE es key val) [])) (36 : Nat), AObj.own [AV.s (SV.bool (spL true (putE es key val) [])), AV.vec (5 : Nat), AV.vec (6 : Nat)] (31 : Nat), AObj.own [AV.s (SV.bool (spL true (putE es key val) [])), AV.vec (7 : Nat), AV.vec (8 : Nat)] (31 : Nat)] (AV.s (SV.blit false)))))) (Tree.ret [AObj.own [AV.s (SV.bool l), AV.vec (1 : Nat), AV.vec (2 : Nat)] (31 : Nat), AObj.vec (Con.typ [CK.str, CK.str] es) (59 : Nat), AObj.vec (Con.typ [CK.str, CK.int IntKind.i64] bs) (36 : Nat), AObj.vec (Con.typ [CK.str, CK.str] (putE es key val)) (59 : Nat), AObj.own [AV.s (SV.blit true), AV.vec (3 : Nat), AV.emp] (31 : Nat), AObj.vec (Con.typ [CK.str, CK.str] (spE1 true (putE es key val) [])) (59 : Nat), AObj.vec (Con.typ [CK.str, CK.int IntKind.i64] (spB1 true (putE es key val) [])) (36 : Nat), AObj.vec (Con.typ [CK.str, CK.str] (spE2 true (putE es key val) [])) (59 : Nat), AObj.vec (Con.typ [CK.str, CK.int IntKind.i64] (spB2 true (putE es key val) [])) (36 : Nat), AObj.own [AV.s (SV.bool (spL true (putE es key val) [])), AV.vec (5 : Nat), AV.vec (6 : Nat)] (31 : Nat), AObj.own [AV.s (SV.bool (spL true (putE es key val) [])), AV.vec (7 : Nat), AV.vec (8 : Nat)] (31 : Nat)] (AV.s (SV.blit false)))))))))))))))) := by kernel_rfl
theorem tabLs_ok {Z : Glob} : tabLs.Ok P Z := Tab.Ok.cons large_ok.sum (Tab.Ok.cons awake_ok.sum (Tab.Ok.cons given_ok.sum (Tab.Ok.cons may_ok.sum (Tab.Ok.cons size_ok.sum (Tab.Ok.cons fits_ok.sum (Tab.Ok.cons put_ok.sum (Tab.Ok.cons same_ok.sum (Tab.Ok.cons split_ok.sum Tab.Ok.nil))))))))

/-! ### parts of what may be -/
theorem getD_take' {α : Type} {l : List α} {k i : Nat} {d : α} (h : i < k) : (l.take k).getD i d = l.getD i d := by simp [List.getD, List.getElem?_take, h]
theorem getD_drop' {α : Type} {l : List α} {k i : Nat} {d : α} : (l.drop k).getD i d = l.getD (k + i) d := by simp [List.getD, List.getElem?_drop]
theorem okEs_take {es : List En} (h : okEs es = true) (k : Nat) : okEs (es.take k) = true := all_range.2 fun i hi => by
  rw [List.length_take] at hi
  have := okE_iff.1 (all_range.1 h i (by omega))
  rw [okE_iff, getD_take' (by omega), getD_take' (by omega)]
  exact this
theorem okBs_take {es : List Br} (h : okBs es = true) (k : Nat) : okBs (es.take k) = true := all_range.2 fun i hi => by
  rw [List.length_take] at hi
  have := okB_iff.1 (all_range.1 h i (by omega))
  rw [okB_iff, getD_take' (by omega), getD_take' (by omega)]
  exact this
theorem okEs_drop {es : List En} (h : okEs es = true) (k : Nat) : okEs (es.drop k) = true := all_range.2 fun i hi => by
  rw [List.length_drop] at hi
  obtain ⟨h1, h2, h3, h4⟩ := okE_iff.1 (all_range.1 h (k + i) (by omega))
  rw [okE_iff, getD_drop', getD_drop']
  exact ⟨h1, h2, h3, fun h0 => by have := h4 (by omega); rw [show k + i - 1 = k + (i - 1) from by omega] at this; exact this⟩
theorem okBs_drop {es : List Br} (h : okBs es = true) (k : Nat) : okBs (es.drop k) = true := all_range.2 fun i hi => by
  rw [List.length_drop] at hi
  obtain ⟨h1, h2, h3, h4⟩ := okB_iff.1 (all_range.1 h (k + i) (by omega))
  rw [okB_iff, getD_drop', getD_drop']
  exact ⟨h1, h2, h3, fun h0 => by have := h4 (by omega); rw [show k + i - 1 = k + (i - 1) from by omega] at this; exact this⟩
theorem mayN_of {l : Bool} {es : List En} {bs : List Br} (m1 : l = true → bs = []) (m2 : l = false → es = []) (m3 : okEs es = true) (m4 : okBs bs = true) : mayN l es bs = true := by
  simp only [mayN, m3, m4, Bool.and_true]
  cases l
  · rw [m2 rfl]; rfl
  · rw [m1 rfl]; rfl
theorem may_take {l : Bool} {es : List En} {bs : List Br} (h : mayN l es bs = true) (k : Nat) : mayN l (es.take k) (bs.take k) = true := by
  obtain ⟨m1, m2, m3, m4⟩ := mayN_iff h
  exact mayN_of (fun e => by rw [m1 e, List.take_nil]) (fun e => by rw [m2 e, List.take_nil]) (okEs_take m3 k) (okBs_take m4 k)
theorem may_drop {l : Bool} {es : List En} {bs : List Br} (h : mayN l es bs = true) (k : Nat) : mayN l (es.drop k) (bs.drop k) = true := by
  obtain ⟨m1, m2, m3, m4⟩ := mayN_iff h
  exact mayN_of (fun e => by rw [m1 e, List.drop_nil]) (fun e => by rw [m2 e, List.drop_nil]) (okEs_drop m3 k) (okBs_drop m4 k)

/-! ### sizes of the parts -/
theorem sum_low : ∀ {l : List Int} {m : Int}, (∀ x ∈ l, m ≤ x) → m * l.length ≤ l.sum
  | [], m, _ => by simp
  | a :: r, m, h => by
    have h1 := sum_low (l := r) (m := m) fun x hx => h x (List.mem_cons_of_mem _ hx)
    have h2 := h a List.mem_cons_self
    rw [List.sum_cons, List.length_cons]
    have : m * ((r.length + 1 : Nat) : Int) = m * (r.length : Int) + m := by rw [Int.natCast_add, Int.mul_add]; simp
    omega
theorem szs_low (es : List En) (bs : List Br) : ∀ x ∈ sizesF es bs, 2 ≤ x := fun x hx => by
  simp only [sizesF, List.mem_append, List.mem_map] at hx
  rcases hx with ⟨e, _, rfl⟩ | ⟨b, _, rfl⟩
  · simp only [szE]; omega
  · simp only [szB]; omega
theorem part_low {zs : List Int} (h : ∀ x ∈ zs, 2 ≤ x) {k : Nat} (h1 : 0 < k) (h2 : k < zs.length) : 2 ≤ (zs.take k).sum ∧ (zs.take k).sum + 2 ≤ zs.sum := by
  have a1 := sum_low (l := zs.take k) (m := 2) fun x hx => h x (List.mem_of_mem_take hx)
  have a2 := sum_low (l := zs.drop k) (m := 2) fun x hx => h x (List.mem_of_mem_drop hx)
  rw [sum_drop] at a2
  rw [List.length_take] at a1
  rw [List.length_drop] at a2
  omega
theorem splB_val (zs : List Int) : ∀ k, 0 < k → (splB zs k).2 = costS zs (splB zs k).1
  | 0, h => absurd h (by omega)
  | k + 1, _ => by
    rw [splB]
    split
    · rfl
    · rename_i h
      have hk : 0 < k := Nat.pos_of_ne_zero fun e => h (.inl (by rw [e]; rfl))
      exact splB_val zs k hk
theorem splB_min (zs : List Int) : ∀ k j, 0 < j → j ≤ k → (splB zs k).2 ≤ costS zs j
  | 0, j, h, h2 => absurd h (by omega)
  | k + 1, j, h, h2 => by
    rw [splB]
    split
    · rename_i hc
      by_cases e : j = k + 1
      · rw [e]; exact Int.le_refl _
      · have := splB_min zs k j h (by omega)
        rcases hc with hc | hc
        · have := splB_pos zs k (by omega); omega
        · show costS zs (k + 1) ≤ _; omega
    · rename_i hc
      by_cases e : j = k + 1
      · rw [e]
        have : ¬ costS zs (k + 1) < (splB zs k).2 := fun h => hc (.inr h)
        omega
      · exact splB_min zs k j h (by omega)
theorem first_over {p : Nat → Int} {c : Int} : ∀ n : Nat, p 0 < c → c ≤ p n → ∃ k, k < n ∧ p k < c ∧ c ≤ p (k + 1)
  | 0, h1, h2 => absurd h2 (by omega)
  | n + 1, h1, h2 => by
    by_cases h : c ≤ p n
    · obtain ⟨k, a, b, d⟩ := first_over n h1 h
      exact ⟨k, by omega, b, d⟩
    · exact ⟨n, by omega, by omega, h2⟩
theorem best_fits {zs : List Int} (h2 : ∀ x ∈ zs, 2 ≤ x ∧ x ≤ 126) (hs : 253 < zs.sum) (hs2 : zs.sum ≤ 379) : 2 ≤ zs.length ∧ costS zs (splB zs (zs.length - 1)).1 ≤ 253 := by
  have hb := (sum_range (l := zs) (m := 126) (fun x hx => ⟨by have := (h2 x hx).1; omega, (h2 x hx).2⟩) (by omega)).2
  have hl : 2 ≤ zs.length := by omega
  refine ⟨hl, ?_⟩
  obtain ⟨k, hk, k1, k2⟩ := first_over (p := fun k => (zs.take k).sum) (c := zs.sum - 253) zs.length (by simp; omega) (by simp only [List.take_length]; omega)
  have k1 : (zs.take k).sum < zs.sum - 253 := k1
  have k2 : zs.sum - 253 ≤ (zs.take (k + 1)).sum := k2
  have k3 := sum_take_snoc hk
  have k4 : zs.getD k 0 ≤ 126 := by rw [getD_lt hk]; exact (h2 _ (List.getElem_mem _)).2
  have k5 : k + 1 < zs.length := by
    rcases Nat.lt_or_ge (k + 1) zs.length with h | h
    · exact h
    · rw [List.take_of_length_le h] at k3; omega
  have m := splB_min zs (zs.length - 1) (k + 1) (by omega) (by omega)
  rw [splB_val _ _ (by omega)] at m
  refine Int.le_trans m ?_
  unfold costS imax
  split <;> omega
theorem putE_sum (l : List En) (key val : ByteArray) : ((putE l key val).map szE).sum ≤ (l.map szE).sum + szE (key, val, ()) := by
  have hlow : ∀ l : List En, 0 ≤ (l.map szE).sum := fun l => by
    have := sum_low (l := l.map szE) (m := 0) fun x hx => by
      obtain ⟨e, _, rfl⟩ := List.mem_map.1 hx
      simp only [szE]; omega
    omega
  have hd : ∀ (p q : Nat), p ≤ q → ((l.drop q).map szE).sum ≤ ((l.drop p).map szE).sum := fun p q h => by
    have e : l.drop p = (l.drop p).take (q - p) ++ l.drop q := by
      have := List.take_append_drop (q - p) (l.drop p)
      rw [List.drop_drop, show p + (q - p) = q from by omega] at this
      exact this.symm
    rw [e, List.map_append, List.sum_append]
    have := hlow ((l.drop p).take (q - p))
    omega
  have h1 : (l.map szE).sum = ((l.take (lbP (ksE l) key)).map szE).sum + ((l.drop (lbP (ksE l) key)).map szE).sum := by
    rw [← List.sum_append, ← List.map_append, List.take_append_drop]
  have h2 := hd (lbP (ksE l) key) (if atK (ksE l) key = true then lbP (ksE l) key + 1 else lbP (ksE l) key) (by split <;> omega)
  rw [putE, List.map_append, List.sum_append, List.map_cons, List.sum_cons]
  omega
theorem put_mem (l : List En) (key val : ByteArray) : (key, val, ()) ∈ putE l key val := by
  rw [putE]; exact List.mem_append_right _ List.mem_cons_self

theorem spl_facts {l : Bool} {es : List En} {bs : List Br} (h : splOk l es bs = true) (he : smallE es) (hb : smallB bs) :
    smallE (spE1 l es bs) ∧ smallB (spB1 l es bs) ∧ smallE (spE2 l es bs) ∧ smallB (spB2 l es bs) ∧ sameN (spL l es bs) ([] ++ spE1 l es bs ++ spE2 l es bs) ([] ++ spB1 l es bs ++ spB2 l es bs) l es bs = true ∧
    mayN (spL l es bs) (spE1 l es bs) (spB1 l es bs) = true ∧ mayN (spL l es bs) (spE2 l es bs) (spB2 l es bs) = true ∧
    sizeN (spE1 l es bs) (spB1 l es bs) < sizeN es bs ∧ sizeN (spE2 l es bs) (spB2 l es bs) < sizeN es bs ∧ sizeN (spE1 l es bs) (spB1 l es bs) + sizeN (spE2 l es bs) (spB2 l es bs) = sizeN es bs + 1 ∧
    imax (sizeN (spE1 l es bs) (spB1 l es bs)) (sizeN (spE2 l es bs) (spB2 l es bs)) = 1 + costS (sizesF es bs) (bestS es bs) := by
  have h' := h
  simp only [splOk, Bool.and_eq_true, decide_eq_true_eq] at h'
  obtain ⟨hm, h2⟩ := h'
  obtain ⟨m1, m2, _, _⟩ := mayN_iff hm
  obtain ⟨_, _, _, _, c5, c6⟩ := sizes_cut m1 m2 (bestS es bs)
  have b1 := splB_pos (sizesF es bs) (es.length + bs.length - 1) (by omega)
  have b2 := splB_le (sizesF es bs) (es.length + bs.length - 1)
  have p := part_low (szs_low es bs) (k := bestS es bs) b1 (by rw [sizesF_len]; rw [bestS]; omega)
  have hsz := sizeN_eq es bs
  simp only [spE1, spE2, spB1, spB2, spL, h, if_true, Bool.true_and]
  refine ⟨smallE_take he _, smallB_take hb _, smallE_drop he _, smallB_drop hb _, ?_, may_take hm _, may_drop hm _, by omega, by omega, by omega, ?_⟩
  · rw [List.nil_append, List.nil_append, List.take_append_drop, List.take_append_drop]; exact same_refl _ _ _
  · rw [c5, c6, imax_one]; rfl
theorem spC_ok {l : Bool} {es : List En} {bs : List Br} (h : (spC l es bs == 0) = true) : splOk l es bs = true := by
  unfold spC at h
  split at h
  · assumption
  · exact absurd h (by decide)
theorem put_smallE {l : List En} {key val : ByteArray} (h : l.length ≤ 200) (hm : mayN true (putE l key val) [] = true) : smallE (putE l key val) := by
  obtain ⟨_, _, m3, _⟩ := mayN_iff hm
  exact ⟨Nat.le_trans (put_le h) (by omega), fun x hx => by have := memE m3 hx; omega⟩
theorem put_split {es : List En} {key val : ByteArray} (hl : es.length ≤ 200) (hs : sizeN es [] ≤ 254) (hm : mayN true (putE es key val) [] = true) (hn : ¬ sizeN (putE es key val) [] ≤ 254) :
    splOk true (putE es key val) [] = true ∧ sizeN (spE1 true (putE es key val) []) (spB1 true (putE es key val) []) ≤ 254 ∧ sizeN (spE2 true (putE es key val) []) (spB2 true (putE es key val) []) ≤ 254 := by
  obtain ⟨_, _, m3, _⟩ := mayN_iff hm
  have e0 : ∀ l : List En, sizesF l [] = l.map szE := fun l => by simp [sizesF]
  have e1 := sizeN_eq es []
  have e2 := sizeN_eq (putE es key val) []
  rw [e0] at e1 e2
  have k1 := putE_sum es key val
  have k2 := memE m3 (put_mem es key val)
  have k3 : szE (key, val, ()) ≤ 126 := by simp only [szE]; simp only [] at k2; omega
  have hz : ∀ x ∈ (putE es key val).map szE, 2 ≤ x ∧ x ≤ 126 := fun x hx => by
    obtain ⟨y, hy, rfl⟩ := List.mem_map.1 hx
    have := memE m3 hy
    simp only [szE]; omega
  obtain ⟨b1, b2⟩ := best_fits hz (by omega) (by omega)
  rw [List.length_map] at b1 b2
  have ok : splOk true (putE es key val) [] = true := by
    simp only [splOk, hm, Bool.true_and, decide_eq_true_eq, List.length_nil]; omega
  obtain ⟨_, _, _, _, _, _, _, _, _, _, f⟩ := spl_facts ok (put_smallE hl hm) smallB_nil
  rw [e0] at f
  have f2 : costS ((putE es key val).map szE) (bestS (putE es key val) []) ≤ 253 := by rw [bestS, e0, List.length_nil, Nat.add_zero]; exact b2
  unfold imax at f
  refine ⟨ok, ?_, ?_⟩ <;> split at f <;> omega

theorem splits_fin {Z : Glob} {X : Ctx} (hX : ∀ id, X.H id = none) (hz : ZCtx Z X) (l : Bool) (es : List (CL cE)) (bs : List (CL cB)) (key val : ByteArray) (he : smallE es) (hb : smallB bs) (hl : es.length ≤ 200) :
    Safe P 10 X (Ends [tBool] (true, ())) (cLs l es bs key val) := by
  refine go hz hX tabLs_ok Try.func10 (loopLs l es bs key val) ⟨fun _ => ends_bl, fun hm => ⟨fun _ => ends_bl, fun hlf => ⟨he, hb, fun _ => ends_bl, fun hf => ?_⟩⟩⟩
  have hm : mayN l es bs = true := by simpa using hm
  have hlf : l = true := by simpa using hlf
  have hf : sizeN es bs ≤ 254 := by simpa using hf
  subst hlf
  obtain ⟨m1, _, _, _⟩ := mayN_iff hm
  have hbs : bs = [] := m1 rfl
  refine ⟨by omega, (may_srt hm).1, fun _ => ends_bl, fun hm2 => ?_⟩
  have hm2 : mayN true (putE es key val) [] = true := by simpa using hm2
  have hse := put_smallE hl hm2
  refine ⟨hse, smallB_nil, fun _ => ends_bl, fun hn => ⟨hse, smallB_nil, ?_⟩⟩
  rw [hbs] at hf
  obtain ⟨s1, s2, s3⟩ := put_split hl hf hm2 (of_decide_eq_false hn)
  obtain ⟨f1, f2, f3, f4, _⟩ := spl_facts s1 hse smallB_nil
  have hc : (spC true (putE es key val) [] == 0) = true := by unfold spC; rw [if_pos s1]; rfl
  exact yes_and hc ⟨f1, f2, yes_and (decide_eq_true s2) ⟨f3, f4, ends_t (decide_eq_true s3)⟩⟩
theorem leafSplits_ok {Z : Glob} : FnOk P Z 10 [tRN, tStr, tStr] [tBool] (fun _ => []) (fun _ => (true, ())) := by
  refine fnOk_of_safe Try.func10 (by kernel_rfl) (by kernel_rfl) ?_
  rintro ⟨⟨(l : Bool), (es : List (CL cE)), (bs : List (CL cB)), ⟨⟩⟩, (key : ByteArray), (val : ByteArray), ⟨⟩⟩ _ _ X hX hz
  show Safe P 10 X (Ends [tBool] (true, ())) _
  refine go hz hX tabLs_ok Try.func10 (treeLs l es bs key val) ⟨fun _ => ends_b, fun hL => ⟨fun _ => ends_b, fun _ => ⟨fun _ => ends_b, fun _ => no_and rfl ?_⟩⟩⟩
  obtain ⟨hl1, hl2, _, _⟩ := notLarge hL
  have hel : es.length ≤ 200 := hl1
  have hbl : bs.length ≤ 200 := hl2
  have he : smallE es := smallE_of hL
  have hb : smallB bs := smallB_of hL
  have fin := splits_fin hX hz l es bs key val he hb hel
  refine ⟨by omega, by omega, he, hb, fun hc => ?_, fun _ => fin⟩
  obtain ⟨f1, f2, f3, f4, f5, f6, f7, f8, f9, f10, _⟩ := spl_facts (spC_ok hc) he hb
  have g1 := f1.1
  have g2 := f2.1
  have g3 := f3.1
  have g4 := f4.1
  have g0 : 0 ≤ sizeN es bs ∧ sizeN es bs ≤ 100000000 := by
    have := pre_range (szs_range he hb) (by have := sizesF_len es bs; omega) (sizesF es bs).length
    rw [List.take_length] at this
    have := sizeN_eq es bs
    omega
  have n1 : ([] ++ spE1 l es bs).length = (spE1 l es bs).length := by rw [List.nil_append]
  have n2 : ([] ++ spB1 l es bs).length = (spB1 l es bs).length := by rw [List.nil_append]
  refine ⟨by omega, by omega, by omega, by omega, no_and (by rw [f5]; rfl) ⟨f1, f2, he, hb, no_and (decide_eq_false (by omega)) ⟨f3, f4, he, hb, no_and (decide_eq_false (by omega)) (no_and (by rw [f6]; rfl) (no_and (by rw [f7]; rfl)
    ⟨f1, f2, f3, f4, ?_, he, hb, ?_, no_and (by simp [f10]) fin⟩))⟩⟩⟩
  · rw [f10]; exact ⟨by omega, by omega⟩
  · exact ⟨by omega, by omega⟩
end Lf
