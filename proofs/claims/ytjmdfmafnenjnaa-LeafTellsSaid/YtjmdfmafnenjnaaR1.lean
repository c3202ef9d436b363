import Derived.Test.YtjmdfmafnenjnaaL8
namespace Lf
open Go Go.Sx Go.Proofs
abbrev eRN : TypeId := 25
def nsRMay : List (Nat × Norm) := [(4, ⟨[], [1, 3], 0, []⟩), (10, ⟨[], [1, 5], 0, []⟩)]
noncomputable def cRMay1 (l : Bool) (es : List En) (bs : List Br) (i : Int) : Cfg := ⟨sl 130 [(1, .ptr 0 0), (3, .s (.int .i64 i))], [obN l es bs eRN], hd Try.f40 4⟩
noncomputable def cRMay2 (l : Bool) (es : List En) (bs : List Br) (i : Int) : Cfg := ⟨sl 130 [(1, .ptr 0 0), (5, .s (.int .i64 i))], [obN l es bs eRN], hd Try.f40 10⟩
theorem treeRMay (l : Bool) (es : List En) (bs : List Br) : run P tab0.sum Try.f40 nsRMay (start Try.f40 [avN l es bs] []) =
  Tree.ite l (Tree.ite (decide ((↑bs.length : Int) > (0 : Int))) (Tree.ret [AObj.own [AV.s (SV.bool l), AV.s (SV.ro (Con.typ [CK.str, CK.str] es)), AV.s (SV.ro (Con.typ [CK.str, CK.int IntKind.i64] bs))] (25 : Nat)] (AV.s (SV.blit false))) (Tree.ite (!l) (Tree.ite (decide ((↑es.length : Int) > (0 : Int))) (Tree.ret [AObj.own [AV.s (SV.bool l), AV.s (SV.ro (Con.typ [CK.str, CK.str] es)), AV.s (SV.ro (Con.typ [CK.str, CK.int IntKind.i64] bs))] (25 : Nat)] (AV.s (SV.blit false))) (Tree.at (Cfg.mk (sl (130 : Nat) [((1 : Nat), AV.ptr (0 : Nat) (0 : Nat)), ((3 : Nat), AV.s (SV.int IntKind.i64 (0 : Int)))]) [AObj.own [AV.s (SV.bool l), AV.s (SV.ro (Con.typ [CK.str, CK.str] es)), AV.s (SV.ro (Con.typ [CK.str, CK.int IntKind.i64] bs))] (25 : Nat)] (hd Try.f40 (4 : Nat))))) (Tree.at (Cfg.mk (sl (130 : Nat) [((1 : Nat), AV.ptr (0 : Nat) (0 : Nat)), ((3 : Nat), AV.s (SV.int IntKind.i64 (0 : Int)))]) [AObj.own [AV.s (SV.bool l), AV.s (SV.ro (Con.typ [CK.str, CK.str] es)), AV.s (SV.ro (Con.typ [CK.str, CK.int IntKind.i64] bs))] (25 : Nat)] (hd Try.f40 (4 : Nat)))))) (Tree.ite (!l) (Tree.ite (decide ((↑es.length : Int) > (0 : Int))) (Tree.ret [AObj.own [AV.s (SV.bool l), AV.s (SV.ro (Con.typ [CK.str, CK.str] es)), AV.s (SV.ro (Con.typ [CK.str, CK.int IntKind.i64] bs))] (25 : Nat)] (AV.s (SV.blit false))) (Tree.at (Cfg.mk (sl (130 : Nat) [((1 : Nat), AV.ptr (0 : Nat) (0 : Nat)), ((3 : Nat), AV.s (SV.int IntKind.i64 (0 : Int)))]) [AObj.own [AV.s (SV.bool l), AV.s (SV.ro (Con.typ [CK.str, CK.str] es)), AV.s (SV.ro (Con.typ [CK.str, CK.int IntKind.i64] bs))] (25 : Nat)] (hd Try.f40 (4 : Nat))))) (Tree.at (Cfg.mk (sl (130 : Nat) [((1 : Nat), AV.ptr (0 : Nat) (0 : Nat)), ((3 : Nat), AV.s (SV.int IntKind.i64 (0 : Int)))]) [AObj.own [AV.s (SV.bool l), AV.s (SV.ro (Con.typ [CK.str, CK.str] es)), AV.s (SV.ro (Con.typ [CK.str, CK.int IntKind.i64] bs))] (25 : Nat)] (hd Try.f40 (4 : Nat))))) := by kernel_rfl
theorem loopRMay1 (l : Bool) (es : List En) (bs : List Br) (i : Int) : run P tab0.sum Try.f40 nsRMay (cRMay1 l es bs i) =
  Tree.ite (decide (i < (↑es.length : Int))) (Tree.need ((0 : Int) ≤ i) (Tree.need (i < (↑es.length : Int)) (Tree.ite (decide ((↑(ByteArray.size (es.getD i.toNat (CL.d [CK.str, CK.str])).fst) : Int) < (1 : Int))) (Tree.ret [AObj.own [AV.s (SV.bool l), AV.s (SV.ro (Con.typ [CK.str, CK.str] es)), AV.s (SV.ro (Con.typ [CK.str, CK.int IntKind.i64] bs))] (25 : Nat)] (AV.s (SV.blit false))) (Tree.ite (decide ((↑(ByteArray.size (es.getD i.toNat (CL.d [CK.str, CK.str])).fst) : Int) > (24 : Int))) (Tree.ret [AObj.own [AV.s (SV.bool l), AV.s (SV.ro (Con.typ [CK.str, CK.str] es)), AV.s (SV.ro (Con.typ [CK.str, CK.int IntKind.i64] bs))] (25 : Nat)] (AV.s (SV.blit false))) (Tree.need ((0 : Int) ≤ i) (Tree.need (i < (↑es.length : Int)) (Tree.ite (decide ((↑(ByteArray.size (es.getD i.toNat (CL.d [CK.str, CK.str])).snd.fst) : Int) > (100 : Int))) (Tree.ret [AObj.own [AV.s (SV.bool l), AV.s (SV.ro (Con.typ [CK.str, CK.str] es)), AV.s (SV.ro (Con.typ [CK.str, CK.int IntKind.i64] bs))] (25 : Nat)] (AV.s (SV.blit false))) (Tree.ite (decide (i > (0 : Int))) (Tree.need (inI64 (i - (1 : Int))) (Tree.need ((0 : Int) ≤ i - (1 : Int)) (Tree.need (i - (1 : Int) < (↑es.length : Int)) (Tree.ite (!slt (es.getD (i - (1 : Int)).toNat (CL.d [CK.str, CK.str])).fst (es.getD i.toNat (CL.d [CK.str, CK.str])).fst) (Tree.ret [AObj.own [AV.s (SV.bool l), AV.s (SV.ro (Con.typ [CK.str, CK.str] es)), AV.s (SV.ro (Con.typ [CK.str, CK.int IntKind.i64] bs))] (25 : Nat)] (AV.s (SV.blit false))) (Tree.need (inI64 (i + (1 : Int))) (Tree.at (Cfg.mk (sl (130 : Nat) [((1 : Nat), AV.ptr (0 : Nat) (0 : Nat)), ((3 : Nat), AV.s (SV.int IntKind.i64 (i + (1 : Int))))]) [AObj.own [AV.s (SV.bool l), AV.s (SV.ro (Con.typ [CK.str, CK.str] es)), AV.s (SV.ro (Con.typ [CK.str, CK.int IntKind.i64] bs))] (25 : Nat)] (hd Try.f40 (4 : Nat))))))))) (Tree.need (inI64 (i + (1 : Int))) (Tree.at (Cfg.mk (sl (130 : Nat) [((1 : Nat), AV.ptr (0 : Nat) (0 : Nat)), ((3 : Nat), AV.s (SV.int IntKind.i64 (i + (1 : Int))))]) [AObj.own [AV.s (SV.bool l), AV.s (SV.ro (Con.typ [CK.str, CK.str] es)), AV.s (SV.ro (Con.typ [CK.str, CK.int IntKind.i64] bs))] (25 : Nat)] (hd Try.f40 (4 : Nat))))))))))))) (Tree.at (Cfg.mk (sl (130 : Nat) [((1 : Nat), AV.ptr (0 : Nat) (0 : Nat)), ((5 : Nat), AV.s (SV.int IntKind.i64 (0 : Int)))]) [AObj.own [AV.s (SV.bool l), AV.s (SV.ro (Con.typ [CK.str, CK.str] es)), AV.s (SV.ro (Con.typ [CK.str, CK.int IntKind.i64] bs))] (25 : Nat)] (hd Try.f40 (10 : Nat)))) := by kernel_rfl
theorem loopRMay2 (l : Bool) (es : List En) (bs : List Br) (i : Int) : run P tab0.sum Try.f40 nsRMay (cRMay2 l es bs i) =
  Tree.ite (decide (i < (↑bs.length : Int)))
  (Tree.need ((0 : Int) ≤ i)
    (Tree.need (i < (↑bs.length : Int))
      (Tree.ite (decide (i > (0 : Int))) (Tree.ite (decide ((↑(ByteArray.size (bs.getD i.toNat (CL.d [CK.str, CK.int IntKind.i64])).fst) : Int) < (1 : Int))) (Tree.ret [AObj.own [AV.s (SV.bool l), AV.s (SV.ro (Con.typ [CK.str, CK.str] es)), AV.s (SV.ro (Con.typ [CK.str, CK.int IntKind.i64] bs))] (25 : Nat)] (AV.s (SV.blit false))) (Tree.ite (decide ((↑(ByteArray.size (bs.getD i.toNat (CL.d [CK.str, CK.int IntKind.i64])).fst) : Int) > (24 : Int))) (Tree.ret [AObj.own [AV.s (SV.bool l), AV.s (SV.ro (Con.typ [CK.str, CK.str] es)), AV.s (SV.ro (Con.typ [CK.str, CK.int IntKind.i64] bs))] (25 : Nat)] (AV.s (SV.blit false))) (Tree.need ((0 : Int) ≤ i) (Tree.need (i < (↑bs.length : Int)) (Tree.ite (decide ((bs.getD i.toNat (CL.d [CK.str, CK.int IntKind.i64])).snd.fst < (2 : Int))) (Tree.ret [AObj.own [AV.s (SV.bool l), AV.s (SV.ro (Con.typ [CK.str, CK.str] es)), AV.s (SV.ro (Con.typ [CK.str, CK.int IntKind.i64] bs))] (25 : Nat)] (AV.s (SV.blit false))) (Tree.need ((0 : Int) ≤ i) (Tree.need (i < (↑bs.length : Int)) (Tree.ite (decide ((bs.getD i.toNat (CL.d [CK.str, CK.int IntKind.i64])).snd.fst > (1023 : Int))) (Tree.ret [AObj.own [AV.s (SV.bool l), AV.s (SV.ro (Con.typ [CK.str, CK.str] es)), AV.s (SV.ro (Con.typ [CK.str, CK.int IntKind.i64] bs))] (25 : Nat)] (AV.s (SV.blit false))) (Tree.ite (decide (i > (0 : Int))) (Tree.need (inI64 (i - (1 : Int))) (Tree.need ((0 : Int) ≤ i - (1 : Int)) (Tree.need (i - (1 : Int) < (↑bs.length : Int)) (Tree.ite (!slt (bs.getD (i - (1 : Int)).toNat (CL.d [CK.str, CK.int IntKind.i64])).fst (bs.getD i.toNat (CL.d [CK.str, CK.int IntKind.i64])).fst) (Tree.ret [AObj.own [AV.s (SV.bool l), AV.s (SV.ro (Con.typ [CK.str, CK.str] es)), AV.s (SV.ro (Con.typ [CK.str, CK.int IntKind.i64] bs))] (25 : Nat)] (AV.s (SV.blit false))) (Tree.need (inI64 (i + (1 : Int))) (Tree.at (Cfg.mk (sl (130 : Nat) [((1 : Nat), AV.ptr (0 : Nat) (0 : Nat)), ((5 : Nat), AV.s (SV.int IntKind.i64 (i + (1 : Int))))]) [AObj.own [AV.s (SV.bool l), AV.s (SV.ro (Con.typ [CK.str, CK.str] es)), AV.s (SV.ro (Con.typ [CK.str, CK.int IntKind.i64] bs))] (25 : Nat)] (hd Try.f40 (10 : Nat))))))))) (Tree.need (inI64 (i + (1 : Int))) (Tree.at (Cfg.mk (sl (130 : Nat) [((1 : Nat), AV.ptr (0 : Nat) (0 : Nat)), ((5 : Nat), AV.s (SV.int IntKind.i64 (i + (1 : Int))))]) [AObj.own [AV.s (SV.bool l), AV.s (SV.ro (Con.typ [CK.str, CK.str] es)), AV.s (SV.ro (Con.typ [CK.str, CK.int IntKind.i64] bs))] (25 : Nat)] (hd Try.f40 (10 : Nat))))))))))))))
        (Tree.ite (decide ((↑(ByteArray.size (bs.getD i.toNat (CL.d [CK.str, CK.int IntKind.i64])).fst) : Int) > (24 : Int))) (Tree.ret [AObj.own [AV.s (SV.bool l), AV.s (SV.ro (Con.typ [CK.str, CK.str] es)), AV.s (SV.ro (Con.typ [CK.str, CK.int IntKind.i64] bs))] (25 : Nat)] (AV.s (SV.blit false))) (Tree.need ((0 : Int) ≤ i) (Tree.need (i < (↑bs.length : Int)) (Tree.ite (decide ((bs.getD i.toNat (CL.d [CK.str, CK.int IntKind.i64])).snd.fst < (2 : Int))) (Tree.ret [AObj.own [AV.s (SV.bool l), AV.s (SV.ro (Con.typ [CK.str, CK.str] es)), AV.s (SV.ro (Con.typ [CK.str, CK.int IntKind.i64] bs))] (25 : Nat)] (AV.s (SV.blit false))) (Tree.need ((0 : Int) ≤ i) (Tree.need (i < (↑bs.length : Int)) (Tree.ite (decide ((bs.getD i.toNat (CL.d [CK.str, CK.int IntKind.i64])).snd.fst > (1023 : Int))) (Tree.ret [AObj.own [AV.s (SV.bool l), AV.s (SV.ro (Con.typ [CK.str, CK.str] es)), AV.s (SV.ro (Con.typ [CK.str, CK.int IntKind.i64] bs))] (25 : Nat)] (AV.s (SV.blit false))) (Tree.ite (decide (i > (0 : Int))) (Tree.need (inI64 (i - (1 : Int))) (Tree.need ((0 : Int) ≤ i - (1 : Int)) (Tree.need (i - (1 : Int) < (↑bs.length : Int)) (Tree.ite (!slt (bs.getD (i - (1 : Int)).toNat (CL.d [CK.str, CK.int IntKind.i64])).fst (bs.getD i.toNat (CL.d [CK.str, CK.int IntKind.i64])).fst) (Tree.ret [AObj.own [AV.s (SV.bool l), AV.s (SV.ro (Con.typ [CK.str, CK.str] es)), AV.s (SV.ro (Con.typ [CK.str, CK.int IntKind.i64] bs))] (25 : Nat)] (AV.s (SV.blit false))) (Tree.need (inI64 (i + (1 : Int))) (Tree.at (Cfg.mk (sl (130 : Nat) [((1 : Nat), AV.ptr (0 : Nat) (0 : Nat)), ((5 : Nat), AV.s (SV.int IntKind.i64 (i + (1 : Int))))]) [AObj.own [AV.s (SV.bool l), AV.s (SV.ro (Con.typ [CK.str, CK.str] es)), AV.s (SV.ro (Con.typ [CK.str, CK.int IntKind.i64] bs))] (25 : Nat)] (hd Try.f40 (10 : Nat))))))))) (Tree.need (inI64 (i + (1 : Int))) (Tree.at (Cfg.mk (sl (130 : Nat) [((1 : Nat), AV.ptr (0 : Nat) (0 : Nat)), ((5 : Nat), AV.s (SV.int IntKind.i64 (i + (1 : Int))))]) [AObj.own [AV.s (SV.bool l), AV.s (SV.ro (Con.typ [CK.str, CK.str] es)), AV.s (SV.ro (Con.typ [CK.str, CK.int IntKind.i64] bs))] (25 : Nat)] (hd Try.f40 (10 : Nat))))))))))))))))
  (Tree.ret [AObj.own [AV.s (SV.bool l), AV.s (SV.ro (Con.typ [CK.str, CK.str] es)), AV.s (SV.ro (Con.typ [CK.str, CK.int IntKind.i64] bs))] (25 : Nat)] (AV.s (SV.blit true))) := by kernel_rfl
def nsRSize : List (Nat × Norm) := [(3, ⟨[], [1, 3, 4], 0, []⟩), (7, ⟨[], [1, 3, 5], 0, []⟩)]
noncomputable def cRSize1 (l : Bool) (es : List En) (bs : List Br) (a i : Int) : Cfg := ⟨sl 49 [(1, .ptr 0 0), (3, .s (.int .i64 a)), (4, .s (.int .i64 i))], [obN l es bs eRN], hd Try.f41 3⟩
noncomputable def cRSize2 (l : Bool) (es : List En) (bs : List Br) (a i : Int) : Cfg := ⟨sl 49 [(1, .ptr 0 0), (3, .s (.int .i64 a)), (5, .s (.int .i64 i))], [obN l es bs eRN], hd Try.f41 7⟩
theorem treeRSize (l : Bool) (es : List En) (bs : List Br) : run P tab0.sum Try.f41 nsRSize (start Try.f41 [avN l es bs] []) =
  Tree.at (Cfg.mk (sl (49 : Nat) [((1 : Nat), AV.ptr (0 : Nat) (0 : Nat)), ((3 : Nat), AV.s (SV.int IntKind.i64 (1 : Int))), ((4 : Nat), AV.s (SV.int IntKind.i64 (0 : Int)))]) [AObj.own [AV.s (SV.bool l), AV.s (SV.ro (Con.typ [CK.str, CK.str] es)), AV.s (SV.ro (Con.typ [CK.str, CK.int IntKind.i64] bs))] (25 : Nat)] (hd Try.f41 (3 : Nat))) := by kernel_rfl
theorem loopRSize1 (l : Bool) (es : List En) (bs : List Br) (a i : Int) : run P tab0.sum Try.f41 nsRSize (cRSize1 l es bs a i) =
  Tree.ite (decide (i < (↑es.length : Int))) (Tree.need (inI64 (a + (2 : Int))) (Tree.need ((0 : Int) ≤ i) (Tree.need (i < (↑es.length : Int)) (Tree.need (inI64 (a + (2 : Int) + (↑(ByteArray.size (es.getD i.toNat (CL.d [CK.str, CK.str])).fst) : Int))) (Tree.need ((0 : Int) ≤ i) (Tree.need (i < (↑es.length : Int)) (Tree.need (inI64 (a + (2 : Int) + (↑(ByteArray.size (es.getD i.toNat (CL.d [CK.str, CK.str])).fst) : Int) + (↑(ByteArray.size (es.getD i.toNat (CL.d [CK.str, CK.str])).snd.fst) : Int))) (Tree.need (inI64 (i + (1 : Int))) (Tree.at (Cfg.mk (sl (49 : Nat) [((1 : Nat), AV.ptr (0 : Nat) (0 : Nat)), ((3 : Nat), AV.s (SV.int IntKind.i64 (a + (2 : Int) + (↑(ByteArray.size (es.getD i.toNat (CL.d [CK.str, CK.str])).fst) : Int) + (↑(ByteArray.size (es.getD i.toNat (CL.d [CK.str, CK.str])).snd.fst) : Int)))), ((4 : Nat), AV.s (SV.int IntKind.i64 (i + (1 : Int))))]) [AObj.own [AV.s (SV.bool l), AV.s (SV.ro (Con.typ [CK.str, CK.str] es)), AV.s (SV.ro (Con.typ [CK.str, CK.int IntKind.i64] bs))] (25 : Nat)] (hd Try.f41 (3 : Nat)))))))))))) (Tree.at (Cfg.mk (sl (49 : Nat) [((1 : Nat), AV.ptr (0 : Nat) (0 : Nat)), ((3 : Nat), AV.s (SV.int IntKind.i64 a)), ((5 : Nat), AV.s (SV.int IntKind.i64 (0 : Int)))]) [AObj.own [AV.s (SV.bool l), AV.s (SV.ro (Con.typ [CK.str, CK.str] es)), AV.s (SV.ro (Con.typ [CK.str, CK.int IntKind.i64] bs))] (25 : Nat)] (hd Try.f41 (7 : Nat)))) := by kernel_rfl
theorem loopRSize2 (l : Bool) (es : List En) (bs : List Br) (a i : Int) : run P tab0.sum Try.f41 nsRSize (cRSize2 l es bs a i) =
  Tree.ite (decide (i < (↑bs.length : Int))) (Tree.need (inI64 (a + (3 : Int))) (Tree.need ((0 : Int) ≤ i) (Tree.need (i < (↑bs.length : Int)) (Tree.need (inI64 (a + (3 : Int) + (↑(ByteArray.size (bs.getD i.toNat (CL.d [CK.str, CK.int IntKind.i64])).fst) : Int))) (Tree.need (inI64 (i + (1 : Int))) (Tree.at (Cfg.mk (sl (49 : Nat) [((1 : Nat), AV.ptr (0 : Nat) (0 : Nat)), ((3 : Nat), AV.s (SV.int IntKind.i64 (a + (3 : Int) + (↑(ByteArray.size (bs.getD i.toNat (CL.d [CK.str, CK.int IntKind.i64])).fst) : Int)))), ((5 : Nat), AV.s (SV.int IntKind.i64 (i + (1 : Int))))]) [AObj.own [AV.s (SV.bool l), AV.s (SV.ro (Con.typ [CK.str, CK.str] es)), AV.s (SV.ro (Con.typ [CK.str, CK.int IntKind.i64] bs))] (25 : Nat)] (hd Try.f41 (7 : Nat))))))))) (Tree.ret [AObj.own [AV.s (SV.bool l), AV.s (SV.ro (Con.typ [CK.str, CK.str] es)), AV.s (SV.ro (Con.typ [CK.str, CK.int IntKind.i64] bs))] (25 : Nat)] (AV.s (SV.int IntKind.i64 a))) := by kernel_rfl
abbrev sRSize := sumOf [tRN] [tInt] (fun ((_, es, bs, ()), ()) => [smallE es, smallB bs]) (fun ((_, es, bs, ()), ()) => (sizeN es bs, ()))
def tabRFi : Tab := [(41, sRSize)]
theorem treeRFits (l : Bool) (es : List En) (bs : List Br) : run P tabRFi.sum Try.f42 [] (start Try.f42 [avN l es bs] []) =
  Tree.need (smallE es) (Tree.need (smallB bs) (Tree.ret [AObj.own [AV.s (SV.bool l), AV.s (SV.ro (Con.typ [CK.str, CK.str] es)), AV.s (SV.ro (Con.typ [CK.str, CK.int IntKind.i64] bs))] (25 : Nat)] (AV.s (SV.bool (decide (sizeN es bs ≤ (254 : Int))))))) := by kernel_rfl
def nsREnts : List (Nat × Norm) := [(4, ⟨[], [0, 1, 5], 0, []⟩)]
noncomputable def cREnts (a b : List En) (i : Int) : Cfg := ⟨sl 26 [(0, .s (.ro (.typ cE a))), (1, .s (.ro (.typ cE b))), (5, .s (.int .i64 i))], [], hd Try.f53 4⟩
theorem treeREnts (a b : List En) : run P tab0.sum Try.f53 nsREnts (start Try.f53 [.s (.ro (.typ cE a)), .s (.ro (.typ cE b))] []) =
  Tree.ite ((↑a.length : Int) != (↑b.length : Int)) (Tree.ret [] (AV.s (SV.blit false))) (Tree.at (Cfg.mk (sl (26 : Nat) [((0 : Nat), AV.s (SV.ro (Con.typ [CK.str, CK.str] a))), ((1 : Nat), AV.s (SV.ro (Con.typ [CK.str, CK.str] b))), ((5 : Nat), AV.s (SV.int IntKind.i64 (0 : Int)))]) [] (hd Try.f53 (4 : Nat)))) := by kernel_rfl
theorem loopREnts (a b : List En) (i : Int) : run P tab0.sum Try.f53 nsREnts (cREnts a b i) =
  Tree.ite (decide (i < (↑a.length : Int))) (Tree.need ((0 : Int) ≤ i) (Tree.need (i < (↑a.length : Int)) (Tree.need ((0 : Int) ≤ i) (Tree.need (i < (↑b.length : Int)) (Tree.ite (!(decide ((a.getD i.toNat (CL.d [CK.str, CK.str])).fst = (b.getD i.toNat (CL.d [CK.str, CK.str])).fst) && (decide ((a.getD i.toNat (CL.d [CK.str, CK.str])).snd.fst = (b.getD i.toNat (CL.d [CK.str, CK.str])).snd.fst) && true))) (Tree.ret [] (AV.s (SV.blit false))) (Tree.need (inI64 (i + (1 : Int))) (Tree.at (Cfg.mk (sl (26 : Nat) [((0 : Nat), AV.s (SV.ro (Con.typ [CK.str, CK.str] a))), ((1 : Nat), AV.s (SV.ro (Con.typ [CK.str, CK.str] b))), ((5 : Nat), AV.s (SV.int IntKind.i64 (i + (1 : Int))))]) [] (hd Try.f53 (4 : Nat)))))))))) (Tree.ret [] (AV.s (SV.blit true))) := by kernel_rfl
abbrev sREnts := sumOf [tREs, tREs] [tBool] (fun _ => []) (fun (a, b, ()) => (eqEs a b, ()))
def tabRSame : Tab := [(53, sREnts)]
def nsRSame : List (Nat × Norm) := [(4, ⟨[], [2, 3, 5], 0, []⟩)]
noncomputable def cRSame (l l' : Bool) (a b : List En) (c d : List Br) (i : Int) : Cfg := ⟨sl 46 [(2, .ptr 0 0), (3, .ptr 1 0), (5, .s (.int .i64 i))], [obN l a c eRN, obN l' b d eRN], hd Try.f43 4⟩
theorem treeRSame (l l' : Bool) (a b : List En) (c d : List Br) : run P tabRSame.sum Try.f43 nsRSame (start Try.f43 [avN l a c, avN l' b d] []) =
  Tree.ite (!l == l') (Tree.ret [AObj.own [AV.s (SV.bool l), AV.s (SV.ro (Con.typ [CK.str, CK.str] a)), AV.s (SV.ro (Con.typ [CK.str, CK.int IntKind.i64] c))] (25 : Nat), AObj.own [AV.s (SV.bool l'), AV.s (SV.ro (Con.typ [CK.str, CK.str] b)), AV.s (SV.ro (Con.typ [CK.str, CK.int IntKind.i64] d))] (25 : Nat)] (AV.s (SV.blit false))) (Tree.ite (!eqEs a b) (Tree.ret [AObj.own [AV.s (SV.bool l), AV.s (SV.ro (Con.typ [CK.str, CK.str] a)), AV.s (SV.ro (Con.typ [CK.str, CK.int IntKind.i64] c))] (25 : Nat), AObj.own [AV.s (SV.bool l'), AV.s (SV.ro (Con.typ [CK.str, CK.str] b)), AV.s (SV.ro (Con.typ [CK.str, CK.int IntKind.i64] d))] (25 : Nat)] (AV.s (SV.blit false))) (Tree.ite ((↑c.length : Int) != (↑d.length : Int)) (Tree.ret [AObj.own [AV.s (SV.bool l), AV.s (SV.ro (Con.typ [CK.str, CK.str] a)), AV.s (SV.ro (Con.typ [CK.str, CK.int IntKind.i64] c))] (25 : Nat), AObj.own [AV.s (SV.bool l'), AV.s (SV.ro (Con.typ [CK.str, CK.str] b)), AV.s (SV.ro (Con.typ [CK.str, CK.int IntKind.i64] d))] (25 : Nat)] (AV.s (SV.blit false))) (Tree.at (Cfg.mk (sl (46 : Nat) [((2 : Nat), AV.ptr (0 : Nat) (0 : Nat)), ((3 : Nat), AV.ptr (1 : Nat) (0 : Nat)), ((5 : Nat), AV.s (SV.int IntKind.i64 (0 : Int)))]) [AObj.own [AV.s (SV.bool l), AV.s (SV.ro (Con.typ [CK.str, CK.str] a)), AV.s (SV.ro (Con.typ [CK.str, CK.int IntKind.i64] c))] (25 : Nat), AObj.own [AV.s (SV.bool l'), AV.s (SV.ro (Con.typ [CK.str, CK.str] b)), AV.s (SV.ro (Con.typ [CK.str, CK.int IntKind.i64] d))] (25 : Nat)] (hd Try.f43 (4 : Nat)))))) := by kernel_rfl
theorem loopRSame (l l' : Bool) (a b : List En) (c d : List Br) (i : Int) : run P tabRSame.sum Try.f43 nsRSame (cRSame l l' a b c d i) =
  Tree.ite (decide (i < (↑c.length : Int))) (Tree.need ((0 : Int) ≤ i) (Tree.need (i < (↑c.length : Int)) (Tree.need ((0 : Int) ≤ i) (Tree.need (i < (↑d.length : Int)) (Tree.ite (!(decide ((c.getD i.toNat (CL.d [CK.str, CK.int IntKind.i64])).fst = (d.getD i.toNat (CL.d [CK.str, CK.int IntKind.i64])).fst) && ((c.getD i.toNat (CL.d [CK.str, CK.int IntKind.i64])).snd.fst == (d.getD i.toNat (CL.d [CK.str, CK.int IntKind.i64])).snd.fst && true))) (Tree.ret [AObj.own [AV.s (SV.bool l), AV.s (SV.ro (Con.typ [CK.str, CK.str] a)), AV.s (SV.ro (Con.typ [CK.str, CK.int IntKind.i64] c))] (25 : Nat), AObj.own [AV.s (SV.bool l'), AV.s (SV.ro (Con.typ [CK.str, CK.str] b)), AV.s (SV.ro (Con.typ [CK.str, CK.int IntKind.i64] d))] (25 : Nat)] (AV.s (SV.blit false))) (Tree.need (inI64 (i + (1 : Int))) (Tree.at (Cfg.mk (sl (46 : Nat) [((2 : Nat), AV.ptr (0 : Nat) (0 : Nat)), ((3 : Nat), AV.ptr (1 : Nat) (0 : Nat)), ((5 : Nat), AV.s (SV.int IntKind.i64 (i + (1 : Int))))]) [AObj.own [AV.s (SV.bool l), AV.s (SV.ro (Con.typ [CK.str, CK.str] a)), AV.s (SV.ro (Con.typ [CK.str, CK.int IntKind.i64] c))] (25 : Nat), AObj.own [AV.s (SV.bool l'), AV.s (SV.ro (Con.typ [CK.str, CK.str] b)), AV.s (SV.ro (Con.typ [CK.str, CK.int IntKind.i64] d))] (25 : Nat)] (hd Try.f43 (4 : Nat)))))))))) (Tree.ret [AObj.own [AV.s (SV.bool l), AV.s (SV.ro (Con.typ [CK.str, CK.str] a)), AV.s (SV.ro (Con.typ [CK.str, CK.int IntKind.i64] c))] (25 : Nat), AObj.own [AV.s (SV.bool l'), AV.s (SV.ro (Con.typ [CK.str, CK.str] b)), AV.s (SV.ro (Con.typ [CK.str, CK.int IntKind.i64] d))] (25 : Nat)] (AV.s (SV.blit true))) := by kernel_rfl
theorem okE_iff {es : List En} {k : Nat} : okE es k = true ↔ (1 ≤ (es.getD k dE).1.size ∧ (es.getD k dE).1.size ≤ 24 ∧ (es.getD k dE).2.1.size ≤ 100 ∧ (0 < k → slt (es.getD (k - 1) dE).1 (es.getD k dE).1 = true)) := by
  simp only [okE, Bool.not_eq_true', Bool.or_eq_false_iff, Bool.and_eq_false_iff, decide_eq_false_iff_not, Bool.not_eq_false']
  constructor
  · rintro ⟨⟨⟨h1, h2⟩, h3⟩, h4⟩
    exact ⟨Nat.pos_of_ne_zero fun e => h1 (size_zero e), by omega, by omega, fun h => h4.resolve_left (fun g => g h)⟩
  · rintro ⟨h1, h2, h3, h4⟩
    exact ⟨⟨⟨fun e => (by rw [e] at h1; simp at h1), by omega⟩, by omega⟩, (Decidable.em (0 < k)).elim (fun h => .inr (h4 h)) .inl⟩
theorem okB_iff {bs : List Br} {k : Nat} : okB bs k = true ↔ ((bs.getD k dB).1.size ≤ 24 ∧ 2 ≤ (bs.getD k dB).2.1 ∧ (bs.getD k dB).2.1 ≤ 1023 ∧ (0 < k → slt (bs.getD (k - 1) dB).1 (bs.getD k dB).1 = true)) := by
  simp only [okB, Bool.not_eq_true', Bool.or_eq_false_iff, Bool.and_eq_false_iff, decide_eq_false_iff_not, Bool.not_eq_false']
  constructor
  · rintro ⟨⟨⟨h1, h2⟩, h3⟩, h4⟩
    exact ⟨by omega, by omega, by omega, fun h => h4.resolve_left (fun g => g h)⟩
  · rintro ⟨h1, h2, h3, h4⟩
    exact ⟨⟨⟨by omega, by omega⟩, by omega⟩, (Decidable.em (0 < k)).elim (fun h => .inr (h4 h)) .inl⟩
theorem slt_pos {a b : ByteArray} (h : slt a b = true) : 1 ≤ b.size := Nat.pos_of_ne_zero fun e => by rw [size_zero e, slt_empty] at h; cases h

theorem rmay_ok {Z : Glob} : FnOk P Z 40 [tRN] [tBool] (fun _ => []) (fun ((l, es, bs, ()), ()) => (mayN l es bs, ())) := by
  refine fnOk_of_safe Try.func40 (by kernel_rfl) (by kernel_rfl) ?_
  rintro ⟨⟨(l : Bool), (es : List En), (bs : List Br), ⟨⟩⟩, ⟨⟩⟩ ⟨⟨_, hle, hlb, _⟩, _⟩ _ X hX hz
  have hle : es.length ≤ 9223372036854775807 := hle
  have hlb : bs.length ≤ 9223372036854775807 := hlb
  have second : okEs es = true → mayN l es bs = okBs bs → ∀ (n k : Nat), k + n = bs.length → (∀ j, j < k → okB bs j = true) → Safe P 40 X (Ends [tBool] (mayN l es bs, ())) (cRMay2 l es bs (k : Int)) := by
    intro he hm n
    induction n with
    | zero =>
      intro k hk hp
      refine go hz hX Tab.Ok.nil Try.func40 (loopRMay2 l es bs k) ⟨fun h => absurd (of_decide_eq_true h) (by omega), fun h => ends_isl ?_⟩
      rw [hm]
      exact all_yes (fun j hj => hp j (by omega))
    | succ n ih =>
      intro k hk hp
      have no : ¬ (((bs.getD k dB).1.size ≤ 24 ∧ 2 ≤ (bs.getD k dB).2.1 ∧ (bs.getD k dB).2.1 ≤ 1023 ∧ (0 < k → slt (bs.getD (k - 1) dB).1 (bs.getD k dB).1 = true))) → mayN l es bs = false := fun h => by
        rw [hm]; exact all_no (i := k) (by omega) (Bool.eq_false_iff.2 fun e => h (okB_iff.1 e))
      have yes : ((bs.getD k dB).1.size ≤ 24 ∧ 2 ≤ (bs.getD k dB).2.1 ∧ (bs.getD k dB).2.1 ≤ 1023 ∧ (0 < k → slt (bs.getD (k - 1) dB).1 (bs.getD k dB).1 = true)) → Safe P 40 X (Ends [tBool] (mayN l es bs, ())) (cRMay2 l es bs ((k : Int) + 1)) := fun h =>
        ih (k + 1) (by omega) (fun j hj => (Decidable.em (j = k)).elim (fun e => by subst e; exact okB_iff.2 h) (fun e => hp j (by omega)))
      refine go hz hX Tab.Ok.nil Try.func40 (loopRMay2 l es bs k) ⟨fun h => ⟨by omega, by omega, ?_⟩, fun h => absurd (of_decide_eq_false h) (by omega)⟩
      simp only [Int.toNat_natCast]
      have r1 : decide (((bs.getD k dB).1.size : Int) > 24) = true → mayN l es bs = false := fun h => no fun g => absurd (of_decide_eq_true h) (by omega)
      have r2 : decide ((bs.getD k dB).2.1 < 2) = true → mayN l es bs = false := fun h => no fun g => absurd (of_decide_eq_true h) (by omega)
      have r3 : decide ((bs.getD k dB).2.1 > 1023) = true → mayN l es bs = false := fun h => no fun g => absurd (of_decide_eq_true h) (by omega)
      have tail : decide (((bs.getD k dB).1.size : Int) > 24) = false → decide ((bs.getD k dB).2.1 < 2) = false → decide ((bs.getD k dB).2.1 > 1023) = false → (0 < k → slt (bs.getD (k - 1) dB).1 (bs.getD k dB).1 = true) → Safe P 40 X (Ends [tBool] (mayN l es bs, ())) (cRMay2 l es bs ((k : Int) + 1)) := fun a b c d => by
        have a := of_decide_eq_false a
        have b := of_decide_eq_false b
        have c := of_decide_eq_false c
        exact yes ⟨by omega, by omega, by omega, d⟩
      refine ⟨fun h0 => ?_, fun h0 => ?_⟩
      · have h0 : (k : Int) > 0 := of_decide_eq_true h0
        rw [show ((k : Int) - 1).toNat = k - 1 from by omega]
        refine ⟨fun a => ends_isl (no fun g => ?_), fun _ => ⟨fun a => ends_isl (r1 a), fun a => ⟨by omega, by omega, fun b => ends_isl (r2 b), fun b => ⟨by omega, by omega, fun c => ends_isl (r3 c), fun c => ⟨fun _ => ⟨⟨by omega, by omega⟩, by omega, by omega, fun d => ends_isl (no fun g => ?_), fun d => ⟨⟨by omega, by omega⟩, tail a b c fun _ => ?_⟩⟩, fun h => absurd (of_decide_eq_false h) (by omega)⟩⟩⟩⟩⟩
        · have := slt_pos (g.2.2.2 (by omega))
          have a : (((bs.getD k dB).1.size : Int) < 1) := of_decide_eq_true a
          omega
        · have d : (!slt (bs.getD (k - 1) dB).1 (bs.getD k dB).1) = true := d
          rw [g.2.2.2 (by omega)] at d; cases d
        · have d : (!slt (bs.getD (k - 1) dB).1 (bs.getD k dB).1) = false := d
          simpa using d
      · have h0 : ¬ (k : Int) > 0 := of_decide_eq_false h0
        exact ⟨fun a => ends_isl (r1 a), fun a => ⟨by omega, by omega, fun b => ends_isl (r2 b), fun b => ⟨by omega, by omega, fun c => ends_isl (r3 c), fun c => ⟨fun h => absurd (of_decide_eq_true h) (by omega), fun _ => ⟨⟨by omega, by omega⟩, tail a b c fun h => absurd h (by omega)⟩⟩⟩⟩⟩
  have first : mayN l es bs = (okEs es && okBs bs) → ∀ (n k : Nat), k + n = es.length → (∀ j, j < k → okE es j = true) → Safe P 40 X (Ends [tBool] (mayN l es bs, ())) (cRMay1 l es bs (k : Int)) := by
    intro hm n
    induction n with
    | zero =>
      intro k hk hp
      have he : okEs es = true := all_yes (fun j hj => hp j (by omega))
      refine go hz hX Tab.Ok.nil Try.func40 (loopRMay1 l es bs k) ⟨fun h => absurd (of_decide_eq_true h) (by omega), fun h => ?_⟩
      exact second he (by rw [hm, he]; rfl) bs.length 0 (by omega) (fun j hj => by omega)
    | succ n ih =>
      intro k hk hp
      have no : ¬ (1 ≤ (es.getD k dE).1.size ∧ (es.getD k dE).1.size ≤ 24 ∧ (es.getD k dE).2.1.size ≤ 100 ∧ (0 < k → slt (es.getD (k - 1) dE).1 (es.getD k dE).1 = true)) → mayN l es bs = false := fun h => by
        have : okEs es = false := all_no (i := k) (by omega) (Bool.eq_false_iff.2 fun e => h (okE_iff.1 e))
        rw [hm, this]; rfl
      have yes : (1 ≤ (es.getD k dE).1.size ∧ (es.getD k dE).1.size ≤ 24 ∧ (es.getD k dE).2.1.size ≤ 100 ∧ (0 < k → slt (es.getD (k - 1) dE).1 (es.getD k dE).1 = true)) → Safe P 40 X (Ends [tBool] (mayN l es bs, ())) (cRMay1 l es bs ((k : Int) + 1)) := fun h =>
        ih (k + 1) (by omega) (fun j hj => (Decidable.em (j = k)).elim (fun e => by subst e; exact okE_iff.2 h) (fun e => hp j (by omega)))
      refine go hz hX Tab.Ok.nil Try.func40 (loopRMay1 l es bs k) ⟨fun h => ⟨by omega, by omega, ?_⟩, fun h => absurd (of_decide_eq_false h) (by omega)⟩
      simp only [Int.toNat_natCast]
      have r0 : decide (((es.getD k dE).1.size : Int) < 1) = true → mayN l es bs = false := fun h => no fun g => absurd (of_decide_eq_true h) (by omega)
      have r1 : decide (((es.getD k dE).1.size : Int) > 24) = true → mayN l es bs = false := fun h => no fun g => absurd (of_decide_eq_true h) (by omega)
      have r2 : decide (((es.getD k dE).2.1.size : Int) > 100) = true → mayN l es bs = false := fun h => no fun g => absurd (of_decide_eq_true h) (by omega)
      have tail : decide (((es.getD k dE).1.size : Int) < 1) = false → decide (((es.getD k dE).1.size : Int) > 24) = false → decide (((es.getD k dE).2.1.size : Int) > 100) = false → (0 < k → slt (es.getD (k - 1) dE).1 (es.getD k dE).1 = true) → Safe P 40 X (Ends [tBool] (mayN l es bs, ())) (cRMay1 l es bs ((k : Int) + 1)) := fun a b c d => by
        have a := of_decide_eq_false a
        have b := of_decide_eq_false b
        have c := of_decide_eq_false c
        exact yes ⟨by omega, by omega, by omega, d⟩
      refine ⟨fun a => ends_isl (r0 a), fun a => ⟨fun b => ends_isl (r1 b), fun b => ⟨by omega, by omega, fun c => ends_isl (r2 c), fun c => ⟨fun h0 => ?_, fun h0 => ?_⟩⟩⟩⟩
      · have h0 : (k : Int) > 0 := of_decide_eq_true h0
        rw [show ((k : Int) - 1).toNat = k - 1 from by omega]
        refine ⟨⟨by omega, by omega⟩, by omega, by omega, fun d => ends_isl (no fun g => ?_), fun d => ⟨⟨by omega, by omega⟩, tail a b c fun _ => ?_⟩⟩
        · have d : (!slt (es.getD (k - 1) dE).1 (es.getD k dE).1) = true := d
          rw [g.2.2.2 (by omega)] at d; cases d
        · have d : (!slt (es.getD (k - 1) dE).1 (es.getD k dE).1) = false := d
          simpa using d
      · have h0 : ¬ (k : Int) > 0 := of_decide_eq_false h0
        exact ⟨⟨by omega, by omega⟩, tail a b c fun h => absurd h (by omega)⟩
  have body : ¬ ((l = true ∧ (bs.length : Int) > 0) ∨ (l = false ∧ (es.length : Int) > 0)) → Safe P 40 X (Ends [tBool] (mayN l es bs, ())) (cRMay1 l es bs 0) := fun h => by
    refine first ?_ es.length 0 (by omega) (fun j hj => by omega)
    have : ((l && decide ((bs.length : Int) > 0)) || (!l && decide ((es.length : Int) > 0))) = false := by
      cases l <;> simp at h ⊢ <;> omega
    rw [mayN, this]; rfl
  have bad : ((l = true ∧ (bs.length : Int) > 0) ∨ (l = false ∧ (es.length : Int) > 0)) → mayN l es bs = false := fun h => by
    have : ((l && decide ((bs.length : Int) > 0)) || (!l && decide ((es.length : Int) > 0))) = true := by
      rcases h with ⟨rfl, h⟩ | ⟨rfl, h⟩ <;> simp <;> omega
    rw [mayN, this]; rfl
  refine go hz hX Tab.Ok.nil Try.func40 (treeRMay l es bs) ⟨fun hl => ⟨fun h => ends_isl (bad (.inl ⟨hl, of_decide_eq_true h⟩)), fun h => ⟨fun hl' => ?_, fun _ => body ?_⟩⟩, fun hl => ⟨fun _ => ⟨fun h => ends_isl (bad (.inr ⟨hl, of_decide_eq_true h⟩)), fun h => body ?_⟩, fun h => ?_⟩⟩
  · subst hl; cases hl'
  · have h := of_decide_eq_false h
    rintro (⟨_, g⟩ | ⟨g, _⟩)
    · exact h g
    · rw [hl] at g; cases g
  · have h := of_decide_eq_false h
    rintro (⟨g, _⟩ | ⟨_, g⟩)
    · rw [hl] at g; cases g
    · exact h g
  · subst hl; cases h

theorem szE_r {es : List En} (h : smallE es) : ∀ x ∈ es.map szE, 0 ≤ x ∧ x ≤ 2002 := fun x hx => by
  obtain ⟨y, hy, rfl⟩ := List.mem_map.1 hx
  have := h.2 y hy
  unfold szE; omega
theorem szB_r {bs : List Br} (h : smallB bs) : ∀ x ∈ bs.map szB, 0 ≤ x ∧ x ≤ 2002 := fun x hx => by
  obtain ⟨y, hy, rfl⟩ := List.mem_map.1 hx
  have := h.2 y hy
  unfold szB; omega
theorem map_getD' {α β : Type} (f : α → β) (xs : List α) (d : β) (da : α) {i : Nat} (hi : i < xs.length) : (xs.map f).getD i d = f (xs.getD i da) := by simp [List.getD, hi]

theorem rsize_ok {Z : Glob} : FnOk P Z 41 [tRN] [tInt] (fun ((_, es, bs, ()), ()) => [smallE es, smallB bs]) (fun ((_, es, bs, ()), ()) => (sizeN es bs, ())) := by
  refine fnOk_of_safe Try.func41 (by kernel_rfl) (by kernel_rfl) ?_
  rintro ⟨⟨(l : Bool), (es : List En), (bs : List Br), ⟨⟩⟩, ⟨⟩⟩ _ ⟨(he : smallE es), (hb : smallB bs), _⟩ X hX hz
  have hre := szE_r he
  have hrb := szB_r hb
  have hle := he.1
  have hlb := hb.1
  have hte : 0 ≤ (es.map szE).sum ∧ (es.map szE).sum ≤ 2002 * (es.map szE).length := sum_range hre (by omega)
  rw [List.length_map] at hte
  show Safe P 41 X (Ends [tInt] (sizeN es bs, ())) _
  have second : ∀ (n k : Nat), k + n = bs.length → Safe P 41 X (Ends [tInt] (sizeN es bs, ())) (cRSize2 l es bs (1 + (es.map szE).sum + ((bs.map szB).take k).sum) (k : Int)) := by
    intro n
    induction n with
    | zero =>
      intro k hk
      refine go hz hX Tab.Ok.nil Try.func41 (loopRSize2 l es bs _ k) ⟨fun h => absurd (of_decide_eq_true h) (by omega), fun h => ends_ii ?_⟩
      rw [List.take_of_length_le (by rw [List.length_map]; omega), sizeN]
      omega
    | succ n ih =>
      intro k hk
      have h1 := sum_range (l := (bs.map szB).take k) (m := 2002) (fun x hx => hrb x (List.mem_of_mem_take hx)) (by omega)
      have h3 : ((bs.map szB).take k).length ≤ 1000 := by rw [List.length_take, List.length_map]; omega
      have h2 := small_getB hb k
      refine go hz hX Tab.Ok.nil Try.func41 (loopRSize2 l es bs _ k) ?_
      simp only [Int.toNat_natCast]
      refine ⟨fun h => ⟨⟨by omega, by omega⟩, by omega, by omega, ⟨?_, ?_⟩, ⟨by omega, by omega⟩, ?_⟩, fun h => absurd (of_decide_eq_false h) (by omega)⟩
      · show (-9223372036854775808 : Int) ≤ 1 + (es.map szE).sum + ((bs.map szB).take k).sum + 3 + ((bs.getD k dB).1.size : Int); omega
      · show 1 + (es.map szE).sum + ((bs.map szB).take k).sum + 3 + ((bs.getD k dB).1.size : Int) ≤ (9223372036854775807 : Int); omega
      · have := ih (k + 1) (by omega)
        rw [← sum_take_snoc (by rw [List.length_map]; omega), map_getD' szB bs 0 dB (by omega)] at this
        have e : 1 + (es.map szE).sum + ((bs.map szB).take k).sum + 3 + ((bs.getD k dB).1.size : Int) = 1 + (es.map szE).sum + (((bs.map szB).take k).sum + szB (bs.getD k dB)) := by unfold szB; omega
        rw [← e] at this
        exact this
  have first : ∀ (n k : Nat), k + n = es.length → Safe P 41 X (Ends [tInt] (sizeN es bs, ())) (cRSize1 l es bs (1 + ((es.map szE).take k).sum) (k : Int)) := by
    intro n
    induction n with
    | zero =>
      intro k hk
      refine go hz hX Tab.Ok.nil Try.func41 (loopRSize1 l es bs _ k) ⟨fun h => absurd (of_decide_eq_true h) (by omega), fun h => ?_⟩
      rw [List.take_of_length_le (by rw [List.length_map]; omega)]
      have := second bs.length 0 (by omega)
      simp only [List.take_zero, List.sum_nil, Int.add_zero] at this
      exact this
    | succ n ih =>
      intro k hk
      have h1 := sum_range (l := (es.map szE).take k) (m := 2002) (fun x hx => hre x (List.mem_of_mem_take hx)) (by omega)
      have h3 : ((es.map szE).take k).length ≤ 1000 := by rw [List.length_take, List.length_map]; omega
      have h2 := small_getE he k
      have e : 1 + ((es.map szE).take k).sum + 2 + ((es.getD k dE).1.size : Int) + ((es.getD k dE).2.1.size : Int) = 1 + (((es.map szE).take k).sum + szE (es.getD k dE)) := by unfold szE; omega
      refine go hz hX Tab.Ok.nil Try.func41 (loopRSize1 l es bs _ k) ?_
      simp only [Int.toNat_natCast]
      refine ⟨fun h => ⟨⟨by omega, by omega⟩, by omega, by omega, ⟨?_, ?_⟩, by omega, by omega, ⟨?_, ?_⟩, ⟨by omega, by omega⟩, ?_⟩, fun h => absurd (of_decide_eq_false h) (by omega)⟩
      · show (-9223372036854775808 : Int) ≤ 1 + ((es.map szE).take k).sum + 2 + ((es.getD k dE).1.size : Int); omega
      · show 1 + ((es.map szE).take k).sum + 2 + ((es.getD k dE).1.size : Int) ≤ (9223372036854775807 : Int); omega
      · show (-9223372036854775808 : Int) ≤ 1 + ((es.map szE).take k).sum + 2 + ((es.getD k dE).1.size : Int) + ((es.getD k dE).2.1.size : Int); omega
      · show 1 + ((es.map szE).take k).sum + 2 + ((es.getD k dE).1.size : Int) + ((es.getD k dE).2.1.size : Int) ≤ (9223372036854775807 : Int); omega
      · have := ih (k + 1) (by omega)
        rw [← sum_take_snoc (by rw [List.length_map]; omega), map_getD' szE es 0 dE (by omega), ← e] at this
        exact this
  have := first es.length 0 (by omega)
  exact go hz hX Tab.Ok.nil Try.func41 (treeRSize l es bs) this

theorem rfits_ok {Z : Glob} : FnOk P Z 42 [tRN] [tBool] (fun ((_, es, bs, ()), ()) => [smallE es, smallB bs]) (fun ((_, es, bs, ()), ()) => (decide (sizeN es bs ≤ 254), ())) := by
  refine fnOk_of_safe Try.func42 (by kernel_rfl) (by kernel_rfl) ?_
  rintro ⟨⟨(l : Bool), (es : List En), (bs : List Br), ⟨⟩⟩, ⟨⟩⟩ _ ⟨(he : smallE es), (hb : smallB bs), _⟩ X hX hz
  exact go hz hX (Tab.Ok.cons rsize_ok.sum Tab.Ok.nil) Try.func42 (treeRFits l es bs) ⟨he, hb, ends_b⟩

theorem rents_ok {Z : Glob} : FnOk P Z 53 [tREs, tREs] [tBool] (fun _ => []) (fun (a, b, ()) => (eqEs a b, ())) := by
  refine fnOk_of_safe Try.func53 (by kernel_rfl) (by kernel_rfl) ?_
  rintro ⟨(a : List En), (b : List En), ⟨⟩⟩ ⟨hla, hlb, _⟩ _ X hX hz
  have hla : a.length ≤ 9223372036854775807 := hla
  show Safe P 53 X (Ends [tBool] (eqEs a b, ())) _
  refine go hz hX Tab.Ok.nil Try.func53 (treeREnts a b) ⟨fun h => ends_isl ?_, fun h => ?_⟩
  · exact decide_eq_false (fun e => by subst e; simp at h)
  · have hl : a.length = b.length := Int.ofNat_inj.1 (by simpa using h)
    have loop : ∀ (n k : Nat), k + n = a.length → (∀ j, j < k → a.getD j dE = b.getD j dE) → Safe P 53 X (Ends [tBool] (eqEs a b, ())) (cREnts a b (k : Int)) := by
      intro n
      induction n with
      | zero =>
        intro k hk hp
        refine go hz hX Tab.Ok.nil Try.func53 (loopREnts a b k) ⟨fun h => absurd (of_decide_eq_true h) (by omega), fun h => ends_isl (decide_eq_true ?_)⟩
        refine List.ext_getElem hl fun j h1 h2 => ?_
        have := hp j (by omega)
        rwa [getD_lt h1, getD_lt h2] at this
      | succ n ih =>
        intro k hk hp
        refine go hz hX Tab.Ok.nil Try.func53 (loopREnts a b k) ⟨fun h => ⟨by omega, by omega, by omega, by omega, ?_⟩, fun h => absurd (of_decide_eq_false h) (by omega)⟩
        simp only [Int.toNat_natCast]
        have e := en_eq (a.getD k dE) (b.getD k dE)
        refine ⟨fun h1 => ends_isl ?_, fun h1 => ⟨⟨by omega, by omega⟩, ih (k + 1) (by omega) (fun j hj => ?_)⟩⟩
        · have h1 : (!decide (a.getD k dE = b.getD k dE)) = true := by rw [← e]; exact h1
          refine decide_eq_false (fun e => ?_)
          subst e; simp at h1
        · by_cases hj2 : j = k
          · subst hj2
            have h1 : (!decide (a.getD j dE = b.getD j dE)) = false := by rw [← e]; exact h1
            simpa using h1
          · exact hp j (by omega)
    exact loop a.length 0 (by omega) (fun j hj => by omega)

theorem rsame_ok {Z : Glob} : FnOk P Z 43 [tRN, tRN] [tBool] (fun _ => []) (fun ((l, es, bs, ()), (l', es', bs', ()), ()) => (sameN l es bs l' es' bs', ())) := by
  refine fnOk_of_safe Try.func43 (by kernel_rfl) (by kernel_rfl) ?_
  rintro ⟨⟨(l : Bool), (a : List En), (c : List Br), ⟨⟩⟩, ⟨(l' : Bool), (b : List En), (d : List Br), ⟨⟩⟩, ⟨⟩⟩ ⟨⟨_, _, hlc, _⟩, _⟩ _ X hX hz
  have hlc : c.length ≤ 9223372036854775807 := hlc
  show Safe P 43 X (Ends [tBool] (sameN l a c l' b d, ())) _
  have hT : tabRSame.Ok P Z := Tab.Ok.cons rents_ok.sum Tab.Ok.nil
  refine go hz hX hT Try.func43 (treeRSame l l' a b c d) ⟨fun h => ends_isl ?_, fun h0 => ⟨fun h => ends_isl ?_, fun h1 => ⟨fun h => ends_isl ?_, fun h => ?_⟩⟩⟩
  · show ((l == l') && (eqEs a b && eqBs c d)) = _
    have h : (!(l == l')) = true := h
    rw [show (l == l') = false from by simpa using h]; rfl
  · show ((l == l') && (eqEs a b && eqBs c d)) = _
    rw [show eqEs a b = false from by simpa using h]; simp
  · show ((l == l') && (eqEs a b && eqBs c d)) = _
    have : eqBs c d = false := decide_eq_false (fun e => by subst e; simp at h)
    rw [this]; simp
  · have hl : c.length = d.length := Int.ofNat_inj.1 (by simpa using h)
    have e0 : sameN l a c l' b d = eqBs c d := by
      show ((l == l') && (eqEs a b && eqBs c d)) = _
      have h0 : (!(l == l')) = false := h0
      rw [show (l == l') = true from by simpa using h0, show eqEs a b = true from by simpa using h1]; rfl
    rw [e0]
    have loop : ∀ (n k : Nat), k + n = c.length → (∀ j, j < k → c.getD j dB = d.getD j dB) → Safe P 43 X (Ends [tBool] (eqBs c d, ())) (cRSame l l' a b c d (k : Int)) := by
      intro n
      induction n with
      | zero =>
        intro k hk hp
        refine go hz hX hT Try.func43 (loopRSame l l' a b c d k) ⟨fun h => absurd (of_decide_eq_true h) (by omega), fun h => ends_isl (decide_eq_true ?_)⟩
        refine List.ext_getElem hl fun j h1 h2 => ?_
        have := hp j (by omega)
        rwa [getD_lt h1, getD_lt h2] at this
      | succ n ih =>
        intro k hk hp
        refine go hz hX hT Try.func43 (loopRSame l l' a b c d k) ⟨fun h => ⟨by omega, by omega, by omega, by omega, ?_⟩, fun h => absurd (of_decide_eq_false h) (by omega)⟩
        simp only [Int.toNat_natCast]
        have e := br_eq (c.getD k dB) (d.getD k dB)
        refine ⟨fun h1 => ends_isl ?_, fun h1 => ⟨⟨by omega, by omega⟩, ih (k + 1) (by omega) (fun j hj => ?_)⟩⟩
        · have h1 : (!decide (c.getD k dB = d.getD k dB)) = true := by rw [← e]; exact h1
          refine decide_eq_false (fun e => ?_)
          subst e; simp at h1
        · by_cases hj2 : j = k
          · subst hj2
            have h1 : (!decide (c.getD j dB = d.getD j dB)) = false := by rw [← e]; exact h1
            simpa using h1
          · exact hp j (by omega)
    exact loop c.length 0 (by omega) (fun j hj => by omega)
end Lf
