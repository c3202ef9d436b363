import Derived.Test.YtjmdfmafnenjnaaR3
namespace Lf
open Go Go.Sx Go.Proofs
theorem treeClE (a : List En) : run P tab0.sum Try.f105 [] (start Try.f105 [.s (.ro (.typ cE a))] []) =
  Tree.both (a.length = (0 : Nat)) True (Tree.ret [] AV.emp) (Tree.need ((0 : Nat) + a.length ≤ (4294967296 : Nat)) (Tree.ret [AObj.dead, AObj.vec (Con.typ [CK.str, CK.str] ([] ++ a)) (59 : Nat)] (AV.vec (1 : Nat)))) := by kernel_rfl
theorem treeClB (a : List Br) : run P tab0.sum Try.f124 [] (start Try.f124 [.s (.ro (.typ cB a))] []) =
  Tree.both (a.length = (0 : Nat)) True (Tree.ret [] AV.emp) (Tree.need ((0 : Nat) + a.length ≤ (4294967296 : Nat)) (Tree.ret [AObj.dead, AObj.vec (Con.typ [CK.str, CK.int IntKind.i64] ([] ++ a)) (36 : Nat)] (AV.vec (1 : Nat)))) := by kernel_rfl
abbrev sClE := sumOf [tEs] [tEs] (fun (l, ()) => [(l : List En).length ≤ 100000]) (fun (l, ()) => (l, ()))
abbrev sClB := sumOf [tBs] [tBs] (fun (l, ()) => [(l : List Br).length ≤ 100000]) (fun (l, ()) => (l, ()))
def tabCut : Tab := [(105, sClE), (124, sClB)]
theorem treeCutE (a : List En) (k : Int) : run P tabCut.sum Try.f101 [] (start Try.f101 [.s (.ro (.typ cE a)), .s (.int .i64 k)] []) =
  Tree.ite ((↑a.length : Int) == (0 : Int)) (Tree.ret [] (AV.tup [AV.emp, AV.emp])) (Tree.need ((0 : Int) ≤ (0 : Int)) (Tree.need ((0 : Int) ≤ k) (Tree.need (k ≤ (↑a.length : Int)) (Tree.need ((List.drop (Int.toNat (0 : Int)) (List.take k.toNat a)).length ≤ (100000 : Nat)) (Tree.need ((0 : Int) ≤ k) (Tree.need (k ≤ (↑a.length : Int)) (Tree.need ((↑a.length : Int) ≤ (↑a.length : Int)) (Tree.need ((List.drop k.toNat (List.take (↑a.length : Int).toNat a)).length ≤ (100000 : Nat)) (Tree.ret [AObj.vec (Con.typ [CK.str, CK.str] (List.drop (Int.toNat (0 : Int)) (List.take k.toNat a))) (59 : Nat), AObj.vec (Con.typ [CK.str, CK.str] (List.drop k.toNat (List.take (↑a.length : Int).toNat a))) (59 : Nat)] (AV.tup [AV.vec (0 : Nat), AV.vec (1 : Nat)])))))))))) := by kernel_rfl
theorem treeCutB (a : List Br) (k : Int) : run P tabCut.sum Try.f102 [] (start Try.f102 [.s (.ro (.typ cB a)), .s (.int .i64 k)] []) =
  Tree.ite ((↑a.length : Int) == (0 : Int)) (Tree.ret [] (AV.tup [AV.emp, AV.emp])) (Tree.need ((0 : Int) ≤ (0 : Int)) (Tree.need ((0 : Int) ≤ k) (Tree.need (k ≤ (↑a.length : Int)) (Tree.need ((List.drop (Int.toNat (0 : Int)) (List.take k.toNat a)).length ≤ (100000 : Nat)) (Tree.need ((0 : Int) ≤ k) (Tree.need (k ≤ (↑a.length : Int)) (Tree.need ((↑a.length : Int) ≤ (↑a.length : Int)) (Tree.need ((List.drop k.toNat (List.take (↑a.length : Int).toNat a)).length ≤ (100000 : Nat)) (Tree.ret [AObj.vec (Con.typ [CK.str, CK.int IntKind.i64] (List.drop (Int.toNat (0 : Int)) (List.take k.toNat a))) (36 : Nat), AObj.vec (Con.typ [CK.str, CK.int IntKind.i64] (List.drop k.toNat (List.take (↑a.length : Int).toNat a))) (36 : Nat)] (AV.tup [AV.vec (0 : Nat), AV.vec (1 : Nat)])))))))))) := by kernel_rfl
abbrev sCutE := sumOf [tEs, tInt] [tEs, tEs] (fun (l, k, ()) => [(l : List En).length ≤ 100000, 0 ≤ (k : Int), (l = [] ∨ k ≤ (l.length : Int))]) (fun (l, k, ()) => (List.take (Int.toNat k) l, List.drop (Int.toNat k) l, ()))
abbrev sCutB := sumOf [tBs, tInt] [tBs, tBs] (fun (l, k, ()) => [(l : List Br).length ≤ 100000, 0 ≤ (k : Int), (l = [] ∨ k ≤ (l.length : Int))]) (fun (l, k, ()) => (List.take (Int.toNat k) l, List.drop (Int.toNat k) l, ()))
def tabSpl : Tab := [(98, sSizes), (25, sMay), (34, sSize), (101, sCutE), (102, sCutB)]
def nsSpl : List (Nat × Norm) := [(7, ⟨[], [1, 2, 3, 6, 7, 8, 9, 34, 35, 36], 0, []⟩)]
theorem treeSpl (l : Bool) (es : List En) (bs : List Br) : run P tabSpl.sum Try.f39 nsSpl (start Try.f39 [avN l es bs] []) =
  Tree.need (smallE es) (Tree.need (smallB bs) (Tree.ite (!mayN l es bs) (Tree.ret [AObj.own [AV.s (SV.bool l), AV.s (SV.ro (Con.typ [CK.str, CK.str] es)), AV.s (SV.ro (Con.typ [CK.str, CK.int IntKind.i64] bs))] (31 : Nat), AObj.own [AV.s (SV.blit false), AV.emp, AV.emp] (31 : Nat), AObj.own [AV.s (SV.blit false), AV.emp, AV.emp] (31 : Nat), AObj.vec (Con.ints IntKind.i64 (sizesF es bs)) (3 : Nat)] (AV.tup [AV.agg [AV.s (SV.blit false), AV.emp, AV.emp], AV.agg [AV.s (SV.blit false), AV.emp, AV.emp], AV.s (SV.ilit IntKind.i64 (4 : Int))])) (Tree.ite (decide ((↑(sizesF es bs).length : Int) < (2 : Int))) (Tree.ret [AObj.own [AV.s (SV.bool l), AV.s (SV.ro (Con.typ [CK.str, CK.str] es)), AV.s (SV.ro (Con.typ [CK.str, CK.int IntKind.i64] bs))] (31 : Nat), AObj.own [AV.s (SV.blit false), AV.emp, AV.emp] (31 : Nat), AObj.own [AV.s (SV.blit false), AV.emp, AV.emp] (31 : Nat), AObj.vec (Con.ints IntKind.i64 (sizesF es bs)) (3 : Nat)] (AV.tup [AV.agg [AV.s (SV.blit false), AV.emp, AV.emp], AV.agg [AV.s (SV.blit false), AV.emp, AV.emp], AV.s (SV.ilit IntKind.i64 (4 : Int))])) (Tree.need (smallE es) (Tree.need (smallB bs) (Tree.need (inI64 (sizeN es bs - (1 : Int))) (Tree.need (inI64 ((↑(sizesF es bs).length : Int) - (1 : Int))) (Tree.need ((0 : Int) ≤ (0 : Int)) (Tree.need ((0 : Int) ≤ (↑(sizesF es bs).length : Int) - (1 : Int)) (Tree.need ((↑(0 : Nat) : Int) + ((↑(sizesF es bs).length : Int) - (1 : Int)) ≤ (↑(sizesF es bs).length : Int)) (Tree.at (Cfg.mk (sl (87 : Nat) [((1 : Nat), AV.ptr (0 : Nat) (0 : Nat)), ((2 : Nat), AV.ptr (1 : Nat) (0 : Nat)), ((3 : Nat), AV.ptr (2 : Nat) (0 : Nat)), ((6 : Nat), AV.s (SV.int IntKind.i64 (0 : Int))), ((7 : Nat), AV.s (SV.int IntKind.i64 (sizeN es bs - (1 : Int)))), ((8 : Nat), AV.s (SV.int IntKind.i64 (0 : Int))), ((9 : Nat), AV.s (SV.int IntKind.i64 (0 : Int))), ((34 : Nat), AV.part (3 : Nat) (0 : Nat) (((↑(sizesF es bs).length : Int) - (1 : Int)).toNat - Int.toNat (0 : Int))), ((35 : Nat), AV.s (SV.int IntKind.i64 (↑(((↑(sizesF es bs).length : Int) - (1 : Int)).toNat - Int.toNat (0 : Int)) : Int))), ((36 : Nat), AV.s (SV.int IntKind.i64 (0 : Int)))]) [AObj.own [AV.s (SV.bool l), AV.s (SV.ro (Con.typ [CK.str, CK.str] es)), AV.s (SV.ro (Con.typ [CK.str, CK.int IntKind.i64] bs))] (31 : Nat), AObj.own [AV.s (SV.bool false), AV.emp, AV.emp] (31 : Nat), AObj.own [AV.s (SV.bool false), AV.emp, AV.emp] (31 : Nat), AObj.vec (Con.ints IntKind.i64 (sizesF es bs)) (3 : Nat)] (hd Try.f39 (7 : Nat)))))))))))))) := by kernel_rfl
def cutE (l : Bool) (es : List En) : List En := if l = true then es else []
def cutB (l : Bool) (bs : List Br) : List Br := if l = true then [] else bs
def tabRCut : Tab := []
theorem treeRCut (l : Bool) (es : List En) (bs : List Br) (k : Int) : run P tab0.sum Try.f103 [] (start Try.f103 [avN l es bs, .s (.int .i64 k)] []) =
  Tree.ite l (Tree.need ((0 : Int) ≤ (0 : Int)) (Tree.need ((0 : Int) ≤ k) (Tree.need (k ≤ (↑es.length : Int)) (Tree.need ((List.drop (Int.toNat (0 : Int)) (List.take k.toNat es)).length ≤ (4294967296 : Nat)) (Tree.need ((0 : Int) ≤ k) (Tree.need (k ≤ (↑es.length : Int)) (Tree.need ((↑es.length : Int) ≤ (↑es.length : Int)) (Tree.need ((List.drop k.toNat (List.take (↑es.length : Int).toNat es)).length ≤ (4294967296 : Nat)) (Tree.ret [AObj.own [AV.s (SV.bool l), AV.s (SV.ro (Con.typ [CK.str, CK.str] es)), AV.s (SV.ro (Con.typ [CK.str, CK.int IntKind.i64] bs))] (25 : Nat), AObj.own [AV.s (SV.bool l), AV.vec (5 : Nat), AV.emp] (25 : Nat), AObj.own [AV.s (SV.bool l), AV.vec (6 : Nat), AV.emp] (25 : Nat), AObj.own [AV.s (SV.bool l), AV.vec (5 : Nat), AV.emp] (25 : Nat), AObj.own [AV.s (SV.bool l), AV.vec (6 : Nat), AV.emp] (25 : Nat), AObj.vec (Con.typ [CK.str, CK.str] (List.drop (Int.toNat (0 : Int)) (List.take k.toNat es))) (134 : Nat), AObj.vec (Con.typ [CK.str, CK.str] (List.drop k.toNat (List.take (↑es.length : Int).toNat es))) (134 : Nat)] (AV.tup [AV.agg [AV.s (SV.bool l), AV.vec (5 : Nat), AV.emp], AV.agg [AV.s (SV.bool l), AV.vec (6 : Nat), AV.emp]])))))))))) (Tree.need ((0 : Int) ≤ (0 : Int)) (Tree.need ((0 : Int) ≤ k) (Tree.need (k ≤ (↑bs.length : Int)) (Tree.need ((List.drop (Int.toNat (0 : Int)) (List.take k.toNat bs)).length ≤ (4294967296 : Nat)) (Tree.need ((0 : Int) ≤ k) (Tree.need (k ≤ (↑bs.length : Int)) (Tree.need ((↑bs.length : Int) ≤ (↑bs.length : Int)) (Tree.need ((List.drop k.toNat (List.take (↑bs.length : Int).toNat bs)).length ≤ (4294967296 : Nat)) (Tree.ret [AObj.own [AV.s (SV.bool l), AV.s (SV.ro (Con.typ [CK.str, CK.str] es)), AV.s (SV.ro (Con.typ [CK.str, CK.int IntKind.i64] bs))] (25 : Nat), AObj.own [AV.s (SV.bool l), AV.emp, AV.vec (5 : Nat)] (25 : Nat), AObj.own [AV.s (SV.bool l), AV.emp, AV.vec (6 : Nat)] (25 : Nat), AObj.own [AV.s (SV.bool l), AV.emp, AV.vec (5 : Nat)] (25 : Nat), AObj.own [AV.s (SV.bool l), AV.emp, AV.vec (6 : Nat)] (25 : Nat), AObj.vec (Con.typ [CK.str, CK.int IntKind.i64] (List.drop (Int.toNat (0 : Int)) (List.take k.toNat bs))) (135 : Nat), AObj.vec (Con.typ [CK.str, CK.int IntKind.i64] (List.drop k.toNat (List.take (↑bs.length : Int).toNat bs))) (135 : Nat)] (AV.tup [AV.agg [AV.s (SV.bool l), AV.emp, AV.vec (5 : Nat)], AV.agg [AV.s (SV.bool l), AV.emp, AV.vec (6 : Nat)]])))))))))) := by kernel_rfl
abbrev sRCut := sumOf [tRN, tInt] [tRN, tRN] (fun ((l, es, bs, ()), k, ()) => [(es : List En).length ≤ 100000, (bs : List Br).length ≤ 100000, 0 ≤ (k : Int), ((l : Bool) = true → k ≤ (es.length : Int)), (l = false → k ≤ (bs.length : Int))])
  (fun ((l, es, bs, ()), k, ()) => ((l, cutE l (List.take (Int.toNat k) es), cutB l (List.take (Int.toNat k) bs), ()), (l, cutE l (List.drop (Int.toNat k) es), cutB l (List.drop (Int.toNat k) bs), ()), ()))
def tabRSpl : Tab := [(40, sRMay), (41, sRSize), (103, sRCut)]
def nsRSpl : List (Nat × Norm) := [(6, ⟨[], [1, 2, 3, 5, 6, 7, 8], 0, []⟩)]
theorem treeRSpl (l : Bool) (es : List En) (bs : List Br) : run P tabRSpl.sum Try.f46 nsRSpl (start Try.f46 [avN l es bs] []) =
  Tree.need (inI64 ((↑es.length : Int) + (↑bs.length : Int))) (Tree.ite (!mayN l es bs) (Tree.ret [AObj.own [AV.s (SV.bool l), AV.s (SV.ro (Con.typ [CK.str, CK.str] es)), AV.s (SV.ro (Con.typ [CK.str, CK.int IntKind.i64] bs))] (25 : Nat), AObj.own [AV.s (SV.blit false), AV.emp, AV.emp] (25 : Nat), AObj.own [AV.s (SV.blit false), AV.emp, AV.emp] (25 : Nat)] (AV.tup [AV.agg [AV.s (SV.blit false), AV.emp, AV.emp], AV.agg [AV.s (SV.blit false), AV.emp, AV.emp], AV.s (SV.ilit IntKind.i64 (4 : Int))])) (Tree.ite (decide ((↑es.length : Int) + (↑bs.length : Int) < (2 : Int))) (Tree.ret [AObj.own [AV.s (SV.bool l), AV.s (SV.ro (Con.typ [CK.str, CK.str] es)), AV.s (SV.ro (Con.typ [CK.str, CK.int IntKind.i64] bs))] (25 : Nat), AObj.own [AV.s (SV.blit false), AV.emp, AV.emp] (25 : Nat), AObj.own [AV.s (SV.blit false), AV.emp, AV.emp] (25 : Nat)] (AV.tup [AV.agg [AV.s (SV.blit false), AV.emp, AV.emp], AV.agg [AV.s (SV.blit false), AV.emp, AV.emp], AV.s (SV.ilit IntKind.i64 (4 : Int))])) (Tree.at (Cfg.mk (sl (63 : Nat) [((1 : Nat), AV.ptr (0 : Nat) (0 : Nat)), ((2 : Nat), AV.ptr (1 : Nat) (0 : Nat)), ((3 : Nat), AV.ptr (2 : Nat) (0 : Nat)), ((5 : Nat), AV.s (SV.int IntKind.i64 ((↑es.length : Int) + (↑bs.length : Int)))), ((6 : Nat), AV.s (SV.int IntKind.i64 (0 : Int))), ((7 : Nat), AV.s (SV.int IntKind.i64 (0 : Int))), ((8 : Nat), AV.s (SV.int IntKind.i64 (1 : Int)))]) [AObj.own [AV.s (SV.bool l), AV.s (SV.ro (Con.typ [CK.str, CK.str] es)), AV.s (SV.ro (Con.typ [CK.str, CK.int IntKind.i64] bs))] (25 : Nat), AObj.own [AV.s (SV.bool false), AV.emp, AV.emp] (25 : Nat), AObj.own [AV.s (SV.bool false), AV.emp, AV.emp] (25 : Nat)] (hd Try.f46 (6 : Nat)))))) := by kernel_rfl
noncomputable def cSpl (l : Bool) (es : List En) (bs : List Br) (zs : List Int) (n : Nat) (first rest best least i : Int) : Cfg := ⟨sl 87 [(1, .ptr 0 0), (2, .ptr 1 0), (3, .ptr 2 0), (6, .s (.int .i64 first)), (7, .s (.int .i64 rest)), (8, .s (.int .i64 best)), (9, .s (.int .i64 least)), (34, .part 3 0 n), (35, .s (.int .i64 (n : Int))), (36, .s (.int .i64 i))],
  [obN l es bs 31, obZ, obZ, .vec (.ints .i64 zs) 3], hd Try.f39 7⟩
theorem loopSpl (l : Bool) (es : List En) (bs : List Br) (zs : List Int) (n : Nat) (first rest best least i : Int) : run P tabSpl.sum Try.f39 nsSpl (cSpl l es bs zs n first rest best least i) =
  Tree.ite (decide (i < (↑n : Int))) (Tree.need ((0 : Int) ≤ i) (Tree.need (i < (↑n : Int)) (Tree.need (inI64 (first + zs.getD ((0 : Nat) + i.toNat) (0 : Int))) (Tree.need (inI64 (rest - zs.getD ((0 : Nat) + i.toNat) (0 : Int))) (Tree.ite (best == (0 : Int)) (Tree.need (inI64 (i + (1 : Int))) (Tree.need (inI64 (i + (1 : Int))) (Tree.at (Cfg.mk (sl (87 : Nat) [((1 : Nat), AV.ptr (0 : Nat) (0 : Nat)), ((2 : Nat), AV.ptr (1 : Nat) (0 : Nat)), ((3 : Nat), AV.ptr (2 : Nat) (0 : Nat)), ((6 : Nat), AV.s (SV.int IntKind.i64 (first + zs.getD ((0 : Nat) + i.toNat) (0 : Int)))), ((7 : Nat), AV.s (SV.int IntKind.i64 (rest - zs.getD ((0 : Nat) + i.toNat) (0 : Int)))), ((8 : Nat), AV.s (SV.int IntKind.i64 (i + (1 : Int)))), ((9 : Nat), AV.s (SV.int IntKind.i64 (imax (first + zs.getD ((0 : Nat) + i.toNat) (0 : Int)) (rest - zs.getD ((0 : Nat) + i.toNat) (0 : Int))))), ((34 : Nat), AV.part (3 : Nat) (0 : Nat) n), ((35 : Nat), AV.s (SV.int IntKind.i64 (↑n : Int))), ((36 : Nat), AV.s (SV.int IntKind.i64 (i + (1 : Int))))]) [AObj.own [AV.s (SV.bool l), AV.s (SV.ro (Con.typ [CK.str, CK.str] es)), AV.s (SV.ro (Con.typ [CK.str, CK.int IntKind.i64] bs))] (31 : Nat), AObj.own [AV.s (SV.bool false), AV.emp, AV.emp] (31 : Nat), AObj.own [AV.s (SV.bool false), AV.emp, AV.emp] (31 : Nat), AObj.vec (Con.ints IntKind.i64 zs) (3 : Nat)] (hd Try.f39 (7 : Nat)))))) (Tree.ite (decide (imax (first + zs.getD ((0 : Nat) + i.toNat) (0 : Int)) (rest - zs.getD ((0 : Nat) + i.toNat) (0 : Int)) < least)) (Tree.need (inI64 (i + (1 : Int))) (Tree.need (inI64 (i + (1 : Int))) (Tree.at (Cfg.mk (sl (87 : Nat) [((1 : Nat), AV.ptr (0 : Nat) (0 : Nat)), ((2 : Nat), AV.ptr (1 : Nat) (0 : Nat)), ((3 : Nat), AV.ptr (2 : Nat) (0 : Nat)), ((6 : Nat), AV.s (SV.int IntKind.i64 (first + zs.getD ((0 : Nat) + i.toNat) (0 : Int)))), ((7 : Nat), AV.s (SV.int IntKind.i64 (rest - zs.getD ((0 : Nat) + i.toNat) (0 : Int)))), ((8 : Nat), AV.s (SV.int IntKind.i64 (i + (1 : Int)))), ((9 : Nat), AV.s (SV.int IntKind.i64 (imax (first + zs.getD ((0 : Nat) + i.toNat) (0 : Int)) (rest - zs.getD ((0 : Nat) + i.toNat) (0 : Int))))), ((34 : Nat), AV.part (3 : Nat) (0 : Nat) n), ((35 : Nat), AV.s (SV.int IntKind.i64 (↑n : Int))), ((36 : Nat), AV.s (SV.int IntKind.i64 (i + (1 : Int))))]) [AObj.own [AV.s (SV.bool l), AV.s (SV.ro (Con.typ [CK.str, CK.str] es)), AV.s (SV.ro (Con.typ [CK.str, CK.int IntKind.i64] bs))] (31 : Nat), AObj.own [AV.s (SV.bool false), AV.emp, AV.emp] (31 : Nat), AObj.own [AV.s (SV.bool false), AV.emp, AV.emp] (31 : Nat), AObj.vec (Con.ints IntKind.i64 zs) (3 : Nat)] (hd Try.f39 (7 : Nat)))))) (Tree.need (inI64 (i + (1 : Int))) (Tree.at (Cfg.mk (sl (87 : Nat) [((1 : Nat), AV.ptr (0 : Nat) (0 : Nat)), ((2 : Nat), AV.ptr (1 : Nat) (0 : Nat)), ((3 : Nat), AV.ptr (2 : Nat) (0 : Nat)), ((6 : Nat), AV.s (SV.int IntKind.i64 (first + zs.getD ((0 : Nat) + i.toNat) (0 : Int)))), ((7 : Nat), AV.s (SV.int IntKind.i64 (rest - zs.getD ((0 : Nat) + i.toNat) (0 : Int)))), ((8 : Nat), AV.s (SV.int IntKind.i64 best)), ((9 : Nat), AV.s (SV.int IntKind.i64 least)), ((34 : Nat), AV.part (3 : Nat) (0 : Nat) n), ((35 : Nat), AV.s (SV.int IntKind.i64 (↑n : Int))), ((36 : Nat), AV.s (SV.int IntKind.i64 (i + (1 : Int))))]) [AObj.own [AV.s (SV.bool l), AV.s (SV.ro (Con.typ [CK.str, CK.str] es)), AV.s (SV.ro (Con.typ [CK.str, CK.int IntKind.i64] bs))] (31 : Nat), AObj.own [AV.s (SV.bool false), AV.emp, AV.emp] (31 : Nat), AObj.own [AV.s (SV.bool false), AV.emp, AV.emp] (31 : Nat), AObj.vec (Con.ints IntKind.i64 zs) (3 : Nat)] (hd Try.f39 (7 : Nat)))))))))))
  (Tree.need (es.length ≤ (100000 : Nat)) (Tree.need ((0 : tInt.V) ≤ best) (Tree.need (es = [] ∨ best ≤ (↑es.length : Int)) (Tree.need (bs.length ≤ (100000 : Nat)) (Tree.need ((0 : tInt.V) ≤ best) (Tree.need (bs = [] ∨ best ≤ (↑bs.length : Int)) (Tree.ret [AObj.own [AV.s (SV.bool l), AV.s (SV.ro (Con.typ [CK.str, CK.str] es)), AV.s (SV.ro (Con.typ [CK.str, CK.int IntKind.i64] bs))] (31 : Nat), AObj.own [AV.s (SV.bool l), AV.vec (6 : Nat), AV.vec (8 : Nat)] (31 : Nat), AObj.own [AV.s (SV.bool l), AV.vec (7 : Nat), AV.vec (9 : Nat)] (31 : Nat), AObj.vec (Con.ints IntKind.i64 zs) (3 : Nat), AObj.own [AV.s (SV.bool l), AV.vec (6 : Nat), AV.vec (8 : Nat)] (31 : Nat), AObj.own [AV.s (SV.bool l), AV.vec (7 : Nat), AV.vec (9 : Nat)] (31 : Nat), AObj.vec (Con.typ [CK.str, CK.str] (List.take best.toNat es)) (59 : Nat), AObj.vec (Con.typ [CK.str, CK.str] (List.drop best.toNat es)) (59 : Nat), AObj.vec (Con.typ [CK.str, CK.int IntKind.i64] (List.take best.toNat bs)) (36 : Nat), AObj.vec (Con.typ [CK.str, CK.int IntKind.i64] (List.drop best.toNat bs)) (36 : Nat)] (AV.tup [AV.agg [AV.s (SV.bool l), AV.vec (6 : Nat), AV.vec (8 : Nat)], AV.agg [AV.s (SV.bool l), AV.vec (7 : Nat), AV.vec (9 : Nat)], AV.s (SV.ilit IntKind.i64 (0 : Int))])))))))) := by kernel_rfl
noncomputable def cRSpl (l : Bool) (es : List En) (bs : List Br) (m best least i : Int) : Cfg := ⟨sl 63 [(1, .ptr 0 0), (2, .ptr 1 0), (3, .ptr 2 0), (5, .s (.int .i64 m)), (6, .s (.int .i64 best)), (7, .s (.int .i64 least)), (8, .s (.int .i64 i))],
  [obN l es bs eRN, obRZ, obRZ], hd Try.f46 6⟩
theorem loopRSpl (l : Bool) (es : List En) (bs : List Br) (m best least i : Int) : run P tabRSpl.sum Try.f46 nsRSpl (cRSpl l es bs m best least i) =
  Tree.ite (decide (i < m)) (Tree.need (es.length ≤ (100000 : Nat)) (Tree.need (bs.length ≤ (100000 : Nat)) (Tree.need ((0 : tInt.V) ≤ i) (Tree.need (l = true → i ≤ (↑es.length : Int)) (Tree.need (l = false → i ≤ (↑bs.length : Int)) (Tree.need (smallE (cutE l (List.take i.toNat es))) (Tree.need (smallB (cutB l (List.take i.toNat bs))) (Tree.need (smallE (cutE l (List.drop i.toNat es))) (Tree.need (smallB (cutB l (List.drop i.toNat bs))) (Tree.ite (best == (0 : Int)) (Tree.need (inI64 (i + (1 : Int))) (Tree.at (Cfg.mk (sl (63 : Nat) [((1 : Nat), AV.ptr (0 : Nat) (0 : Nat)), ((2 : Nat), AV.ptr (1 : Nat) (0 : Nat)), ((3 : Nat), AV.ptr (2 : Nat) (0 : Nat)), ((5 : Nat), AV.s (SV.int IntKind.i64 m)), ((6 : Nat), AV.s (SV.int IntKind.i64 i)), ((7 : Nat), AV.s (SV.int IntKind.i64 (imax (sizeN (cutE l (List.take i.toNat es)) (cutB l (List.take i.toNat bs))) (sizeN (cutE l (List.drop i.toNat es)) (cutB l (List.drop i.toNat bs)))))), ((8 : Nat), AV.s (SV.int IntKind.i64 (i + (1 : Int))))]) [AObj.own [AV.s (SV.bool l), AV.s (SV.ro (Con.typ [CK.str, CK.str] es)), AV.s (SV.ro (Con.typ [CK.str, CK.int IntKind.i64] bs))] (25 : Nat), AObj.own [AV.s (SV.bool false), AV.emp, AV.emp] (25 : Nat), AObj.own [AV.s (SV.bool false), AV.emp, AV.emp] (25 : Nat)] (hd Try.f46 (6 : Nat))))) (Tree.ite (decide (imax (sizeN (cutE l (List.take i.toNat es)) (cutB l (List.take i.toNat bs))) (sizeN (cutE l (List.drop i.toNat es)) (cutB l (List.drop i.toNat bs))) < least)) (Tree.need (inI64 (i + (1 : Int))) (Tree.at (Cfg.mk (sl (63 : Nat) [((1 : Nat), AV.ptr (0 : Nat) (0 : Nat)), ((2 : Nat), AV.ptr (1 : Nat) (0 : Nat)), ((3 : Nat), AV.ptr (2 : Nat) (0 : Nat)), ((5 : Nat), AV.s (SV.int IntKind.i64 m)), ((6 : Nat), AV.s (SV.int IntKind.i64 i)), ((7 : Nat), AV.s (SV.int IntKind.i64 (imax (sizeN (cutE l (List.take i.toNat es)) (cutB l (List.take i.toNat bs))) (sizeN (cutE l (List.drop i.toNat es)) (cutB l (List.drop i.toNat bs)))))), ((8 : Nat), AV.s (SV.int IntKind.i64 (i + (1 : Int))))]) [AObj.own [AV.s (SV.bool l), AV.s (SV.ro (Con.typ [CK.str, CK.str] es)), AV.s (SV.ro (Con.typ [CK.str, CK.int IntKind.i64] bs))] (25 : Nat), AObj.own [AV.s (SV.bool false), AV.emp, AV.emp] (25 : Nat), AObj.own [AV.s (SV.bool false), AV.emp, AV.emp] (25 : Nat)] (hd Try.f46 (6 : Nat))))) (Tree.need (inI64 (i + (1 : Int))) (Tree.at (Cfg.mk (sl (63 : Nat) [((1 : Nat), AV.ptr (0 : Nat) (0 : Nat)), ((2 : Nat), AV.ptr (1 : Nat) (0 : Nat)), ((3 : Nat), AV.ptr (2 : Nat) (0 : Nat)), ((5 : Nat), AV.s (SV.int IntKind.i64 m)), ((6 : Nat), AV.s (SV.int IntKind.i64 best)), ((7 : Nat), AV.s (SV.int IntKind.i64 least)), ((8 : Nat), AV.s (SV.int IntKind.i64 (i + (1 : Int))))]) [AObj.own [AV.s (SV.bool l), AV.s (SV.ro (Con.typ [CK.str, CK.str] es)), AV.s (SV.ro (Con.typ [CK.str, CK.int IntKind.i64] bs))] (25 : Nat), AObj.own [AV.s (SV.bool false), AV.emp, AV.emp] (25 : Nat), AObj.own [AV.s (SV.bool false), AV.emp, AV.emp] (25 : Nat)] (hd Try.f46 (6 : Nat))))))))))))))))
  (Tree.need (es.length ≤ (100000 : Nat)) (Tree.need (bs.length ≤ (100000 : Nat)) (Tree.need ((0 : tInt.V) ≤ best) (Tree.need (l = true → best ≤ (↑es.length : Int)) (Tree.need (l = false → best ≤ (↑bs.length : Int)) (Tree.ret [AObj.own [AV.s (SV.bool l), AV.s (SV.ro (Con.typ [CK.str, CK.str] es)), AV.s (SV.ro (Con.typ [CK.str, CK.int IntKind.i64] bs))] (25 : Nat), AObj.own [AV.s (SV.bool l), AV.vec (3 : Nat), AV.vec (4 : Nat)] (25 : Nat), AObj.own [AV.s (SV.bool l), AV.vec (5 : Nat), AV.vec (6 : Nat)] (25 : Nat), AObj.vec (Con.typ [CK.str, CK.str] (cutE l (List.take best.toNat ((fun (h : PLift ([CK.str, CK.str] = cE)) => castL h es) (PLift.up (Eq.mpr (id (congrArg (fun (_a : CK) => [_a, CK.str] = [CK.str, CK.str]) (PLift.up rfl).down)) (Eq.mpr (id (congrArg (fun (_a : List CK) => CK.str :: _a = [CK.str, CK.str]) (PLift.up (Eq.mpr (id (congrArg (fun (_a : CK) => [_a] = [CK.str]) (PLift.up rfl).down)) (Eq.mpr (id (congrArg (fun (_a : List CK) => CK.str :: _a = [CK.str]) (PLift.up rfl).down)) (Eq.refl [CK.str])))).down)) (Eq.refl [CK.str, CK.str])))))))) (134 : Nat), AObj.vec (Con.typ [CK.str, CK.int IntKind.i64] (cutB l (List.take best.toNat ((fun (h : PLift ([CK.str, CK.int IntKind.i64] = cB)) => castL h bs) (PLift.up (Eq.mpr (id (congrArg (fun (_a : CK) => [_a, CK.int IntKind.i64] = [CK.str, CK.int IntKind.i64]) (PLift.up rfl).down)) (Eq.mpr (id (congrArg (fun (_a : List CK) => CK.str :: _a = [CK.str, CK.int IntKind.i64]) (PLift.up (Eq.mpr (id (congrArg (fun (_a : CK) => [_a] = [CK.int IntKind.i64]) ((fun (h : PLift (IntKind.i64 = IntKind.i64)) => PLift.up (congrArg CK.int h.down)) (PLift.up (instDecidableEqIntKind._proof_1 IntKind.i64 IntKind.i64 (Nat.eq_of_beq_eq_true (Eq.refl (IntKind.i64.ctorIdx.beq IntKind.i64.ctorIdx)))))).down)) (Eq.mpr (id (congrArg (fun (_a : List CK) => CK.int IntKind.i64 :: _a = [CK.int IntKind.i64]) (PLift.up rfl).down)) (Eq.refl [CK.int IntKind.i64])))).down)) (Eq.refl [CK.str, CK.int IntKind.i64])))))))) (135 : Nat), AObj.vec (Con.typ [CK.str, CK.str] (cutE l (List.drop best.toNat ((fun (h : PLift ([CK.str, CK.str] = cE)) => castL h es) (PLift.up (Eq.mpr (id (congrArg (fun (_a : CK) => [_a, CK.str] = [CK.str, CK.str]) (PLift.up rfl).down)) (Eq.mpr (id (congrArg (fun (_a : List CK) => CK.str :: _a = [CK.str, CK.str]) (PLift.up (Eq.mpr (id (congrArg (fun (_a : CK) => [_a] = [CK.str]) (PLift.up rfl).down)) (Eq.mpr (id (congrArg (fun (_a : List CK) => CK.str :: _a = [CK.str]) (PLift.up rfl).down)) (Eq.refl [CK.str])))).down)) (Eq.refl [CK.str, CK.str])))))))) (134 : Nat), AObj.vec (Con.typ [CK.str, CK.int IntKind.i64] (cutB l (List.drop best.toNat ((fun (h : PLift ([CK.str, CK.int IntKind.i64] = cB)) => castL h bs) (PLift.up (Eq.mpr (id (congrArg (fun (_a : CK) => [_a, CK.int IntKind.i64] = [CK.str, CK.int IntKind.i64]) (PLift.up rfl).down)) (Eq.mpr (id (congrArg (fun (_a : List CK) => CK.str :: _a = [CK.str, CK.int IntKind.i64]) (PLift.up (Eq.mpr (id (congrArg (fun (_a : CK) => [_a] = [CK.int IntKind.i64]) ((fun (h : PLift (IntKind.i64 = IntKind.i64)) => PLift.up (congrArg CK.int h.down)) (PLift.up (instDecidableEqIntKind._proof_1 IntKind.i64 IntKind.i64 (Nat.eq_of_beq_eq_true (Eq.refl (IntKind.i64.ctorIdx.beq IntKind.i64.ctorIdx)))))).down)) (Eq.mpr (id (congrArg (fun (_a : List CK) => CK.int IntKind.i64 :: _a = [CK.int IntKind.i64]) (PLift.up rfl).down)) (Eq.refl [CK.int IntKind.i64])))).down)) (Eq.refl [CK.str, CK.int IntKind.i64])))))))) (135 : Nat), AObj.own [AV.s (SV.bool l), AV.vec (3 : Nat), AV.vec (4 : Nat)] (25 : Nat), AObj.own [AV.s (SV.bool l), AV.vec (5 : Nat), AV.vec (6 : Nat)] (25 : Nat)] (AV.tup [AV.agg [AV.s (SV.bool l), AV.vec (3 : Nat), AV.vec (4 : Nat)], AV.agg [AV.s (SV.bool l), AV.vec (5 : Nat), AV.vec (6 : Nat)], AV.s (SV.ilit IntKind.i64 (0 : Int))]))))))) := by kernel_rfl
theorem clE_ok {Z : Glob} : FnOk P Z 105 [tEs] [tEs] (fun (l, ()) => [(l : List En).length ≤ 100000]) (fun (l, ()) => (l, ())) := by
  refine fnOk_of_safe Try.func105 (by kernel_rfl) (by kernel_rfl) ?_
  rintro ⟨(l : List En), ⟨⟩⟩ _ ⟨(hl : l.length ≤ 100000), _⟩ X hX hz
  refine go hz hX Tab.Ok.nil Try.func105 (treeClE l) ⟨fun h => ?_, fun _ => ⟨by omega, ?_⟩⟩
  · obtain rfl := List.eq_nil_of_length_eq_zero h
    exact ends_eq ([], ()) rfl (by kernel_rfl)
  · exact ends_eq (l, ()) rfl (by kernel_rfl)
theorem clB_ok {Z : Glob} : FnOk P Z 124 [tBs] [tBs] (fun (l, ()) => [(l : List Br).length ≤ 100000]) (fun (l, ()) => (l, ())) := by
  refine fnOk_of_safe Try.func124 (by kernel_rfl) (by kernel_rfl) ?_
  rintro ⟨(l : List Br), ⟨⟩⟩ _ ⟨(hl : l.length ≤ 100000), _⟩ X hX hz
  refine go hz hX Tab.Ok.nil Try.func124 (treeClB l) ⟨fun h => ?_, fun _ => ⟨by omega, ?_⟩⟩
  · obtain rfl := List.eq_nil_of_length_eq_zero h
    exact ends_eq ([], ()) rfl (by kernel_rfl)
  · exact ends_eq (l, ()) rfl (by kernel_rfl)
theorem tabCut_ok {Z : Glob} : tabCut.Ok P Z := Tab.Ok.cons clE_ok.sum (Tab.Ok.cons clB_ok.sum Tab.Ok.nil)
theorem cutE_ok {Z : Glob} : FnOk P Z 101 [tEs, tInt] [tEs, tEs] (fun (l, k, ()) => [(l : List En).length ≤ 100000, 0 ≤ (k : Int), (l = [] ∨ k ≤ (l.length : Int))]) (fun (l, k, ()) => (List.take (Int.toNat k) l, List.drop (Int.toNat k) l, ())) := by
  refine fnOk_of_safe Try.func101 (by kernel_rfl) (by kernel_rfl) ?_
  rintro ⟨(l : List En), (k : Int), ⟨⟩⟩ _ ⟨(hl : l.length ≤ 100000), (h0 : 0 ≤ k), (hk : l = [] ∨ k ≤ (l.length : Int)), _⟩ X hX hz
  show Safe P 101 X (Ends [tEs, tEs] (l.take k.toNat, l.drop k.toNat, ())) _
  refine go hz hX tabCut_ok Try.func101 (treeCutE l k) ⟨fun h => ?_, fun h => ?_⟩
  · obtain rfl : l = [] := List.eq_nil_of_length_eq_zero (by have : (l.length : Int) = 0 := by simpa using h
                                                             omega)
    refine ends_eq (rs := [tEs, tEs]) ([], [], ()) ?_ (by kernel_rfl)
    show (List.take k.toNat ([] : List En), List.drop k.toNat ([] : List En), ()) = ([], [], ())
    rw [List.take_nil, List.drop_nil]
  · have hk : k ≤ (l.length : Int) := hk.elim (fun e => by subst e; simp at h) id
    have e1 : List.drop (Int.toNat 0) (List.take k.toNat l) = l.take k.toNat := rfl
    have e2 : List.drop k.toNat (List.take ((l.length : Int)).toNat l) = l.drop k.toNat := by rw [List.take_of_length_le (by omega)]
    refine ⟨by omega, h0, hk, ?_, h0, hk, by omega, ?_, ?_⟩
    · rw [e1, List.length_take]; omega
    · rw [e2, List.length_drop]; omega
    · exact ends_eq (List.drop (Int.toNat 0) (List.take k.toNat l), List.drop k.toNat (List.take ((l.length : Int)).toNat l), ()) (by rw [e2]; rfl) (by kernel_rfl)
theorem cutB_ok {Z : Glob} : FnOk P Z 102 [tBs, tInt] [tBs, tBs] (fun (l, k, ()) => [(l : List Br).length ≤ 100000, 0 ≤ (k : Int), (l = [] ∨ k ≤ (l.length : Int))]) (fun (l, k, ()) => (List.take (Int.toNat k) l, List.drop (Int.toNat k) l, ())) := by
  refine fnOk_of_safe Try.func102 (by kernel_rfl) (by kernel_rfl) ?_
  rintro ⟨(l : List Br), (k : Int), ⟨⟩⟩ _ ⟨(hl : l.length ≤ 100000), (h0 : 0 ≤ k), (hk : l = [] ∨ k ≤ (l.length : Int)), _⟩ X hX hz
  show Safe P 102 X (Ends [tBs, tBs] (l.take k.toNat, l.drop k.toNat, ())) _
  refine go hz hX tabCut_ok Try.func102 (treeCutB l k) ⟨fun h => ?_, fun h => ?_⟩
  · obtain rfl : l = [] := List.eq_nil_of_length_eq_zero (by have : (l.length : Int) = 0 := by simpa using h
                                                             omega)
    refine ends_eq (rs := [tBs, tBs]) ([], [], ()) ?_ (by kernel_rfl)
    show (List.take k.toNat ([] : List Br), List.drop k.toNat ([] : List Br), ()) = ([], [], ())
    rw [List.take_nil, List.drop_nil]
  · have hk : k ≤ (l.length : Int) := hk.elim (fun e => by subst e; simp at h) id
    have e1 : List.drop (Int.toNat 0) (List.take k.toNat l) = l.take k.toNat := rfl
    have e2 : List.drop k.toNat (List.take ((l.length : Int)).toNat l) = l.drop k.toNat := by rw [List.take_of_length_le (by omega)]
    refine ⟨by omega, h0, hk, ?_, h0, hk, by omega, ?_, ?_⟩
    · rw [e1, List.length_take]; omega
    · rw [e2, List.length_drop]; omega
    · exact ends_eq (List.drop (Int.toNat 0) (List.take k.toNat l), List.drop k.toNat (List.take ((l.length : Int)).toNat l), ()) (by rw [e2]; rfl) (by kernel_rfl)

/-! ### where a node is parted -/
def costS (zs : List Int) (k : Nat) : Int := imax (zs.take k).sum (zs.sum - (zs.take k).sum)
def splB (zs : List Int) : Nat → Nat × Int
  | 0 => (0, 0)
  | k + 1 => if (splB zs k).1 = 0 ∨ costS zs (k + 1) < (splB zs k).2 then (k + 1, costS zs (k + 1)) else splB zs k
theorem splB_le (zs : List Int) : ∀ k, (splB zs k).1 ≤ k
  | 0 => Nat.le_refl _
  | k + 1 => by
    have := splB_le zs k
    rw [splB]
    split
    · exact Nat.le_refl _
    · omega
theorem splB_pos (zs : List Int) : ∀ k, 0 < k → 0 < (splB zs k).1
  | 0, h => absurd h (by omega)
  | k + 1, _ => by
    rw [splB]
    split
    · exact Nat.succ_pos _
    · rename_i h
      exact Nat.pos_of_ne_zero (fun e => h (.inl e))
def bestS (es : List En) (bs : List Br) : Nat := (splB (sizesF es bs) (es.length + bs.length - 1)).1
def splOk (l : Bool) (es : List En) (bs : List Br) : Bool := mayN l es bs && decide (2 ≤ es.length + bs.length)
def spL (l : Bool) (es : List En) (bs : List Br) : Bool := splOk l es bs && l
def spE1 (l : Bool) (es : List En) (bs : List Br) : List En := if splOk l es bs = true then es.take (bestS es bs) else []
def spE2 (l : Bool) (es : List En) (bs : List Br) : List En := if splOk l es bs = true then es.drop (bestS es bs) else []
def spB1 (l : Bool) (es : List En) (bs : List Br) : List Br := if splOk l es bs = true then bs.take (bestS es bs) else []
def spB2 (l : Bool) (es : List En) (bs : List Br) : List Br := if splOk l es bs = true then bs.drop (bestS es bs) else []
def spC (l : Bool) (es : List En) (bs : List Br) : Int := if splOk l es bs = true then 0 else 4
abbrev spY (l : Bool) (es : List En) (bs : List Br) : AL [tNode, tNode, tInt] := ((spL l es bs, spE1 l es bs, spB1 l es bs, ()), (spL l es bs, spE2 l es bs, spB2 l es bs, ()), spC l es bs, ())
theorem spY_no {l : Bool} {es : List En} {bs : List Br} (h : splOk l es bs = false) : spY l es bs = ((false, [], [], ()), (false, [], [], ()), 4, ()) := by
  simp [spY, spL, spE1, spE2, spB1, spB2, spC, h]
  rfl
theorem spY_yes {l : Bool} {es : List En} {bs : List Br} (h : splOk l es bs = true) : spY l es bs = ((l, es.take (bestS es bs), bs.take (bestS es bs), ()), (l, es.drop (bestS es bs), bs.drop (bestS es bs), ()), 0, ()) := by
  simp [spY, spL, spE1, spE2, spB1, spB2, spC, h]
  rfl
theorem sizesF_len (es : List En) (bs : List Br) : (sizesF es bs).length = es.length + bs.length := by simp [sizesF]
theorem pre_range {zs : List Int} (h : ∀ x ∈ zs, 0 ≤ x ∧ x ≤ 2002) (hl : zs.length ≤ 2000) (k : Nat) : 0 ≤ (zs.take k).sum ∧ (zs.take k).sum ≤ 4004000 := by
  have := sum_range (l := zs.take k) (m := 2002) (fun x hx => h x (List.mem_of_mem_take hx)) (by omega)
  have h3 : (zs.take k).length ≤ 2000 := by rw [List.length_take]; omega
  omega

theorem split_ok {Z : Glob} : FnOk P Z 39 [tNode] [tNode, tNode, tInt] (fun ((_, es, bs, ()), ()) => [smallE es, smallB bs])
    (fun ((l, es, bs, ()), ()) => ((spL l es bs, spE1 l es bs, spB1 l es bs, ()), (spL l es bs, spE2 l es bs, spB2 l es bs, ()), spC l es bs, ())) := by
  refine fnOk_of_safe Try.func39 (by kernel_rfl) (by kernel_rfl) ?_
  rintro ⟨⟨(l : Bool), (es : List En), (bs : List Br), ⟨⟩⟩, ⟨⟩⟩ _ ⟨(he : smallE es), (hb : smallB bs), _⟩ X hX hz
  have hT : tabSpl.Ok P Z := Tab.Ok.cons sizes_ok.sum (Tab.Ok.cons may_ok.sum (Tab.Ok.cons size_ok.sum (Tab.Ok.cons cutE_ok.sum (Tab.Ok.cons cutB_ok.sum Tab.Ok.nil))))
  show Safe P 39 X (Ends [tNode, tNode, tInt] (spY l es bs)) _
  have hle := he.1
  have hlb := hb.1
  have hlen := sizesF_len es bs
  have hr := szs_range he hb
  have hpre := pre_range hr (by omega)
  have hsum := hpre (sizesF es bs).length
  rw [List.take_length] at hsum
  have hsz := sizeN_eq es bs
  have loop : splOk l es bs = true → ∀ (n k : Nat), k + n = es.length + bs.length - 1 → Safe P 39 X (Ends [tNode, tNode, tInt] (spY l es bs))
      (cSpl l es bs (sizesF es bs) (es.length + bs.length - 1) ((sizesF es bs).take k).sum ((sizesF es bs).sum - ((sizesF es bs).take k).sum) ((splB (sizesF es bs) k).1 : Int) (splB (sizesF es bs) k).2 (k : Int)) := by
    intro hok n
    have hok' := hok
    simp only [splOk, Bool.and_eq_true, decide_eq_true_eq] at hok'
    obtain ⟨hm, h2⟩ := hok'
    obtain ⟨m1, m2, m3, m4⟩ := mayN_iff hm
    induction n with
    | zero =>
      intro k hk
      have hle2 := splB_le (sizesF es bs) k
      have hE : es = [] ∨ ((splB (sizesF es bs) k).1 : Int) ≤ (es.length : Int) := by
        cases l
        · exact .inl (m2 rfl)
        · have := m1 rfl
          subst this
          simp only [List.length_nil] at hk
          exact .inr (by omega)
      have hB : bs = [] ∨ ((splB (sizesF es bs) k).1 : Int) ≤ (bs.length : Int) := by
        cases l
        · have := m2 rfl
          subst this
          simp only [List.length_nil] at hk
          exact .inr (by omega)
        · exact .inl (m1 rfl)
      refine go hz hX hT Try.func39 (loopSpl l es bs _ _ _ _ _ _ k) ⟨fun h => absurd (of_decide_eq_true h) (by omega), fun h => ⟨by omega, Int.natCast_nonneg _, hE, by omega, Int.natCast_nonneg _, hB, ?_⟩⟩
      have hbest : (splB (sizesF es bs) k).1 = bestS es bs := by rw [bestS, show k = es.length + bs.length - 1 from by omega]
      rw [hbest, spY_yes hok]
      exact ends_eq ((l, es.take (bestS es bs), bs.take (bestS es bs), ()), (l, es.drop (bestS es bs), bs.drop (bestS es bs), ()), 0, ()) rfl (by kernel_rfl)
    | succ n ih =>
      intro k hk
      have h1 := hpre k
      have h3 : 0 ≤ (sizesF es bs).getD k 0 ∧ (sizesF es bs).getD k 0 ≤ 2002 := by
        rw [getD_lt (by omega)]; exact hr _ (List.getElem_mem _)
      have hst := sum_take_snoc (l := sizesF es bs) (k := k) (by omega)
      have hc : imax (((sizesF es bs).take k).sum + (sizesF es bs).getD k 0) ((sizesF es bs).sum - ((sizesF es bs).take k).sum - (sizesF es bs).getD k 0) = costS (sizesF es bs) (k + 1) := by
        rw [costS, ← hst]; congr 1; omega
      have next := ih (k + 1) (by omega)
      rw [← hst, show (sizesF es bs).sum - (((sizesF es bs).take k).sum + (sizesF es bs).getD k 0) = (sizesF es bs).sum - ((sizesF es bs).take k).sum - (sizesF es bs).getD k 0 from by omega] at next
      refine go hz hX hT Try.func39 (loopSpl l es bs _ _ _ _ _ _ k) ?_
      simp only [Int.toNat_natCast, Nat.zero_add, hc]
      refine ⟨fun h => ⟨by omega, by omega, ⟨by omega, by omega⟩, ⟨by omega, by omega⟩, fun h0 => ?_, fun h0 => ⟨fun hlt => ?_, fun hlt => ?_⟩⟩, fun h => absurd (of_decide_eq_false h) (by omega)⟩
      · have h0 : (splB (sizesF es bs) k).1 = 0 := by have : ((splB (sizesF es bs) k).1 : Int) = 0 := by simpa using h0
                                                      omega
        rw [splB, if_pos (.inl h0)] at next
        exact ⟨⟨by omega, by omega⟩, ⟨by omega, by omega⟩, next⟩
      · rw [splB, if_pos (.inr (of_decide_eq_true hlt))] at next
        exact ⟨⟨by omega, by omega⟩, ⟨by omega, by omega⟩, next⟩
      · have h0 : ¬ ((splB (sizesF es bs) k).1 = 0 ∨ costS (sizesF es bs) (k + 1) < (splB (sizesF es bs) k).2) := by
          rintro (h | h)
          · simp [h] at h0
          · exact of_decide_eq_false hlt h
        rw [splB, if_neg h0] at next
        exact ⟨⟨by omega, by omega⟩, next⟩
  have bad : splOk l es bs = false → spY l es bs = ((false, [], [], ()), (false, [], [], ()), 4, ()) := spY_no
  refine go hz hX hT Try.func39 (treeSpl l es bs) ⟨he, hb, fun h => ends_eq ((false, [], [], ()), (false, [], [], ()), 4, ()) (bad ?_) (by kernel_rfl), fun h => ⟨fun h2 => ends_eq ((false, [], [], ()), (false, [], [], ()), 4, ()) (bad ?_) (by kernel_rfl), fun h2 => ?_⟩⟩
  · have h : mayN l es bs = false := by simpa using h
    simp [splOk, h]
  · have h2 := of_decide_eq_true h2
    simp only [splOk, Bool.and_eq_false_iff, decide_eq_false_iff_not]
    exact .inr (by omega)
  · have h : mayN l es bs = true := by simpa using h
    have h2 := of_decide_eq_false h2
    have hok : splOk l es bs = true := by simp only [splOk, h, Bool.true_and, decide_eq_true_eq]; omega
    refine ⟨he, hb, ⟨by omega, by omega⟩, ⟨by omega, by omega⟩, by omega, by omega, by omega, ?_⟩
    have := loop hok (es.length + bs.length - 1) 0 (by omega)
    have e1 : ((((sizesF es bs).length : Int) - 1).toNat - Int.toNat 0) = es.length + bs.length - 1 := by omega
    rw [e1, hsz]
    simp only [List.take_zero, List.sum_nil, Int.sub_zero, splB] at this
    rw [show 1 + (sizesF es bs).sum - 1 = (sizesF es bs).sum from by omega]
    exact this

theorem rcut_ok {Z : Glob} : FnOk P Z 103 [tRN, tInt] [tRN, tRN] (fun ((l, es, bs, ()), k, ()) => [(es : List En).length ≤ 100000, (bs : List Br).length ≤ 100000, 0 ≤ (k : Int), ((l : Bool) = true → k ≤ (es.length : Int)), (l = false → k ≤ (bs.length : Int))])
    (fun ((l, es, bs, ()), k, ()) => ((l, cutE l (List.take (Int.toNat k) es), cutB l (List.take (Int.toNat k) bs), ()), (l, cutE l (List.drop (Int.toNat k) es), cutB l (List.drop (Int.toNat k) bs), ()), ())) := by
  refine fnOk_of_safe Try.func103 (by kernel_rfl) (by kernel_rfl) ?_
  rintro ⟨⟨(l : Bool), (es : List En), (bs : List Br), ⟨⟩⟩, (k : Int), ⟨⟩⟩ _ ⟨(he : es.length ≤ 100000), (hb : bs.length ≤ 100000), (h0 : 0 ≤ k), (h1 : l = true → k ≤ (es.length : Int)), (h2 : l = false → k ≤ (bs.length : Int)), _⟩ X hX hz
  show Safe P 103 X (Ends [tRN, tRN] ((l, cutE l (es.take k.toNat), cutB l (bs.take k.toNat), ()), (l, cutE l (es.drop k.toNat), cutB l (bs.drop k.toNat), ()), ())) _
  have e2 : List.drop k.toNat (List.take ((es.length : Int)).toNat es) = es.drop k.toNat := by rw [List.take_of_length_le (by omega)]
  have e3 : List.drop k.toNat (List.take ((bs.length : Int)).toNat bs) = bs.drop k.toNat := by rw [List.take_of_length_le (by omega)]
  refine go hz hX Tab.Ok.nil Try.func103 (treeRCut l es bs k) ⟨fun hl => ?_, fun hl => ?_⟩
  · have hk := h1 hl
    refine ⟨by omega, h0, hk, ?_, h0, hk, by omega, ?_, ?_⟩
    · show (es.take k.toNat).length ≤ _; rw [List.length_take]; omega
    · rw [e2, List.length_drop]; omega
    · subst hl
      exact ends_eq ((true, List.drop (Int.toNat 0) (List.take k.toNat es), [], ()), (true, List.drop k.toNat (List.take ((es.length : Int)).toNat es), [], ()), ()) (by rw [e2]; rfl) (by kernel_rfl)
  · have hk := h2 hl
    refine ⟨by omega, h0, hk, ?_, h0, hk, by omega, ?_, ?_⟩
    · show (bs.take k.toNat).length ≤ _; rw [List.length_take]; omega
    · rw [e3, List.length_drop]; omega
    · subst hl
      exact ends_eq ((false, [], List.drop (Int.toNat 0) (List.take k.toNat bs), ()), (false, [], List.drop k.toNat (List.take ((bs.length : Int)).toNat bs), ()), ()) (by rw [e3]; rfl) (by kernel_rfl)

theorem smallE_take {es : List En} (h : smallE es) (k : Nat) : smallE (es.take k) := ⟨by have := h.1; rw [List.length_take]; omega, fun x hx => h.2 x (List.mem_of_mem_take hx)⟩
theorem smallB_take {es : List Br} (h : smallB es) (k : Nat) : smallB (es.take k) := ⟨by have := h.1; rw [List.length_take]; omega, fun x hx => h.2 x (List.mem_of_mem_take hx)⟩
theorem smallE_drop {es : List En} (h : smallE es) (k : Nat) : smallE (es.drop k) := ⟨by have := h.1; rw [List.length_drop]; omega, fun x hx => h.2 x (List.mem_of_mem_drop hx)⟩
theorem smallB_drop {es : List Br} (h : smallB es) (k : Nat) : smallB (es.drop k) := ⟨by have := h.1; rw [List.length_drop]; omega, fun x hx => h.2 x (List.mem_of_mem_drop hx)⟩
theorem smallE_nil : smallE [] := ⟨by simp, fun x hx => by simp at hx⟩
theorem smallB_nil : smallB [] := ⟨by simp, fun x hx => by simp at hx⟩
theorem sum_drop (zs : List Int) (k : Nat) : (zs.drop k).sum = zs.sum - (zs.take k).sum := by
  have : (zs.take k ++ zs.drop k).sum = zs.sum := by rw [List.take_append_drop]
  rw [List.sum_append] at this
  omega
theorem sizes_cut {l : Bool} {es : List En} {bs : List Br} (m1 : l = true → bs = []) (m2 : l = false → es = []) (k : Nat) :
    cutE l (es.take k) = es.take k ∧ cutB l (bs.take k) = bs.take k ∧ cutE l (es.drop k) = es.drop k ∧ cutB l (bs.drop k) = bs.drop k ∧
    sizeN (es.take k) (bs.take k) = 1 + ((sizesF es bs).take k).sum ∧ sizeN (es.drop k) (bs.drop k) = 1 + ((sizesF es bs).sum - ((sizesF es bs).take k).sum) := by
  rw [← sum_drop]
  cases l
  · obtain rfl := m2 rfl
    simp [cutE, cutB, sizesF, sizeN]
  · obtain rfl := m1 rfl
    simp [cutE, cutB, sizesF, sizeN]
theorem imax_one (a b : Int) : imax (1 + a) (1 + b) = 1 + imax a b := by
  unfold imax; split <;> split <;> omega

theorem rsplit_ok {Z : Glob} : FnOk P Z 46 [tRN] [tRN, tRN, tInt] (fun ((_, es, bs, ()), ()) => [smallE es, smallB bs])
    (fun ((l, es, bs, ()), ()) => ((spL l es bs, spE1 l es bs, spB1 l es bs, ()), (spL l es bs, spE2 l es bs, spB2 l es bs, ()), spC l es bs, ())) := by
  refine fnOk_of_safe Try.func46 (by kernel_rfl) (by kernel_rfl) ?_
  rintro ⟨⟨(l : Bool), (es : List En), (bs : List Br), ⟨⟩⟩, ⟨⟩⟩ _ ⟨(he : smallE es), (hb : smallB bs), _⟩ X hX hz
  have hT : tabRSpl.Ok P Z := Tab.Ok.cons rmay_ok.sum (Tab.Ok.cons rsize_ok.sum (Tab.Ok.cons rcut_ok.sum Tab.Ok.nil))
  show Safe P 46 X (Ends [tRN, tRN, tInt] (spY l es bs)) _
  have hle := he.1
  have hlb := hb.1
  have hlen := sizesF_len es bs
  have loop : splOk l es bs = true → ∀ (n k : Nat), k + n = es.length + bs.length - 1 → Safe P 46 X (Ends [tRN, tRN, tInt] (spY l es bs))
      (cRSpl l es bs ((es.length : Int) + (bs.length : Int)) ((splB (sizesF es bs) k).1 : Int) (if (splB (sizesF es bs) k).1 = 0 then 0 else 1 + (splB (sizesF es bs) k).2) ((k : Int) + 1)) := by
    intro hok n
    have hok' := hok
    simp only [splOk, Bool.and_eq_true, decide_eq_true_eq] at hok'
    obtain ⟨hm, h2⟩ := hok'
    obtain ⟨m1, m2, m3, m4⟩ := mayN_iff hm
    have lenE : l = true → es.length + bs.length = es.length := fun h => by rw [m1 h]; rfl
    have lenB : l = false → es.length + bs.length = bs.length := fun h => by rw [m2 h]; simp
    induction n with
    | zero =>
      intro k hk
      have hle2 := splB_le (sizesF es bs) k
      refine go hz hX hT Try.func46 (loopRSpl l es bs _ _ _ _) ⟨fun h => absurd (of_decide_eq_true h) (by omega), fun h => ⟨by omega, by omega, Int.natCast_nonneg _, fun hl => ?_, fun hl => ?_, ?_⟩⟩
      · have := lenE hl; omega
      · have := lenB hl; omega
      · have hbest : (splB (sizesF es bs) k).1 = bestS es bs := by rw [bestS, show k = es.length + bs.length - 1 from by omega]
        obtain ⟨c1, c2, c3, c4, _⟩ := sizes_cut m1 m2 (bestS es bs)
        rw [hbest]
        refine ends_eq ((l, cutE l (es.take (bestS es bs)), cutB l (bs.take (bestS es bs)), ()), (l, cutE l (es.drop (bestS es bs)), cutB l (bs.drop (bestS es bs)), ()), 0, ()) ?_ (by kernel_rfl)
        rw [c1, c2, c3, c4]
        exact spY_yes hok
    | succ n ih =>
      intro k hk
      obtain ⟨c1, c2, c3, c4, c5, c6⟩ := sizes_cut m1 m2 (k + 1)
      have next := ih (k + 1) (by omega)
      have hcost : imax (sizeN (es.take (k + 1)) (bs.take (k + 1))) (sizeN (es.drop (k + 1)) (bs.drop (k + 1))) = 1 + costS (sizesF es bs) (k + 1) := by rw [c5, c6, imax_one]; rfl
      refine go hz hX hT Try.func46 (loopRSpl l es bs _ _ _ _) ?_
      rw [show ((k : Int) + 1).toNat = k + 1 from by omega]
      refine ⟨fun h => ⟨by omega, by omega, ?_, fun hl => ?_, fun hl => ?_, ?_, ?_, ?_, ?_, fun h0 => ⟨⟨by omega, by omega⟩, ?_⟩, fun h0 => ⟨fun hlt => ⟨⟨by omega, by omega⟩, ?_⟩, fun hlt => ⟨⟨by omega, by omega⟩, ?_⟩⟩⟩, fun h => absurd (of_decide_eq_false h) (by omega)⟩
      · show (0 : Int) ≤ (k : Int) + 1; omega
      · have := lenE hl; omega
      · have := lenB hl; omega
      · exact c1.symm ▸ smallE_take he (k + 1)
      · exact c2.symm ▸ smallB_take hb (k + 1)
      · exact c3.symm ▸ smallE_drop he (k + 1)
      · exact c4.symm ▸ smallB_drop hb (k + 1)
      · have h0 : (splB (sizesF es bs) k).1 = 0 := by have : ((splB (sizesF es bs) k).1 : Int) = 0 := by simpa using h0
                                                      omega
        rw [splB, if_pos (.inl h0)] at next
        have e : imax (sizeN (cutE l (es.take (k + 1))) (cutB l (bs.take (k + 1)))) (sizeN (cutE l (es.drop (k + 1))) (cutB l (bs.drop (k + 1)))) = (if k + 1 = 0 then 0 else 1 + costS (sizesF es bs) (k + 1)) := by
          rw [c1, c2, c3, c4, hcost, if_neg (by omega)]
        rw [← e] at next
        exact next
      · have h0 : (splB (sizesF es bs) k).1 ≠ 0 := fun e => by simp [e] at h0
        have hlt : imax (sizeN (cutE l (es.take (k + 1))) (cutB l (bs.take (k + 1)))) (sizeN (cutE l (es.drop (k + 1))) (cutB l (bs.drop (k + 1)))) < (if (splB (sizesF es bs) k).1 = 0 then 0 else 1 + (splB (sizesF es bs) k).2) := of_decide_eq_true hlt
        have e : imax (sizeN (cutE l (es.take (k + 1))) (cutB l (bs.take (k + 1)))) (sizeN (cutE l (es.drop (k + 1))) (cutB l (bs.drop (k + 1)))) = (if k + 1 = 0 then 0 else 1 + costS (sizesF es bs) (k + 1)) := by
          rw [c1, c2, c3, c4, hcost, if_neg (by omega)]
        have hlt2 : costS (sizesF es bs) (k + 1) < (splB (sizesF es bs) k).2 := by
          rw [e, if_neg h0, if_neg (by omega)] at hlt; omega
        rw [splB, if_pos (.inr hlt2), ← e] at next
        exact next
      · have h0 : (splB (sizesF es bs) k).1 ≠ 0 := fun e => by simp [e] at h0
        have hlt : ¬ imax (sizeN (cutE l (es.take (k + 1))) (cutB l (bs.take (k + 1)))) (sizeN (cutE l (es.drop (k + 1))) (cutB l (bs.drop (k + 1)))) < (if (splB (sizesF es bs) k).1 = 0 then 0 else 1 + (splB (sizesF es bs) k).2) := of_decide_eq_false hlt
        have e : imax (sizeN (cutE l (es.take (k + 1))) (cutB l (bs.take (k + 1)))) (sizeN (cutE l (es.drop (k + 1))) (cutB l (bs.drop (k + 1)))) = 1 + costS (sizesF es bs) (k + 1) := by
          rw [c1, c2, c3, c4, hcost]
        have hlt2 : ¬ ((splB (sizesF es bs) k).1 = 0 ∨ costS (sizesF es bs) (k + 1) < (splB (sizesF es bs) k).2) := by
          rw [e, if_neg h0] at hlt
          rintro (h | h)
          · exact h0 h
          · omega
        rw [splB, if_neg hlt2] at next
        exact next
  refine go hz hX hT Try.func46 (treeRSpl l es bs) ⟨⟨by omega, by omega⟩, fun h => ends_eq ((false, [], [], ()), (false, [], [], ()), 4, ()) (spY_no ?_) (by kernel_rfl), fun h => ⟨fun h2 => ends_eq ((false, [], [], ()), (false, [], [], ()), 4, ()) (spY_no ?_) (by kernel_rfl), fun h2 => ?_⟩⟩
  · have h : mayN l es bs = false := by simpa using h
    simp [splOk, h]
  · have h2 := of_decide_eq_true h2
    simp only [splOk, Bool.and_eq_false_iff, decide_eq_false_iff_not]
    exact .inr (by omega)
  · have h : mayN l es bs = true := by simpa using h
    have h2 := of_decide_eq_false h2
    have hok : splOk l es bs = true := by simp only [splOk, h, Bool.true_and, decide_eq_true_eq]; omega
    exact loop hok (es.length + bs.length - 1) 0 (by omega)
end Lf
