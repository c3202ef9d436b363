import Derived.Test.YtjofgphbmdbkmaaDoorBx7
namespace Bx
open Go Go.Sx Go.Proofs
/-! the document's sets -/
abbrev tR : Ty := .st [.rrow (.ints .i64) 3]
def ns33 : List (Nat × Norm) := [(2, ⟨[], [1, 2, 5], 0, []⟩)]
noncomputable def c33 (l : List Int) (n i : Int) : Cfg := ⟨sl 20 [(1, .s (.int .i64 n)), (2, .ptr 0 0), (5, .s (.int .i64 i))], [.own [.s (.ro (.ints .i64 l))] 40], hd Tryd.f33 2⟩
theorem tree33 (l : List Int) (n : Int) : run P tab0.sum Tryd.f33 ns33 (start Tryd.f33 [.agg [.s (.ro (.ints .i64 l))], .s (.int .i64 n)] []) =
  Tree.at { tmps := sl (20 : Nat) [((1 : Nat), AV.s (SV.int IntKind.i64 n)), ((2 : Nat), AV.ptr (0 : Nat) (0 : Nat)), ((5 : Nat), AV.s (SV.int IntKind.i64 (0 : Int)))], H := [AObj.own [AV.s (SV.ro (Con.ints IntKind.i64 l))] (40 : Nat)], todo := hd Tryd.f33 (2 : Nat) } := by kernel_rfl
theorem loop33 (l : List Int) (n i : Int) : run P tab0.sum Tryd.f33 ns33 (c33 l n i) =
  Tree.ite (decide (i < (↑l.length : Int))) (Tree.need ((0 : Int) ≤ i) (Tree.need (i < (↑l.length : Int)) (Tree.ite (l.getD i.toNat (0 : Int) == n) (Tree.ret [AObj.own [AV.s (SV.ro (Con.ints IntKind.i64 l))] (40 : Nat)] (AV.s (SV.blit true))) (Tree.need (inI64 (i + (1 : Int))) (Tree.at { tmps := sl (20 : Nat) [((1 : Nat), AV.s (SV.int IntKind.i64 n)), ((2 : Nat), AV.ptr (0 : Nat) (0 : Nat)), ((5 : Nat), AV.s (SV.int IntKind.i64 (i + (1 : Int))))], H := [AObj.own [AV.s (SV.ro (Con.ints IntKind.i64 l))] (40 : Nat)], todo := hd Tryd.f33 (2 : Nat) }))))) (Tree.ret [AObj.own [AV.s (SV.ro (Con.ints IntKind.i64 l))] (40 : Nat)] (AV.s (SV.blit false))) := by kernel_rfl
def rHas (l : List Int) (n : Int) : Bool := decide (n ∈ l)
abbrev s33 := sumOf [tR, tInt] [tBool] (fun _ => []) (fun ((l, ()), n, ()) => (rHas l n, ()))
def tab8 : Tab := [(33, s33)]
def ns28 : List (Nat × Norm) := [(6, ⟨[(5, .ints .i64 [], 3)], [1, 2, 4, 5, 6, 7], 0, []⟩)]
noncomputable def c28 (l : List Int) (n : Int) (out : List Int) (put : Bool) (i : Int) : Cfg := ⟨sl 58 [(1, .s (.int .i64 n)), (2, .ptr 0 0), (4, .ptr 1 0), (5, .vec 2), (6, .s (.bool put)), (7, .s (.int .i64 i))], [.own [.s (.ro (.ints .i64 l))] 40, .own [.emp] 40, .vec (.ints .i64 out) 3], hd Tryd.f28 6⟩
theorem tree28 (l : List Int) (n : Int) : run P tab8.sum Tryd.f28 ns28 (start Tryd.f28 [.agg [.s (.ro (.ints .i64 l))], .s (.int .i64 n)] []) =
  Tree.ite (decide (n < (0 : Int))) (Tree.ret [AObj.own [AV.s (SV.ro (Con.ints IntKind.i64 l))] (40 : Nat), AObj.own [AV.s (SV.ro (Con.ints IntKind.i64 l))] (40 : Nat)] (AV.agg [AV.s (SV.ro (Con.ints IntKind.i64 l))])) (Tree.ite (decide (n > (1023 : Int))) (Tree.ret [AObj.own [AV.s (SV.ro (Con.ints IntKind.i64 l))] (40 : Nat), AObj.own [AV.s (SV.ro (Con.ints IntKind.i64 l))] (40 : Nat)] (AV.agg [AV.s (SV.ro (Con.ints IntKind.i64 l))])) (Tree.ite (rHas l n) (Tree.ret [AObj.own [AV.s (SV.ro (Con.ints IntKind.i64 l))] (40 : Nat), AObj.own [AV.s (SV.ro (Con.ints IntKind.i64 l))] (40 : Nat)] (AV.agg [AV.s (SV.ro (Con.ints IntKind.i64 l))])) (Tree.at { tmps := sl (58 : Nat) [((1 : Nat), AV.s (SV.int IntKind.i64 n)), ((2 : Nat), AV.ptr (0 : Nat) (0 : Nat)), ((4 : Nat), AV.ptr (1 : Nat) (0 : Nat)), ((5 : Nat), AV.vec (2 : Nat)), ((6 : Nat), AV.s (SV.bool false)), ((7 : Nat), AV.s (SV.int IntKind.i64 (0 : Int)))], H := [AObj.own [AV.s (SV.ro (Con.ints IntKind.i64 l))] (40 : Nat), AObj.own [AV.emp] (40 : Nat), AObj.vec (Con.ints IntKind.i64 []) (3 : Nat)], todo := hd Tryd.f28 (6 : Nat) }))) := by kernel_rfl
theorem loop28 (l : List Int) (n : Int) (out : List Int) (put : Bool) (i : Int) : run P tab8.sum Tryd.f28 ns28 (c28 l n out put i) =
  Tree.ite (decide (i < (↑l.length : Int))) (Tree.need ((0 : Int) ≤ i) (Tree.need (i < (↑l.length : Int)) (Tree.ite (decide (l.getD i.toNat (0 : Int) > n)) (Tree.ite (!put) (Tree.need (out.length + (1 : Nat) ≤ (4294967296 : Nat)) (Tree.need ((0 : Int) ≤ i) (Tree.need (i < (↑l.length : Int)) (Tree.need ((out ++ [n]).length + (1 : Nat) ≤ (4294967296 : Nat)) (Tree.need (inI64 (i + (1 : Int))) (Tree.at { tmps := sl (58 : Nat) [((1 : Nat), AV.s (SV.int IntKind.i64 n)), ((2 : Nat), AV.ptr (0 : Nat) (0 : Nat)), ((4 : Nat), AV.ptr (1 : Nat) (0 : Nat)), ((5 : Nat), AV.vec (2 : Nat)), ((6 : Nat), AV.s (SV.bool true)), ((7 : Nat), AV.s (SV.int IntKind.i64 (i + (1 : Int))))], H := [AObj.own [AV.s (SV.ro (Con.ints IntKind.i64 l))] (40 : Nat), AObj.own [AV.emp] (40 : Nat), AObj.vec (Con.ints IntKind.i64 (out ++ [n] ++ [l.getD i.toNat (0 : Int)])) (3 : Nat)], todo := hd Tryd.f28 (6 : Nat) })))))) (Tree.need ((0 : Int) ≤ i) (Tree.need (i < (↑l.length : Int)) (Tree.need (out.length + (1 : Nat) ≤ (4294967296 : Nat)) (Tree.need (inI64 (i + (1 : Int))) (Tree.at { tmps := sl (58 : Nat) [((1 : Nat), AV.s (SV.int IntKind.i64 n)), ((2 : Nat), AV.ptr (0 : Nat) (0 : Nat)), ((4 : Nat), AV.ptr (1 : Nat) (0 : Nat)), ((5 : Nat), AV.vec (2 : Nat)), ((6 : Nat), AV.s (SV.bool put)), ((7 : Nat), AV.s (SV.int IntKind.i64 (i + (1 : Int))))], H := [AObj.own [AV.s (SV.ro (Con.ints IntKind.i64 l))] (40 : Nat), AObj.own [AV.emp] (40 : Nat), AObj.vec (Con.ints IntKind.i64 (out ++ [l.getD i.toNat (0 : Int)])) (3 : Nat)], todo := hd Tryd.f28 (6 : Nat) })))))) (Tree.need ((0 : Int) ≤ i) (Tree.need (i < (↑l.length : Int)) (Tree.need (out.length + (1 : Nat) ≤ (4294967296 : Nat)) (Tree.need (inI64 (i + (1 : Int))) (Tree.at { tmps := sl (58 : Nat) [((1 : Nat), AV.s (SV.int IntKind.i64 n)), ((2 : Nat), AV.ptr (0 : Nat) (0 : Nat)), ((4 : Nat), AV.ptr (1 : Nat) (0 : Nat)), ((5 : Nat), AV.vec (2 : Nat)), ((6 : Nat), AV.s (SV.bool put)), ((7 : Nat), AV.s (SV.int IntKind.i64 (i + (1 : Int))))], H := [AObj.own [AV.s (SV.ro (Con.ints IntKind.i64 l))] (40 : Nat), AObj.own [AV.emp] (40 : Nat), AObj.vec (Con.ints IntKind.i64 (out ++ [l.getD i.toNat (0 : Int)])) (3 : Nat)], todo := hd Tryd.f28 (6 : Nat) })))))))) (Tree.ite (!put) (Tree.need (out.length + (1 : Nat) ≤ (4294967296 : Nat)) (Tree.ret [AObj.own [AV.s (SV.ro (Con.ints IntKind.i64 l))] (40 : Nat), AObj.own [AV.vec (4 : Nat)] (40 : Nat), AObj.dead, AObj.vec (Con.ints IntKind.i64 [n]) (3 : Nat), AObj.vec (Con.ints IntKind.i64 (out ++ [n])) (3 : Nat)] (AV.agg [AV.vec (4 : Nat)]))) (Tree.ret [AObj.own [AV.s (SV.ro (Con.ints IntKind.i64 l))] (40 : Nat), AObj.own [AV.vec (2 : Nat)] (40 : Nat), AObj.vec (Con.ints IntKind.i64 out) (3 : Nat)] (AV.agg [AV.vec (2 : Nat)]))) := by kernel_rfl
def wr (n : Int) : Bool → List Int → List Int
  | put, [] => if put = true then [] else [n]
  | put, x :: xs => if x > n ∧ put = false then n :: x :: wr n true xs else x :: wr n put xs
def rWith (l : List Int) (n : Int) : List Int := if n < 0 ∨ n > 1023 ∨ n ∈ l then l else wr n false l
abbrev s28 := sumR [tR, tInt] [tR] (fun ((l, ()), _, ()) => [l.length < 4294967296]) (fun ((l, ()), n, ()) => ((rWith l n, ()), ()))
def tab9 : Tab := [(28, s28)]
def ns24 : List (Nat × Norm) := [(3, ⟨[], [0, 2, 3, 4], 0, [(1, 0, true, .ints .i64 [], 3)]⟩)]
noncomputable def c24 (l r : List Int) (i : Int) : Cfg := ⟨sl 18 [(0, .s (.ro (.ints .i64 l))), (2, .ptr 0 0), (3, .ptr 1 0), (4, .s (.int .i64 i))], [.own [.emp] 40, .own [.s (.ro (.ints .i64 r))] 40], hd Tryd.f24 3⟩
theorem tree24 (l : List Int) : run P tab9.sum Tryd.f24 ns24 (start Tryd.f24 [.s (.ro (.ints .i64 l))] []) =
  Tree.at { tmps := sl (18 : Nat) [((0 : Nat), AV.s (SV.ro (Con.ints IntKind.i64 l))), ((2 : Nat), AV.ptr (0 : Nat) (0 : Nat)), ((3 : Nat), AV.ptr (1 : Nat) (0 : Nat)), ((4 : Nat), AV.s (SV.int IntKind.i64 (0 : Int)))], H := [AObj.own [AV.emp] (40 : Nat), AObj.own [AV.s (SV.ro (Con.ints IntKind.i64 []))] (40 : Nat)], todo := hd Tryd.f24 (3 : Nat) } := by kernel_rfl
theorem loop24 (l r : List Int) (i : Int) : run P tab9.sum Tryd.f24 ns24 (c24 l r i) =
  Tree.ite (decide (i < (↑l.length : Int))) (Tree.need ((0 : Int) ≤ i) (Tree.need (i < (↑l.length : Int)) (Tree.need (r.length < (4294967296 : Nat)) (Tree.need (inI64 (i + (1 : Int))) (Tree.at { tmps := sl (18 : Nat) [((0 : Nat), AV.s (SV.ro (Con.ints IntKind.i64 l))), ((2 : Nat), AV.ptr (0 : Nat) (0 : Nat)), ((3 : Nat), AV.ptr (1 : Nat) (0 : Nat)), ((4 : Nat), AV.s (SV.int IntKind.i64 (i + (1 : Int))))], H := [AObj.own [AV.emp] (40 : Nat), AObj.own [AV.s (SV.ro (Con.ints IntKind.i64 (rWith r (l.getD i.toNat (0 : Int)))))] (40 : Nat)], todo := hd Tryd.f24 (3 : Nat) }))))) (Tree.ret [AObj.own [AV.s (SV.ro (Con.ints IntKind.i64 r))] (40 : Nat), AObj.own [AV.s (SV.ro (Con.ints IntKind.i64 r))] (40 : Nat)] (AV.agg [AV.s (SV.ro (Con.ints IntKind.i64 r))])) := by kernel_rfl
def ns25 : List (Nat × Norm) := [(2, ⟨[], [1, 2, 6], 0, []⟩)]
noncomputable def c25 (l : List Int) (n i : Int) : Cfg := ⟨sl 26 [(1, .s (.int .i64 n)), (2, .ptr 0 0), (6, .s (.int .i64 i))], [.own [.s (.ro (.ints .i64 l))] 40], hd Tryd.f25 2⟩
theorem tree25 (l : List Int) (n : Int) : run P tab0.sum Tryd.f25 ns25 (start Tryd.f25 [.agg [.s (.ro (.ints .i64 l))], .s (.int .i64 n)] []) =
  Tree.at { tmps := sl (26 : Nat) [((1 : Nat), AV.s (SV.int IntKind.i64 n)), ((2 : Nat), AV.ptr (0 : Nat) (0 : Nat)), ((6 : Nat), AV.s (SV.int IntKind.i64 (0 : Int)))], H := [AObj.own [AV.s (SV.ro (Con.ints IntKind.i64 l))] (40 : Nat)], todo := hd Tryd.f25 (2 : Nat) } := by kernel_rfl
theorem loop25 (l : List Int) (n i : Int) : run P tab0.sum Tryd.f25 ns25 (c25 l n i) =
  Tree.ite (decide (i < (↑l.length : Int))) (Tree.need ((0 : Int) ≤ i) (Tree.need (i < (↑l.length : Int)) (Tree.ite (decide (l.getD i.toNat (0 : Int) ≥ n)) (Tree.need ((0 : Int) ≤ i) (Tree.need (i < (↑l.length : Int)) (Tree.ret [AObj.own [AV.s (SV.ro (Con.ints IntKind.i64 l))] (40 : Nat)] (AV.tup [AV.s (SV.int IntKind.i64 (l.getD i.toNat (0 : Int))), AV.s (SV.blit true)])))) (Tree.need (inI64 (i + (1 : Int))) (Tree.at { tmps := sl (26 : Nat) [((1 : Nat), AV.s (SV.int IntKind.i64 n)), ((2 : Nat), AV.ptr (0 : Nat) (0 : Nat)), ((6 : Nat), AV.s (SV.int IntKind.i64 (i + (1 : Int))))], H := [AObj.own [AV.s (SV.ro (Con.ints IntKind.i64 l))] (40 : Nat)], todo := hd Tryd.f25 (2 : Nat) }))))) (Tree.ret [AObj.own [AV.s (SV.ro (Con.ints IntKind.i64 l))] (40 : Nat)] (AV.tup [AV.s (SV.ilit IntKind.i64 (0 : Int)), AV.s (SV.blit false)])) := by kernel_rfl
def ns27 : List (Nat × Norm) := [(3, ⟨[(3, .ints .i64 [], 3)], [0, 2, 3, 4], 0, []⟩)]
noncomputable def c27 (n : Int) (out : List Int) (i : Int) : Cfg := ⟨sl 20 [(0, .s (.int .i64 n)), (2, .ptr 0 0), (3, .vec 1), (4, .s (.int .i64 i))], [.own [.emp] 40, .vec (.ints .i64 out) 3], hd Tryd.f27 3⟩
theorem tree27 (n : Int) : run P tab0.sum Tryd.f27 ns27 (start Tryd.f27 [.s (.int .i64 n)] []) =
  Tree.at { tmps := sl (20 : Nat) [((0 : Nat), AV.s (SV.int IntKind.i64 n)), ((2 : Nat), AV.ptr (0 : Nat) (0 : Nat)), ((3 : Nat), AV.vec (1 : Nat)), ((4 : Nat), AV.s (SV.int IntKind.i64 (0 : Int)))], H := [AObj.own [AV.emp] (40 : Nat), AObj.vec (Con.ints IntKind.i64 []) (3 : Nat)], todo := hd Tryd.f27 (3 : Nat) } := by kernel_rfl
theorem loop27 (n : Int) (out : List Int) (i : Int) : run P tab0.sum Tryd.f27 ns27 (c27 n out i) =
  Tree.ite (decide (i < n)) (Tree.ite (decide (i < (1024 : Int))) (Tree.need (out.length + (1 : Nat) ≤ (4294967296 : Nat)) (Tree.need (inI64 (i + (1 : Int))) (Tree.at { tmps := sl (20 : Nat) [((0 : Nat), AV.s (SV.int IntKind.i64 n)), ((2 : Nat), AV.ptr (0 : Nat) (0 : Nat)), ((3 : Nat), AV.vec (1 : Nat)), ((4 : Nat), AV.s (SV.int IntKind.i64 (i + (1 : Int))))], H := [AObj.own [AV.emp] (40 : Nat), AObj.vec (Con.ints IntKind.i64 (out ++ [i])) (3 : Nat)], todo := hd Tryd.f27 (3 : Nat) }))) (Tree.ret [AObj.own [AV.vec (1 : Nat)] (40 : Nat), AObj.vec (Con.ints IntKind.i64 out) (3 : Nat)] (AV.agg [AV.vec (1 : Nat)]))) (Tree.ret [AObj.own [AV.vec (1 : Nat)] (40 : Nat), AObj.vec (Con.ints IntKind.i64 out) (3 : Nat)] (AV.agg [AV.vec (1 : Nat)])) := by kernel_rfl
def ns29 : List (Nat × Norm) := [(3, ⟨[(5, .ints .i64 [], 3)], [1, 2, 4, 5, 6], 0, []⟩)]
noncomputable def c29 (l : List Int) (n : Int) (out : List Int) (i : Int) : Cfg := ⟨sl 31 [(1, .s (.int .i64 n)), (2, .ptr 0 0), (4, .ptr 1 0), (5, .vec 2), (6, .s (.int .i64 i))], [.own [.s (.ro (.ints .i64 l))] 40, .own [.emp] 40, .vec (.ints .i64 out) 3], hd Tryd.f29 3⟩
theorem tree29 (l : List Int) (n : Int) : run P tab0.sum Tryd.f29 ns29 (start Tryd.f29 [.agg [.s (.ro (.ints .i64 l))], .s (.int .i64 n)] []) =
  Tree.at { tmps := sl (31 : Nat) [((1 : Nat), AV.s (SV.int IntKind.i64 n)), ((2 : Nat), AV.ptr (0 : Nat) (0 : Nat)), ((4 : Nat), AV.ptr (1 : Nat) (0 : Nat)), ((5 : Nat), AV.vec (2 : Nat)), ((6 : Nat), AV.s (SV.int IntKind.i64 (0 : Int)))], H := [AObj.own [AV.s (SV.ro (Con.ints IntKind.i64 l))] (40 : Nat), AObj.own [AV.emp] (40 : Nat), AObj.vec (Con.ints IntKind.i64 []) (3 : Nat)], todo := hd Tryd.f29 (3 : Nat) } := by kernel_rfl
theorem loop29 (l : List Int) (n : Int) (out : List Int) (i : Int) : run P tab0.sum Tryd.f29 ns29 (c29 l n out i) =
  Tree.ite (decide (i < (↑l.length : Int))) (Tree.need ((0 : Int) ≤ i) (Tree.need (i < (↑l.length : Int)) (Tree.ite (l.getD i.toNat (0 : Int) != n) (Tree.need ((0 : Int) ≤ i) (Tree.need (i < (↑l.length : Int)) (Tree.need (out.length + (1 : Nat) ≤ (4294967296 : Nat)) (Tree.need (inI64 (i + (1 : Int))) (Tree.at { tmps := sl (31 : Nat) [((1 : Nat), AV.s (SV.int IntKind.i64 n)), ((2 : Nat), AV.ptr (0 : Nat) (0 : Nat)), ((4 : Nat), AV.ptr (1 : Nat) (0 : Nat)), ((5 : Nat), AV.vec (2 : Nat)), ((6 : Nat), AV.s (SV.int IntKind.i64 (i + (1 : Int))))], H := [AObj.own [AV.s (SV.ro (Con.ints IntKind.i64 l))] (40 : Nat), AObj.own [AV.emp] (40 : Nat), AObj.vec (Con.ints IntKind.i64 (out ++ [l.getD i.toNat (0 : Int)])) (3 : Nat)], todo := hd Tryd.f29 (3 : Nat) }))))) (Tree.need (inI64 (i + (1 : Int))) (Tree.at { tmps := sl (31 : Nat) [((1 : Nat), AV.s (SV.int IntKind.i64 n)), ((2 : Nat), AV.ptr (0 : Nat) (0 : Nat)), ((4 : Nat), AV.ptr (1 : Nat) (0 : Nat)), ((5 : Nat), AV.vec (2 : Nat)), ((6 : Nat), AV.s (SV.int IntKind.i64 (i + (1 : Int))))], H := [AObj.own [AV.s (SV.ro (Con.ints IntKind.i64 l))] (40 : Nat), AObj.own [AV.emp] (40 : Nat), AObj.vec (Con.ints IntKind.i64 out) (3 : Nat)], todo := hd Tryd.f29 (3 : Nat) }))))) (Tree.ret [AObj.own [AV.s (SV.ro (Con.ints IntKind.i64 l))] (40 : Nat), AObj.own [AV.vec (2 : Nat)] (40 : Nat), AObj.vec (Con.ints IntKind.i64 out) (3 : Nat)] (AV.agg [AV.vec (2 : Nat)])) := by kernel_rfl
def ns30 : List (Nat × Norm) := [(3, ⟨[], [3, 4, 5, 6], 0, []⟩)]
noncomputable def c30 (m r : List Int) (i : Int) : Cfg := ⟨sl 23 [(3, .ptr 0 0), (4, .ptr 1 0), (5, .ptr 2 0), (6, .s (.int .i64 i))], [.own [.s (.ro (.ints .i64 m))] 40, .own [.emp] 40, .own [.s (.ro (.ints .i64 r))] 40], hd Tryd.f30 3⟩
theorem tree30 (l m : List Int) : run P tab9.sum Tryd.f30 ns30 (start Tryd.f30 [.agg [.s (.ro (.ints .i64 l))], .agg [.s (.ro (.ints .i64 m))]] []) =
  Tree.at { tmps := sl (23 : Nat) [((3 : Nat), AV.ptr (0 : Nat) (0 : Nat)), ((4 : Nat), AV.ptr (1 : Nat) (0 : Nat)), ((5 : Nat), AV.ptr (2 : Nat) (0 : Nat)), ((6 : Nat), AV.s (SV.int IntKind.i64 (0 : Int)))], H := [AObj.own [AV.s (SV.ro (Con.ints IntKind.i64 m))] (40 : Nat), AObj.own [AV.emp] (40 : Nat), AObj.own [AV.s (SV.ro (Con.ints IntKind.i64 l))] (40 : Nat)], todo := hd Tryd.f30 (3 : Nat) } := by kernel_rfl
theorem loop30 (m r : List Int) (i : Int) : run P tab9.sum Tryd.f30 ns30 (c30 m r i) =
  Tree.ite (decide (i < (↑m.length : Int))) (Tree.need ((0 : Int) ≤ i) (Tree.need (i < (↑m.length : Int)) (Tree.need (r.length < (4294967296 : Nat)) (Tree.need (inI64 (i + (1 : Int))) (Tree.at { tmps := sl (23 : Nat) [((3 : Nat), AV.ptr (0 : Nat) (0 : Nat)), ((4 : Nat), AV.ptr (1 : Nat) (0 : Nat)), ((5 : Nat), AV.ptr (2 : Nat) (0 : Nat)), ((6 : Nat), AV.s (SV.int IntKind.i64 (i + (1 : Int))))], H := [AObj.own [AV.s (SV.ro (Con.ints IntKind.i64 m))] (40 : Nat), AObj.own [AV.emp] (40 : Nat), AObj.own [AV.s (SV.ro (Con.ints IntKind.i64 (rWith r (m.getD i.toNat (0 : Int)))))] (40 : Nat)], todo := hd Tryd.f30 (3 : Nat) }))))) (Tree.ret [AObj.own [AV.s (SV.ro (Con.ints IntKind.i64 m))] (40 : Nat), AObj.own [AV.s (SV.ro (Con.ints IntKind.i64 r))] (40 : Nat), AObj.own [AV.s (SV.ro (Con.ints IntKind.i64 r))] (40 : Nat)] (AV.agg [AV.s (SV.ro (Con.ints IntKind.i64 r))])) := by kernel_rfl
def ns31 : List (Nat × Norm) := [(3, ⟨[(5, .ints .i64 [], 3)], [2, 3, 4, 5, 6], 0, []⟩)]
noncomputable def c31 (fn : Func) (k : Nat) (l m out : List Int) (i : Int) : Cfg := ⟨sl k [(2, .ptr 0 0), (3, .ptr 1 0), (4, .ptr 2 0), (5, .vec 3), (6, .s (.int .i64 i))], [.own [.s (.ro (.ints .i64 l))] 40, .own [.s (.ro (.ints .i64 m))] 40, .own [.emp] 40, .vec (.ints .i64 out) 3], hd fn 3⟩
theorem tree31 (l m : List Int) : run P tab8.sum Tryd.f31 ns31 (start Tryd.f31 [.agg [.s (.ro (.ints .i64 l))], .agg [.s (.ro (.ints .i64 m))]] []) =
  Tree.at { tmps := sl (31 : Nat) [((2 : Nat), AV.ptr (0 : Nat) (0 : Nat)), ((3 : Nat), AV.ptr (1 : Nat) (0 : Nat)), ((4 : Nat), AV.ptr (2 : Nat) (0 : Nat)), ((5 : Nat), AV.vec (3 : Nat)), ((6 : Nat), AV.s (SV.int IntKind.i64 (0 : Int)))], H := [AObj.own [AV.s (SV.ro (Con.ints IntKind.i64 l))] (40 : Nat), AObj.own [AV.s (SV.ro (Con.ints IntKind.i64 m))] (40 : Nat), AObj.own [AV.emp] (40 : Nat), AObj.vec (Con.ints IntKind.i64 []) (3 : Nat)], todo := hd Tryd.f31 (3 : Nat) } := by kernel_rfl
theorem loop31 (l m out : List Int) (i : Int) : run P tab8.sum Tryd.f31 ns31 (c31 Tryd.f31 31 l m out i) =
  Tree.ite (decide (i < (↑l.length : Int))) (Tree.need ((0 : Int) ≤ i) (Tree.need (i < (↑l.length : Int)) (Tree.ite (rHas m (l.getD i.toNat (0 : Int))) (Tree.need ((0 : Int) ≤ i) (Tree.need (i < (↑l.length : Int)) (Tree.need (out.length + (1 : Nat) ≤ (4294967296 : Nat)) (Tree.need (inI64 (i + (1 : Int))) (Tree.at { tmps := sl (31 : Nat) [((2 : Nat), AV.ptr (0 : Nat) (0 : Nat)), ((3 : Nat), AV.ptr (1 : Nat) (0 : Nat)), ((4 : Nat), AV.ptr (2 : Nat) (0 : Nat)), ((5 : Nat), AV.vec (3 : Nat)), ((6 : Nat), AV.s (SV.int IntKind.i64 (i + (1 : Int))))], H := [AObj.own [AV.s (SV.ro (Con.ints IntKind.i64 l))] (40 : Nat), AObj.own [AV.s (SV.ro (Con.ints IntKind.i64 m))] (40 : Nat), AObj.own [AV.emp] (40 : Nat), AObj.vec (Con.ints IntKind.i64 (out ++ [l.getD i.toNat (0 : Int)])) (3 : Nat)], todo := hd Tryd.f31 (3 : Nat) }))))) (Tree.need (inI64 (i + (1 : Int))) (Tree.at { tmps := sl (31 : Nat) [((2 : Nat), AV.ptr (0 : Nat) (0 : Nat)), ((3 : Nat), AV.ptr (1 : Nat) (0 : Nat)), ((4 : Nat), AV.ptr (2 : Nat) (0 : Nat)), ((5 : Nat), AV.vec (3 : Nat)), ((6 : Nat), AV.s (SV.int IntKind.i64 (i + (1 : Int))))], H := [AObj.own [AV.s (SV.ro (Con.ints IntKind.i64 l))] (40 : Nat), AObj.own [AV.s (SV.ro (Con.ints IntKind.i64 m))] (40 : Nat), AObj.own [AV.emp] (40 : Nat), AObj.vec (Con.ints IntKind.i64 out) (3 : Nat)], todo := hd Tryd.f31 (3 : Nat) }))))) (Tree.ret [AObj.own [AV.s (SV.ro (Con.ints IntKind.i64 l))] (40 : Nat), AObj.own [AV.s (SV.ro (Con.ints IntKind.i64 m))] (40 : Nat), AObj.own [AV.vec (3 : Nat)] (40 : Nat), AObj.vec (Con.ints IntKind.i64 out) (3 : Nat)] (AV.agg [AV.vec (3 : Nat)])) := by kernel_rfl
theorem tree32 (l m : List Int) : run P tab8.sum Tryd.f32 ns31 (start Tryd.f32 [.agg [.s (.ro (.ints .i64 l))], .agg [.s (.ro (.ints .i64 m))]] []) =
  Tree.at { tmps := sl (32 : Nat) [((2 : Nat), AV.ptr (0 : Nat) (0 : Nat)), ((3 : Nat), AV.ptr (1 : Nat) (0 : Nat)), ((4 : Nat), AV.ptr (2 : Nat) (0 : Nat)), ((5 : Nat), AV.vec (3 : Nat)), ((6 : Nat), AV.s (SV.int IntKind.i64 (0 : Int)))], H := [AObj.own [AV.s (SV.ro (Con.ints IntKind.i64 l))] (40 : Nat), AObj.own [AV.s (SV.ro (Con.ints IntKind.i64 m))] (40 : Nat), AObj.own [AV.emp] (40 : Nat), AObj.vec (Con.ints IntKind.i64 []) (3 : Nat)], todo := hd Tryd.f32 (3 : Nat) } := by kernel_rfl
theorem loop32 (l m out : List Int) (i : Int) : run P tab8.sum Tryd.f32 ns31 (c31 Tryd.f32 32 l m out i) =
  Tree.ite (decide (i < (↑l.length : Int))) (Tree.need ((0 : Int) ≤ i) (Tree.need (i < (↑l.length : Int)) (Tree.ite (!rHas m (l.getD i.toNat (0 : Int))) (Tree.need ((0 : Int) ≤ i) (Tree.need (i < (↑l.length : Int)) (Tree.need (out.length + (1 : Nat) ≤ (4294967296 : Nat)) (Tree.need (inI64 (i + (1 : Int))) (Tree.at { tmps := sl (32 : Nat) [((2 : Nat), AV.ptr (0 : Nat) (0 : Nat)), ((3 : Nat), AV.ptr (1 : Nat) (0 : Nat)), ((4 : Nat), AV.ptr (2 : Nat) (0 : Nat)), ((5 : Nat), AV.vec (3 : Nat)), ((6 : Nat), AV.s (SV.int IntKind.i64 (i + (1 : Int))))], H := [AObj.own [AV.s (SV.ro (Con.ints IntKind.i64 l))] (40 : Nat), AObj.own [AV.s (SV.ro (Con.ints IntKind.i64 m))] (40 : Nat), AObj.own [AV.emp] (40 : Nat), AObj.vec (Con.ints IntKind.i64 (out ++ [l.getD i.toNat (0 : Int)])) (3 : Nat)], todo := hd Tryd.f32 (3 : Nat) }))))) (Tree.need (inI64 (i + (1 : Int))) (Tree.at { tmps := sl (32 : Nat) [((2 : Nat), AV.ptr (0 : Nat) (0 : Nat)), ((3 : Nat), AV.ptr (1 : Nat) (0 : Nat)), ((4 : Nat), AV.ptr (2 : Nat) (0 : Nat)), ((5 : Nat), AV.vec (3 : Nat)), ((6 : Nat), AV.s (SV.int IntKind.i64 (i + (1 : Int))))], H := [AObj.own [AV.s (SV.ro (Con.ints IntKind.i64 l))] (40 : Nat), AObj.own [AV.s (SV.ro (Con.ints IntKind.i64 m))] (40 : Nat), AObj.own [AV.emp] (40 : Nat), AObj.vec (Con.ints IntKind.i64 out) (3 : Nat)], todo := hd Tryd.f32 (3 : Nat) }))))) (Tree.ret [AObj.own [AV.s (SV.ro (Con.ints IntKind.i64 l))] (40 : Nat), AObj.own [AV.s (SV.ro (Con.ints IntKind.i64 m))] (40 : Nat), AObj.own [AV.vec (3 : Nat)] (40 : Nat), AObj.vec (Con.ints IntKind.i64 out) (3 : Nat)] (AV.agg [AV.vec (3 : Nat)])) := by kernel_rfl
theorem drop_getD {α : Type} (l : List α) (i : Nat) (d : α) (h : i < l.length) : l.drop i = l.getD i d :: l.drop (i + 1) := by
  rw [List.drop_eq_getElem_cons h, List.getD, List.getElem?_eq_getElem h]; rfl

theorem rhas_ok {Z : Glob} : FnOk P Z 33 [tR, tInt] [tBool] (fun _ => []) (fun ((l, ()), n, ()) => (rHas l n, ())) := by
  refine fnOk_of_safe Tryd.func33 (by kernel_rfl) (by kernel_rfl) ?_
  rintro ⟨⟨(l : List Int), ⟨⟩⟩, (n : Int), ⟨⟩⟩ ⟨⟨(hl : l.length ≤ maxLen), _⟩, _⟩ _ X hX hz
  rw [maxLen_eq] at hl
  refine go hz hX Tab.Ok.nil Tryd.func33 (tree33 l n) ?_
  refine safe_loop (fun (i : Int) => c33 l n i) (fun i => 0 ≤ i ∧ i ≤ l.length ∧ n ∉ l.take i.toNat) (fun i => (l.length - i).toNat) ?_ 0 ⟨by omega, by omega, by simp⟩
  rintro i ⟨(h0 : 0 ≤ i), (h1 : i ≤ l.length), h2⟩ ih
  refine go hz hX Tab.Ok.nil Tryd.func33 (loop33 l n i) ⟨fun h => ?_, fun h => ?_⟩
  · have hi : i < (l.length : Int) := of_decide_eq_true h
    refine ⟨h0, hi, fun h3 => ?_, fun h3 => ⟨⟨by omega, by omega⟩, ih (i + 1) ⟨by omega, by omega, ?_⟩ (by omega)⟩⟩
    · have h3 : l.getD i.toNat 0 = n := by simpa using h3
      refine ends_eq (true, ()) ?_ (by kernel_rfl)
      have : n ∈ l := by rw [← h3, List.getD, List.getElem?_eq_getElem (by omega)]; exact List.getElem_mem (by omega)
      simp [rHas, this]
    · have h3 : ¬ l.getD i.toNat 0 = n := by simpa using h3
      rw [show (i + 1).toNat = i.toNat + 1 from by omega, getD_take l i.toNat 0 (by omega)]
      simp only [List.mem_append, List.mem_singleton, not_or]
      exact ⟨h2, fun h => h3 h.symm⟩
  · have hi : ¬ i < (l.length : Int) := of_decide_eq_false h
    refine ends_eq (false, ()) ?_ (by kernel_rfl)
    rw [List.take_of_length_le (by omega)] at h2
    simp [rHas, h2]

theorem wr_true (n : Int) : ∀ (l : List Int), wr n true l = l
  | [] => by simp [wr]
  | x :: xs => by unfold wr; rw [if_neg (by simp), wr_true n xs]

theorem wr_length (n : Int) : ∀ (put : Bool) (l : List Int), (wr n put l).length ≤ l.length + 1
  | put, [] => by unfold wr; split <;> simp
  | put, x :: xs => by
    unfold wr
    split
    · rw [wr_true]
      simp
    · have := wr_length n put xs
      simp; omega

theorem rwith_length (l : List Int) (n : Int) : (rWith l n).length ≤ l.length + 1 := by
  unfold rWith
  split
  · omega
  · exact wr_length n false l

theorem tab8_ok {Z : Glob} : tab8.Ok P Z := Tab.Ok.cons rhas_ok.sum Tab.Ok.nil

theorem rwith_ok {Z : Glob} : FnOk P Z 28 [tR, tInt] [tR] (fun ((l, ()), _, ()) => [l.length < 4294967296]) (fun ((l, ()), n, ()) => ((rWith l n, ()), ())) := by
  refine fnOk_of_safe Tryd.func28 (by kernel_rfl) (by kernel_rfl) ?_
  rintro ⟨⟨(l : List Int), ⟨⟩⟩, (n : Int), ⟨⟩⟩ _ ⟨(hl : l.length < 4294967296), _⟩ X hX hz
  have same : n < 0 ∨ n > 1023 ∨ n ∈ l → Ends [tR] ((rWith l n, ()), ()) [AObj.own [AV.s (SV.ro (Con.ints IntKind.i64 l))] (40 : Nat), AObj.own [AV.s (SV.ro (Con.ints IntKind.i64 l))] (40 : Nat)] (AV.agg [AV.s (SV.ro (Con.ints IntKind.i64 l))]) := fun h =>
    ends_eq ((l, ()), ()) (by rw [rWith, if_pos h]) (by kernel_rfl)
  refine go hz hX tab8_ok Tryd.func28 (tree28 l n) ⟨fun h => same (.inl (of_decide_eq_true h)), fun h1 => ⟨fun h => same (.inr (.inl (of_decide_eq_true h))), fun h2 => ⟨fun h => same (.inr (.inr (of_decide_eq_true h))), fun h3 => ?_⟩⟩⟩
  have hno : ¬ (n < 0 ∨ n > 1023 ∨ n ∈ l) := by
    have a1 : ¬ n < 0 := of_decide_eq_false h1
    have a2 : ¬ n > 1023 := of_decide_eq_false h2
    have a3 : ¬ n ∈ l := of_decide_eq_false h3
    rintro (h | h | h) <;> contradiction
  have e : rWith l n = wr n false l := by rw [rWith, if_neg hno]
  simp only [e]
  refine safe_loop (fun (x : List Int × Bool × Int) => c28 l n x.1 x.2.1 x.2.2) (fun x => 0 ≤ x.2.2 ∧ x.2.2 ≤ l.length ∧ x.1.length ≤ x.2.2.toNat + (if x.2.1 = true then 1 else 0) ∧ wr n false l = x.1 ++ wr n x.2.1 (l.drop x.2.2.toNat)) (fun x => (l.length - x.2.2).toNat) ?_ ([], false, 0) ⟨by simp only []; omega, by simp only []; omega, by simp, by simp⟩
  rintro ⟨out, put, i⟩ ⟨(h0 : 0 ≤ i), (h1 : i ≤ l.length), (h2 : out.length ≤ i.toNat + (if put = true then 1 else 0)), (h3 : wr n false l = out ++ wr n put (l.drop i.toNat))⟩ ih
  refine go hz hX tab8_ok Tryd.func28 (loop28 l n out put i) ⟨fun h => ?_, fun h => ?_⟩
  · have hi : i < (l.length : Int) := of_decide_eq_true h
    have hd := drop_getD l i.toNat 0 (by omega)
    generalize hx : l.getD i.toNat 0 = x at *
    have hout : out.length ≤ i.toNat + 1 := by split at h2 <;> omega
    rw [hd, wr] at h3
    have step : ∀ put2, put2 = put → ¬ (x > n ∧ put2 = false) → Safe P 28 X (Ends [tR] ((wr n false l, ()), ())) (c28 l n (out ++ [x]) put2 (i + 1)) := by
      rintro _ rfl hc
      rw [if_neg hc] at h3
      refine ih (out ++ [x], _, i + 1) ⟨by simp only []; omega, by simp only []; omega, ?_, ?_⟩ (by simp only []; omega)
      · simp only [List.length_append, List.length_cons, List.length_nil]; omega
      · simp only []; rw [h3, show (i + 1).toNat = i.toNat + 1 from by omega]; simp
    refine ⟨h0, hi, fun h4 => ⟨fun h5 => ?_, fun h5 => ?_⟩, fun h4 => ?_⟩
    · have h4 : x > n := of_decide_eq_true h4
      obtain rfl : put = false := by simpa using h5
      rw [if_pos ⟨h4, rfl⟩] at h3
      simp only [Bool.false_eq_true, if_false, Nat.add_zero] at h2
      refine ⟨by omega, h0, hi, by simp; omega, ⟨by omega, by omega⟩, ?_⟩
      refine ih (out ++ [n] ++ [x], true, i + 1) ⟨by simp only []; omega, by simp only []; omega, ?_, ?_⟩ (by simp only []; omega)
      · simp; omega
      · simp only []; rw [h3, show (i + 1).toNat = i.toNat + 1 from by omega]; simp
    · have h5 : put = true := by simpa using h5
      subst h5
      exact ⟨h0, hi, by omega, ⟨by omega, by omega⟩, step true rfl (by simp)⟩
    · have h4 : ¬ x > n := of_decide_eq_false h4
      exact ⟨h0, hi, by omega, ⟨by omega, by omega⟩, step put rfl (fun h => h4 h.1)⟩
  · have hi : ¬ i < (l.length : Int) := of_decide_eq_false h
    rw [List.drop_eq_nil_of_le (by omega)] at h3
    have hout : out.length ≤ i.toNat + 1 := by split at h2 <;> omega
    refine ⟨fun h5 => ?_, fun h5 => ?_⟩
    · obtain rfl : put = false := by simpa using h5
      simp only [Bool.false_eq_true, if_false, Nat.add_zero] at h2
      refine ⟨by omega, ?_⟩
      rw [h3]
      exact ends_eq ((out ++ [n], ()), ()) rfl (by kernel_rfl)
    · obtain rfl : put = true := by simpa using h5
      rw [h3]
      exact ends_eq ((out, ()), ()) (by simp [wr]) (by kernel_rfl)

def rOf (l : List Int) : List Int := l.foldl rWith []
theorem tab9_ok {Z : Glob} : tab9.Ok P Z := Tab.Ok.cons rwith_ok.sumR Tab.Ok.nil

theorem rfold_length (l : List Int) : ∀ (r : List Int), (l.foldl rWith r).length ≤ r.length + l.length := by
  induction l with
  | nil => intro r; simp
  | cons x xs ih => intro r; have := ih (rWith r x); have := rwith_length r x; simp only [List.foldl_cons, List.length_cons]; omega

theorem rof_ok {Z : Glob} : FnOk P Z 24 [tInts] [tR] (fun (l, ()) => [List.length (α := Int) l < 4294967296]) (fun (l, ()) => ((rOf l, ()), ())) := by
  refine fnOk_of_safe Tryd.func24 (by kernel_rfl) (by kernel_rfl) ?_
  rintro ⟨(l : List Int), ⟨⟩⟩ _ ⟨(hl : l.length < 4294967296), _⟩ X hX hz
  refine go hz hX tab9_ok Tryd.func24 (tree24 l) ?_
  refine safe_loop (fun (i : Int) => c24 l ((l.take i.toNat).foldl rWith []) i) (fun i => 0 ≤ i ∧ i ≤ l.length) (fun i => (l.length - i).toNat) ?_ 0 ⟨by omega, by omega⟩
  rintro i ⟨(h0 : 0 ≤ i), (h1 : i ≤ l.length)⟩ ih
  refine go hz hX tab9_ok Tryd.func24 (loop24 l _ i) ⟨fun h => ?_, fun h => ?_⟩
  · have hi : i < (l.length : Int) := of_decide_eq_true h
    have hlen := rfold_length (l.take i.toNat) []
    rw [List.length_take] at hlen
    have := ih (i + 1) ⟨by omega, by omega⟩ (by omega)
    rw [show (i + 1).toNat = i.toNat + 1 from by omega, getD_take l i.toNat 0 (by omega), List.foldl_append] at this
    exact ⟨h0, hi, by simp only [List.length_nil] at hlen; omega, ⟨by omega, by omega⟩, this⟩
  · have hi : ¬ i < (l.length : Int) := of_decide_eq_false h
    rw [List.take_of_length_le (by omega)]
    exact ends_eq ((rOf l, ()), ()) rfl (by kernel_rfl)

def rOr (l m : List Int) : List Int := m.foldl rWith l
theorem ror_ok {Z : Glob} : FnOk P Z 30 [tR, tR] [tR] (fun ((l, ()), (m, ()), ()) => [List.length (α := Int) l + List.length (α := Int) m < 4294967296]) (fun ((l, ()), (m, ()), ()) => ((rOr l m, ()), ())) := by
  refine fnOk_of_safe Tryd.func30 (by kernel_rfl) (by kernel_rfl) ?_
  rintro ⟨⟨(l : List Int), ⟨⟩⟩, ⟨(m : List Int), ⟨⟩⟩, ⟨⟩⟩ _ ⟨(hl : l.length + m.length < 4294967296), _⟩ X hX hz
  refine go hz hX tab9_ok Tryd.func30 (tree30 l m) ?_
  refine safe_loop (fun (i : Int) => c30 m ((m.take i.toNat).foldl rWith l) i) (fun i => 0 ≤ i ∧ i ≤ m.length) (fun i => (m.length - i).toNat) ?_ 0 ⟨by omega, by omega⟩
  rintro i ⟨(h0 : 0 ≤ i), (h1 : i ≤ m.length)⟩ ih
  refine go hz hX tab9_ok Tryd.func30 (loop30 m _ i) ⟨fun h => ?_, fun h => ?_⟩
  · have hi : i < (m.length : Int) := of_decide_eq_true h
    have hlen := rfold_length (m.take i.toNat) l
    rw [List.length_take] at hlen
    have := ih (i + 1) ⟨by omega, by omega⟩ (by omega)
    rw [show (i + 1).toNat = i.toNat + 1 from by omega, getD_take m i.toNat 0 (by omega), List.foldl_append] at this
    exact ⟨h0, hi, by omega, ⟨by omega, by omega⟩, this⟩
  · have hi : ¬ i < (m.length : Int) := of_decide_eq_false h
    rw [List.take_of_length_le (by omega)]
    exact ends_eq ((rOr l m, ()), ()) rfl (by kernel_rfl)

def rNextO (l : List Int) (n : Int) : Option Int := l.find? fun x => decide (x ≥ n)
def rNextN (l : List Int) (n : Int) : Int := (rNextO l n).getD 0
def rNextIs (l : List Int) (n : Int) : Bool := (rNextO l n).isSome
theorem rnext_ok {Z : Glob} : FnOk P Z 25 [tR, tInt] [tInt, tBool] (fun _ => []) (fun ((l, ()), n, ()) => (rNextN l n, rNextIs l n, ())) := by
  refine fnOk_of_safe Tryd.func25 (by kernel_rfl) (by kernel_rfl) ?_
  rintro ⟨⟨(l : List Int), ⟨⟩⟩, (n : Int), ⟨⟩⟩ ⟨⟨(hl : l.length ≤ maxLen), _⟩, _⟩ _ X hX hz
  rw [maxLen_eq] at hl
  refine go hz hX Tab.Ok.nil Tryd.func25 (tree25 l n) ?_
  refine safe_loop (fun (i : Int) => c25 l n i) (fun i => 0 ≤ i ∧ i ≤ l.length ∧ rNextO l n = rNextO (l.drop i.toNat) n) (fun i => (l.length - i).toNat) ?_ 0 ⟨by omega, by omega, by simp⟩
  rintro i ⟨(h0 : 0 ≤ i), (h1 : i ≤ l.length), h2⟩ ih
  refine go hz hX Tab.Ok.nil Tryd.func25 (loop25 l n i) ⟨fun h => ?_, fun h => ?_⟩
  · have hi : i < (l.length : Int) := of_decide_eq_true h
    rw [drop_getD l i.toNat 0 (by omega)] at h2
    refine ⟨h0, hi, fun h3 => ⟨h0, hi, ?_⟩, fun h3 => ⟨⟨by omega, by omega⟩, ih (i + 1) ⟨by omega, by omega, ?_⟩ (by omega)⟩⟩
    · have e : rNextO l n = some (l.getD i.toNat 0) := by rw [h2, rNextO, List.find?_cons, h3]
      simp only [rNextN, rNextIs, e]
      exact ends_eq _ rfl (by kernel_rfl)
    · rw [h2, rNextO, List.find?_cons, h3, show (i + 1).toNat = i.toNat + 1 from by omega]
      rfl
  · have hi : ¬ i < (l.length : Int) := of_decide_eq_false h
    rw [List.drop_eq_nil_of_le (by omega)] at h2
    simp only [rNextN, rNextIs, h2]
    exact ends_eq (0, false, ()) rfl (by kernel_rfl)

def rBelow (n : Int) : List Int := toI (List.range (min n 1024).toNat)
theorem rbelow_ok {Z : Glob} : FnOk P Z 27 [tInt] [tR] (fun _ => []) (fun (n, ()) => ((rBelow n, ()), ())) := by
  refine fnOk_of_safe Tryd.func27 (by kernel_rfl) (by kernel_rfl) ?_
  rintro ⟨(n : Int), ⟨⟩⟩ _ _ X hX hz
  refine go hz hX Tab.Ok.nil Tryd.func27 (tree27 n) ?_
  refine safe_loop (fun (i : Nat) => c27 n (toI (List.range i)) i) (fun i => i ≤ (min n 1024).toNat) (fun i => (min n 1024).toNat - i) ?_ 0 (by omega)
  rintro i (h1 : i ≤ (min n 1024).toNat) ih
  have hlen : (toI (List.range i)).length = i := by simp [toI]
  have stop : ¬ i < (min n 1024).toNat → rBelow n = toI (List.range i) := fun h => by
    unfold rBelow; rw [show (min n 1024).toNat = i from by omega]
  refine go hz hX Tab.Ok.nil Tryd.func27 (loop27 n _ i) ⟨fun h => ⟨fun h2 => ?_, fun h2 => ?_⟩, fun h => ?_⟩
  · have a1 : (i : Int) < n := of_decide_eq_true h
    have a2 : (i : Int) < 1024 := of_decide_eq_true h2
    have := ih (i + 1) (by omega) (by omega)
    rw [List.range_succ, show toI (List.range i ++ [i]) = toI (List.range i) ++ [(i : Int)] from by simp [toI], Int.natCast_add] at this
    exact ⟨by omega, ⟨by omega, by omega⟩, this⟩
  · have a2 : ¬ (i : Int) < 1024 := of_decide_eq_false h2
    exact ends_eq ((toI (List.range i), ()), ()) (by show ((rBelow n, ()), ()) = _; rw [stop (by omega)]) (by kernel_rfl)
  · have a1 : ¬ (i : Int) < n := of_decide_eq_false h
    exact ends_eq ((toI (List.range i), ()), ()) (by show ((rBelow n, ()), ()) = _; rw [stop (by omega)]) (by kernel_rfl)

theorem filter_step (p : Int → Bool) (l : List Int) (i : Int) (h0 : 0 ≤ i) (hi : i < l.length) : (l.take (i + 1).toNat).filter p = (l.take i.toNat).filter p ++ (if p (l.getD i.toNat 0) = true then [l.getD i.toNat 0] else []) := by
  rw [show (i + 1).toNat = i.toNat + 1 from by omega, getD_take l i.toNat 0 (by omega), List.filter_append]
  congr 1
  simp only [List.filter_cons, List.filter_nil]

theorem filter_le (p : Int → Bool) (l : List Int) (i : Nat) (h : i ≤ l.length) : ((l.take i).filter p).length ≤ i := by
  have := List.length_filter_le p (l.take i)
  rw [List.length_take] at this
  omega

def rWithout (l : List Int) (n : Int) : List Int := l.filter fun x => x != n
theorem rwithout_ok {Z : Glob} : FnOk P Z 29 [tR, tInt] [tR] (fun ((l, ()), _, ()) => [List.length (α := Int) l < 4294967296]) (fun ((l, ()), n, ()) => ((rWithout l n, ()), ())) := by
  refine fnOk_of_safe Tryd.func29 (by kernel_rfl) (by kernel_rfl) ?_
  rintro ⟨⟨(l : List Int), ⟨⟩⟩, (n : Int), ⟨⟩⟩ _ ⟨(hl : l.length < 4294967296), _⟩ X hX hz
  refine go hz hX Tab.Ok.nil Tryd.func29 (tree29 l n) ?_
  refine safe_loop (fun (i : Int) => c29 l n ((l.take i.toNat).filter fun x => x != n) i) (fun i => 0 ≤ i ∧ i ≤ l.length) (fun i => (l.length - i).toNat) ?_ 0 ⟨by omega, by omega⟩
  rintro i ⟨(h0 : 0 ≤ i), (h1 : i ≤ l.length)⟩ ih
  refine go hz hX Tab.Ok.nil Tryd.func29 (loop29 l n _ i) ⟨fun h => ?_, fun h => ?_⟩
  · have hi : i < (l.length : Int) := of_decide_eq_true h
    have hlen := filter_le (fun x => x != n) l i.toNat (by omega)
    have hs := filter_step (fun x => x != n) l i h0 hi
    have := ih (i + 1) ⟨by omega, by omega⟩ (by omega)
    rw [hs] at this
    refine ⟨h0, hi, fun h3 => ?_, fun h3 => ?_⟩
    · rw [if_pos h3] at this
      exact ⟨h0, hi, by omega, ⟨by omega, by omega⟩, this⟩
    · rw [if_neg (by rw [h3]; simp), List.append_nil] at this
      exact ⟨⟨by omega, by omega⟩, this⟩
  · have hi : ¬ i < (l.length : Int) := of_decide_eq_false h
    rw [List.take_of_length_le (by omega)]
    exact ends_eq ((rWithout l n, ()), ()) rfl (by kernel_rfl)

def rAnd (l m : List Int) : List Int := l.filter fun x => rHas m x
theorem rand_ok {Z : Glob} : FnOk P Z 31 [tR, tR] [tR] (fun ((l, ()), _, ()) => [List.length (α := Int) l < 4294967296]) (fun ((l, ()), (m, ()), ()) => ((rAnd l m, ()), ())) := by
  refine fnOk_of_safe Tryd.func31 (by kernel_rfl) (by kernel_rfl) ?_
  rintro ⟨⟨(l : List Int), ⟨⟩⟩, ⟨(m : List Int), ⟨⟩⟩, ⟨⟩⟩ _ ⟨(hl : l.length < 4294967296), _⟩ X hX hz
  refine go hz hX tab8_ok Tryd.func31 (tree31 l m) ?_
  refine safe_loop (fun (i : Int) => c31 Tryd.f31 31 l m ((l.take i.toNat).filter fun x => rHas m x) i) (fun i => 0 ≤ i ∧ i ≤ l.length) (fun i => (l.length - i).toNat) ?_ 0 ⟨by omega, by omega⟩
  rintro i ⟨(h0 : 0 ≤ i), (h1 : i ≤ l.length)⟩ ih
  refine go hz hX tab8_ok Tryd.func31 (loop31 l m _ i) ⟨fun h => ?_, fun h => ?_⟩
  · have hi : i < (l.length : Int) := of_decide_eq_true h
    have hlen := filter_le (fun x => rHas m x) l i.toNat (by omega)
    have hs := filter_step (fun x => rHas m x) l i h0 hi
    have := ih (i + 1) ⟨by omega, by omega⟩ (by omega)
    rw [hs] at this
    refine ⟨h0, hi, fun h3 => ?_, fun h3 => ?_⟩
    · rw [if_pos h3] at this
      exact ⟨h0, hi, by omega, ⟨by omega, by omega⟩, this⟩
    · rw [if_neg (by rw [h3]; simp), List.append_nil] at this
      exact ⟨⟨by omega, by omega⟩, this⟩
  · have hi : ¬ i < (l.length : Int) := of_decide_eq_false h
    rw [List.take_of_length_le (by omega)]
    exact ends_eq ((rAnd l m, ()), ()) rfl (by kernel_rfl)

def rLess (l m : List Int) : List Int := l.filter fun x => !rHas m x
theorem rless_ok {Z : Glob} : FnOk P Z 32 [tR, tR] [tR] (fun ((l, ()), _, ()) => [List.length (α := Int) l < 4294967296]) (fun ((l, ()), (m, ()), ()) => ((rLess l m, ()), ())) := by
  refine fnOk_of_safe Tryd.func32 (by kernel_rfl) (by kernel_rfl) ?_
  rintro ⟨⟨(l : List Int), ⟨⟩⟩, ⟨(m : List Int), ⟨⟩⟩, ⟨⟩⟩ _ ⟨(hl : l.length < 4294967296), _⟩ X hX hz
  refine go hz hX tab8_ok Tryd.func32 (tree32 l m) ?_
  refine safe_loop (fun (i : Int) => c31 Tryd.f32 32 l m ((l.take i.toNat).filter fun x => !rHas m x) i) (fun i => 0 ≤ i ∧ i ≤ l.length) (fun i => (l.length - i).toNat) ?_ 0 ⟨by omega, by omega⟩
  rintro i ⟨(h0 : 0 ≤ i), (h1 : i ≤ l.length)⟩ ih
  refine go hz hX tab8_ok Tryd.func32 (loop32 l m _ i) ⟨fun h => ?_, fun h => ?_⟩
  · have hi : i < (l.length : Int) := of_decide_eq_true h
    have hlen := filter_le (fun x => !rHas m x) l i.toNat (by omega)
    have hs := filter_step (fun x => !rHas m x) l i h0 hi
    have := ih (i + 1) ⟨by omega, by omega⟩ (by omega)
    rw [hs] at this
    refine ⟨h0, hi, fun h3 => ?_, fun h3 => ?_⟩
    · rw [if_pos h3] at this
      exact ⟨h0, hi, by omega, ⟨by omega, by omega⟩, this⟩
    · rw [if_neg (by rw [h3]; simp), List.append_nil] at this
      exact ⟨⟨by omega, by omega⟩, this⟩
  · have hi : ¬ i < (l.length : Int) := of_decide_eq_false h
    rw [List.take_of_length_le (by omega)]
    exact ends_eq ((rLess l m, ()), ()) rfl (by kernel_rfl)
end Bx
