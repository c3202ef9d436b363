/- Lemmas: A4, A5, A6, A7, A8, A9, Q1, Q2, Q3, Q4. -/
import Derived.Test.YtcbllmnbcboelaaPD

namespace Ds
open Go Go.Sx Go.Proofs Lf
/-! Contains, Drop -/
abbrev fIj : FuncId := 129
abbrev inHas : List FuncId := [fIj]
def nsHas : List (Nat × Norm) := [((fIj + 1) * 100000 + 2, ⟨[], [0, 1, 7, 8], 0, []⟩)]
theorem trHas (l : List Int) (x : Int) : run P tab0.sum Try.f108 nsHas (start Try.f108 [avL l, avI x] []) inHas =
  Tree.at (Cfg.mk (sl (28 : Nat) [((0 : Nat), AV.s (SV.ro (Con.ints IntKind.i64 l))), ((1 : Nat), AV.s (SV.int IntKind.i64 x)), ((7 : Nat), AV.s (SV.int IntKind.i64 (↑l.length : Int))), ((8 : Nat), AV.s (SV.int IntKind.i64 (0 : Int)))]) [] (hd Try.f129 (2 : Nat)) (Stk.mk (some (129 : Nat)) false (0 : Nat) [inCall Try.f108 none (1 : Nat) (2 : Nat) false (0 : Nat)] (0 : Nat))) := by kernel_rfl
abbrev sumHas := sumOf [tNs, tInt] [tBool] (fun _ => []) (fun (l, x, ()) => ((l : List Int).contains x, ()))
abbrev fIc : FuncId := 128
abbrev fDc : FuncId := 105
abbrev inDr : List FuncId := [106, fIc, fDc, 107]
def nsDr : List (Nat × Norm) := [(midKey + 1003, ⟨[(7, .typ cC [], eC)], [2, 3, 4, 7], 0, []⟩), ((fIc + 1) * 100000 + 2, ⟨[], [0, 1, 7, 8, 19, 20, 63, 65], 0, []⟩), ((fDc + 1) * 100000 + 5, ⟨[], [0, 1, 5, 6, 44, 46], 0, []⟩), (midKey + 1005, ⟨[], [2, 4, 9], 0, []⟩)]
def tabDr : Tab := [(108, sumHas)]
theorem trDr (ck nx : Int) (ps : Ps) (is : Is) (cs : Cs) (ws : Ws) (l : List Int) : run P tabDr.sum Try.f83 nsDr (start Try.f83 [avSt ck nx ps is cs ws, avL l] []) inDr =
  Tree.both (List.length cs = (0 : Nat)) True (Tree.at (Cfg.mk (sl (12 : Nat) [((2 : Nat), AV.ptr (0 : Nat) (0 : Nat)), ((3 : Nat), AV.ptr (1 : Nat) (0 : Nat)), ((4 : Nat), AV.ptr (2 : Nat) (0 : Nat)), ((7 : Nat), AV.vec (3 : Nat))]) [AObj.own [AV.s (SV.int IntKind.i64 ck), AV.s (SV.int IntKind.i64 nx), AV.s (SV.ro (Con.typ [CK.str, CK.rows [CK.str, CK.int IntKind.u8, CK.int IntKind.i64, CK.str], CK.rows [CK.str, CK.int IntKind.u8, CK.int IntKind.i64, CK.int IntKind.i64, CK.int IntKind.u8, CK.str, CK.str, CK.str, CK.bool, CK.rows [CK.str, CK.int IntKind.u8, CK.int IntKind.i64, CK.str], CK.strs], CK.rows [CK.int IntKind.i64, CK.int IntKind.i64, CK.str, CK.bool]] ps)), AV.s (SV.ro (Con.typ cI is)), AV.s (SV.ro (Con.typ cC cs)), AV.s (SV.ro (Con.typ cW ws))] (27 : Nat), AObj.own [AV.s (SV.ro (Con.ints IntKind.i64 l))] (50 : Nat), AObj.own [AV.s (SV.int IntKind.i64 (0 : Int)), AV.s (SV.int IntKind.i64 (0 : Int)), AV.emp, AV.emp, AV.emp, AV.emp] (27 : Nat), AObj.vec (Con.typ cC []) (90 : Nat)] (cal Try.f83 (1 : Nat) (3 : Nat)) (Stk.mk none false (0 : Nat) [] (1 : Nat)))) (Tree.need (((0 : Nat) + List.length cs) * (56 : Nat) ≤ (140737488355328 : Nat)) (Tree.at (Cfg.mk (sl (12 : Nat) [((2 : Nat), AV.ptr (0 : Nat) (0 : Nat)), ((3 : Nat), AV.ptr (1 : Nat) (0 : Nat)), ((4 : Nat), AV.ptr (2 : Nat) (0 : Nat)), ((7 : Nat), AV.vec (3 : Nat))]) [AObj.own [AV.s (SV.int IntKind.i64 ck), AV.s (SV.int IntKind.i64 nx), AV.s (SV.ro (Con.typ [CK.str, CK.rows [CK.str, CK.int IntKind.u8, CK.int IntKind.i64, CK.str], CK.rows [CK.str, CK.int IntKind.u8, CK.int IntKind.i64, CK.int IntKind.i64, CK.int IntKind.u8, CK.str, CK.str, CK.str, CK.bool, CK.rows [CK.str, CK.int IntKind.u8, CK.int IntKind.i64, CK.str], CK.strs], CK.rows [CK.int IntKind.i64, CK.int IntKind.i64, CK.str, CK.bool]] ps)), AV.s (SV.ro (Con.typ cI is)), AV.s (SV.ro (Con.typ cC cs)), AV.s (SV.ro (Con.typ cW ws))] (27 : Nat), AObj.own [AV.s (SV.ro (Con.ints IntKind.i64 l))] (50 : Nat), AObj.own [AV.s (SV.int IntKind.i64 (0 : Int)), AV.s (SV.int IntKind.i64 (0 : Int)), AV.emp, AV.emp, AV.emp, AV.emp] (27 : Nat), AObj.vec (Con.typ cC ([] ++ cs)) (90 : Nat)] (cal Try.f83 (1 : Nat) (3 : Nat)) (Stk.mk none false (0 : Nat) [] (1 : Nat))))) := by kernel_rfl
noncomputable def cHas (l : List Int) (x i : Int) : Cfg := ⟨sl 28 [(0, avL l), (1, avI x), (7, avI (l.length : Int)), (8, avI i)], [], hd Try.f129 2, ⟨some fIj, false, 0, [inCall Try.f108 none 1 2 false 0], 0⟩⟩
theorem loopHas (l : List Int) (x i : Int) : run P tab0.sum Try.f108 nsHas (cHas l x i) inHas =
  Tree.ite (decide (i < (↑l.length : Int))) (Tree.need ((0 : Int) ≤ i) (Tree.need (i < (↑l.length : Int)) (Tree.ite (x == l.getD i.toNat (0 : Int)) (Tree.ret [] (AV.s (SV.bool (decide (i ≥ (0 : Int)))))) (Tree.need (inI64 (i + (1 : Int))) (Tree.at (Cfg.mk (sl (28 : Nat) [((0 : Nat), AV.s (SV.ro (Con.ints IntKind.i64 l))), ((1 : Nat), AV.s (SV.int IntKind.i64 x)), ((7 : Nat), AV.s (SV.int IntKind.i64 (↑l.length : Int))), ((8 : Nat), AV.s (SV.int IntKind.i64 (i + (1 : Int))))]) [] (hd Try.f129 (2 : Nat)) (Stk.mk (some (129 : Nat)) false (0 : Nat) [inCall Try.f108 none (1 : Nat) (2 : Nat) false (0 : Nat)] (0 : Nat)))))))) (Tree.ret [] (AV.s (SV.blit false))) := by kernel_rfl
abbrev obZ : AObj := .own [avI 0, avI 0, .emp, .emp, .emp, .emp] eT
abbrev obD (ck nx : Int) (ps : Ps) (is : Is) (cs : Cs) (ws : Ws) (l : List Int) : List AObj := [obSt ck nx ps is cs ws, .own [avL l] 50, obZ]
noncomputable def cDr (ck nx : Int) (ps : Ps) (is : Is) (cs : Cs) (ws : Ws) (l : List Int) (r : Cs) : Cfg := ⟨sl 12 [(2, .ptr 0 0), (3, .ptr 1 0), (4, .ptr 2 0), (7, .vec 3)], [obSt ck nx ps is cs ws, .own [avL l] 50, obZ, .vec (.typ cC r) eC], cal Try.f83 1 3, kk 1⟩
theorem midDr (ck nx : Int) (ps : Ps) (is : Is) (cs : Cs) (ws : Ws) (l : List Int) (r : Cs) : run P tabDr.sum Try.f83 nsDr (cDr ck nx ps is cs ws l r) inDr =
  Tree.at (Cfg.mk (sl (73 : Nat) [((0 : Nat), AV.vec (0 : Nat)), ((1 : Nat), AV.fn (107 : Nat) [AV.ptr (1 : Nat) (0 : Nat)]), ((7 : Nat), AV.s (SV.int IntKind.i64 (↑(List.length r) : Int))), ((8 : Nat), AV.s (SV.int IntKind.i64 (0 : Int))), ((19 : Nat), AV.vec (0 : Nat)), ((20 : Nat), AV.fn (107 : Nat) [AV.ptr (1 : Nat) (0 : Nat)]), ((63 : Nat), AV.ptr (2 : Nat) (0 : Nat)), ((65 : Nat), AV.ptr (3 : Nat) (0 : Nat))]) [AObj.vec (Con.typ cC r) (90 : Nat), AObj.own [AV.s (SV.ro (Con.ints IntKind.i64 l))] (50 : Nat), AObj.own [AV.s (SV.int IntKind.i64 ck), AV.s (SV.int IntKind.i64 nx), AV.s (SV.ro (Con.typ [CK.str, CK.rows [CK.str, CK.int IntKind.u8, CK.int IntKind.i64, CK.str], CK.rows [CK.str, CK.int IntKind.u8, CK.int IntKind.i64, CK.int IntKind.i64, CK.int IntKind.u8, CK.str, CK.str, CK.str, CK.bool, CK.rows [CK.str, CK.int IntKind.u8, CK.int IntKind.i64, CK.str], CK.strs], CK.rows [CK.int IntKind.i64, CK.int IntKind.i64, CK.str, CK.bool]] ps)), AV.s (SV.ro (Con.typ cI is)), AV.s (SV.ro (Con.typ cC cs)), AV.s (SV.ro (Con.typ cW ws))] (27 : Nat), AObj.own [AV.s (SV.int IntKind.i64 (0 : Int)), AV.s (SV.int IntKind.i64 (0 : Int)), AV.emp, AV.emp, AV.emp, AV.emp] (27 : Nat)] (hd Try.f128 (2 : Nat)) (Stk.mk (some (128 : Nat)) false (0 : Nat) [inCall Try.f105 (some (105 : Nat)) (1 : Nat) (2 : Nat) false (0 : Nat), inCall Try.f83 none (1 : Nat) (4 : Nat) false (0 : Nat)] (0 : Nat))) := by kernel_rfl
noncomputable def cDr1 (ck nx : Int) (ps : Ps) (is : Is) (cs : Cs) (ws : Ws) (l : List Int) (r : Cs) (i : Int) : Cfg := ⟨sl 73 [(0, .vec 0), (1, .fn 107 [.ptr 1 0]), (7, avI (r.length : Int)), (8, avI i), (19, .vec 0), (20, .fn 107 [.ptr 1 0]), (63, .ptr 2 0), (65, .ptr 3 0)], [.vec (.typ cC r) eC, .own [avL l] 50, obSt ck nx ps is cs ws, obZ], hd Try.f128 2, ⟨some fIc, false, 0, [inCall Try.f105 (some fDc) 1 2 false 0, inCall Try.f83 none 1 4 false 0], 0⟩⟩
theorem loopDr1 (ck nx : Int) (ps : Ps) (is : Is) (cs : Cs) (ws : Ws) (l : List Int) (r : Cs) (i : Int) : run P tabDr.sum Try.f83 nsDr (cDr1 ck nx ps is cs ws l r i) inDr =
  Tree.ite (decide (i < (↑(List.length r) : Int))) (Tree.need ((0 : Int) ≤ i) (Tree.need (i < (↑(List.length r) : Int)) (Tree.ite (l.contains (lS (el r i))) (Tree.ite (i == (-1 : Int)) (Tree.at (Cfg.mk (sl (12 : Nat) [((2 : Nat), AV.ptr (0 : Nat) (0 : Nat)), ((4 : Nat), AV.ptr (1 : Nat) (0 : Nat)), ((9 : Nat), AV.vec (2 : Nat))]) [AObj.own [AV.s (SV.int IntKind.i64 ck), AV.s (SV.int IntKind.i64 nx), AV.s (SV.ro (Con.typ [CK.str, CK.rows [CK.str, CK.int IntKind.u8, CK.int IntKind.i64, CK.str], CK.rows [CK.str, CK.int IntKind.u8, CK.int IntKind.i64, CK.int IntKind.i64, CK.int IntKind.u8, CK.str, CK.str, CK.str, CK.bool, CK.rows [CK.str, CK.int IntKind.u8, CK.int IntKind.i64, CK.str], CK.strs], CK.rows [CK.int IntKind.i64, CK.int IntKind.i64, CK.str, CK.bool]] ps)), AV.s (SV.ro (Con.typ cI is)), AV.s (SV.ro (Con.typ cC cs)), AV.s (SV.ro (Con.typ cW ws))] (27 : Nat), AObj.own [AV.s (SV.int IntKind.i64 (0 : Int)), AV.s (SV.int IntKind.i64 (0 : Int)), AV.emp, AV.emp, AV.emp, AV.emp] (27 : Nat), AObj.vec (Con.typ cC r) (90 : Nat)] (cal Try.f83 (1 : Nat) (5 : Nat)) (Stk.mk none false (0 : Nat) [] (1 : Nat)))) (Tree.need (inI64 (i + (1 : Int))) (Tree.at (Cfg.mk (sl (54 : Nat) [((0 : Nat), AV.vec (0 : Nat)), ((1 : Nat), AV.fn (107 : Nat) [AV.ptr (1 : Nat) (0 : Nat)]), ((5 : Nat), AV.s (SV.int IntKind.i64 i)), ((6 : Nat), AV.s (SV.int IntKind.i64 (i + (1 : Int)))), ((44 : Nat), AV.ptr (2 : Nat) (0 : Nat)), ((46 : Nat), AV.ptr (3 : Nat) (0 : Nat))]) [AObj.vec (Con.typ cC r) (90 : Nat), AObj.own [AV.s (SV.ro (Con.ints IntKind.i64 l))] (50 : Nat), AObj.own [AV.s (SV.int IntKind.i64 ck), AV.s (SV.int IntKind.i64 nx), AV.s (SV.ro (Con.typ [CK.str, CK.rows [CK.str, CK.int IntKind.u8, CK.int IntKind.i64, CK.str], CK.rows [CK.str, CK.int IntKind.u8, CK.int IntKind.i64, CK.int IntKind.i64, CK.int IntKind.u8, CK.str, CK.str, CK.str, CK.bool, CK.rows [CK.str, CK.int IntKind.u8, CK.int IntKind.i64, CK.str], CK.strs], CK.rows [CK.int IntKind.i64, CK.int IntKind.i64, CK.str, CK.bool]] ps)), AV.s (SV.ro (Con.typ cI is)), AV.s (SV.ro (Con.typ cC cs)), AV.s (SV.ro (Con.typ cW ws))] (27 : Nat), AObj.own [AV.s (SV.int IntKind.i64 (0 : Int)), AV.s (SV.int IntKind.i64 (0 : Int)), AV.emp, AV.emp, AV.emp, AV.emp] (27 : Nat)] (hd Try.f105 (5 : Nat)) (Stk.mk (some (105 : Nat)) false (0 : Nat) [inCall Try.f83 none (1 : Nat) (4 : Nat) false (0 : Nat)] (0 : Nat)))))) (Tree.need (inI64 (i + (1 : Int))) (Tree.at (Cfg.mk (sl (73 : Nat) [((0 : Nat), AV.vec (0 : Nat)), ((1 : Nat), AV.fn (107 : Nat) [AV.ptr (1 : Nat) (0 : Nat)]), ((7 : Nat), AV.s (SV.int IntKind.i64 (↑(List.length r) : Int))), ((8 : Nat), AV.s (SV.int IntKind.i64 (i + (1 : Int)))), ((19 : Nat), AV.vec (0 : Nat)), ((20 : Nat), AV.fn (107 : Nat) [AV.ptr (1 : Nat) (0 : Nat)]), ((63 : Nat), AV.ptr (2 : Nat) (0 : Nat)), ((65 : Nat), AV.ptr (3 : Nat) (0 : Nat))]) [AObj.vec (Con.typ cC r) (90 : Nat), AObj.own [AV.s (SV.ro (Con.ints IntKind.i64 l))] (50 : Nat), AObj.own [AV.s (SV.int IntKind.i64 ck), AV.s (SV.int IntKind.i64 nx), AV.s (SV.ro (Con.typ [CK.str, CK.rows [CK.str, CK.int IntKind.u8, CK.int IntKind.i64, CK.str], CK.rows [CK.str, CK.int IntKind.u8, CK.int IntKind.i64, CK.int IntKind.i64, CK.int IntKind.u8, CK.str, CK.str, CK.str, CK.bool, CK.rows [CK.str, CK.int IntKind.u8, CK.int IntKind.i64, CK.str], CK.strs], CK.rows [CK.int IntKind.i64, CK.int IntKind.i64, CK.str, CK.bool]] ps)), AV.s (SV.ro (Con.typ cI is)), AV.s (SV.ro (Con.typ cC cs)), AV.s (SV.ro (Con.typ cW ws))] (27 : Nat), AObj.own [AV.s (SV.int IntKind.i64 (0 : Int)), AV.s (SV.int IntKind.i64 (0 : Int)), AV.emp, AV.emp, AV.emp, AV.emp] (27 : Nat)] (hd Try.f128 (2 : Nat)) (Stk.mk (some (128 : Nat)) false (0 : Nat) [inCall Try.f105 (some (105 : Nat)) (1 : Nat) (2 : Nat) false (0 : Nat), inCall Try.f83 none (1 : Nat) (4 : Nat) false (0 : Nat)] (0 : Nat))))))))
  (Tree.at (Cfg.mk (sl (12 : Nat) [((2 : Nat), AV.ptr (0 : Nat) (0 : Nat)), ((4 : Nat), AV.ptr (1 : Nat) (0 : Nat)), ((9 : Nat), AV.vec (2 : Nat))]) [AObj.own [AV.s (SV.int IntKind.i64 ck), AV.s (SV.int IntKind.i64 nx), AV.s (SV.ro (Con.typ [CK.str, CK.rows [CK.str, CK.int IntKind.u8, CK.int IntKind.i64, CK.str], CK.rows [CK.str, CK.int IntKind.u8, CK.int IntKind.i64, CK.int IntKind.i64, CK.int IntKind.u8, CK.str, CK.str, CK.str, CK.bool, CK.rows [CK.str, CK.int IntKind.u8, CK.int IntKind.i64, CK.str], CK.strs], CK.rows [CK.int IntKind.i64, CK.int IntKind.i64, CK.str, CK.bool]] ps)), AV.s (SV.ro (Con.typ cI is)), AV.s (SV.ro (Con.typ cC cs)), AV.s (SV.ro (Con.typ cW ws))] (27 : Nat), AObj.own [AV.s (SV.int IntKind.i64 (0 : Int)), AV.s (SV.int IntKind.i64 (0 : Int)), AV.emp, AV.emp, AV.emp, AV.emp] (27 : Nat), AObj.vec (Con.typ cC r) (90 : Nat)] (cal Try.f83 (1 : Nat) (5 : Nat)) (Stk.mk none false (0 : Nat) [] (1 : Nat)))) := by kernel_rfl
noncomputable def cDr2 (ck nx : Int) (ps : Ps) (is : Is) (cs : Cs) (ws : Ws) (l : List Int) (r : Cs) (i j : Int) : Cfg := ⟨sl 54 [(0, .vec 0), (1, .fn 107 [.ptr 1 0]), (5, avI i), (6, avI j), (44, .ptr 2 0), (46, .ptr 3 0)], [.vec (.typ cC r) eC, .own [avL l] 50, obSt ck nx ps is cs ws, obZ], hd Try.f105 5, ⟨some fDc, false, 0, [inCall Try.f83 none 1 4 false 0], 0⟩⟩
theorem loopDr2 (ck nx : Int) (ps : Ps) (is : Is) (cs : Cs) (ws : Ws) (l : List Int) (r : Cs) (i j : Int) : run P tabDr.sum Try.f83 nsDr (cDr2 ck nx ps is cs ws l r i j) inDr =
  Tree.ite (decide (j < (↑(List.length r) : Int))) (Tree.need ((0 : Int) ≤ j) (Tree.need (j < (↑(List.length r) : Int)) (Tree.ite (!l.contains (lS (el r j))) (Tree.need ((0 : Int) ≤ i) (Tree.need (i < (↑(List.length r) : Int)) (Tree.need (inI64 (i + (1 : Int))) (Tree.need (inI64 (j + (1 : Int))) (Tree.at (Cfg.mk (sl (54 : Nat) [((0 : Nat), AV.vec (0 : Nat)), ((1 : Nat), AV.fn (107 : Nat) [AV.ptr (1 : Nat) (0 : Nat)]), ((5 : Nat), AV.s (SV.int IntKind.i64 (i + (1 : Int)))), ((6 : Nat), AV.s (SV.int IntKind.i64 (j + (1 : Int)))), ((44 : Nat), AV.ptr (2 : Nat) (0 : Nat)), ((46 : Nat), AV.ptr (3 : Nat) (0 : Nat))]) [AObj.vec (Con.typ cC (List.set r i.toNat (lS (el r j), lN (el r j), lK (el r j), lV (el r j), lT (el r j), (el r i).snd.snd.snd.snd.snd))) (90 : Nat), AObj.own [AV.s (SV.ro (Con.ints IntKind.i64 l))] (50 : Nat), AObj.own [AV.s (SV.int IntKind.i64 ck), AV.s (SV.int IntKind.i64 nx), AV.s (SV.ro (Con.typ [CK.str, CK.rows [CK.str, CK.int IntKind.u8, CK.int IntKind.i64, CK.str], CK.rows [CK.str, CK.int IntKind.u8, CK.int IntKind.i64, CK.int IntKind.i64, CK.int IntKind.u8, CK.str, CK.str, CK.str, CK.bool, CK.rows [CK.str, CK.int IntKind.u8, CK.int IntKind.i64, CK.str], CK.strs], CK.rows [CK.int IntKind.i64, CK.int IntKind.i64, CK.str, CK.bool]] ps)), AV.s (SV.ro (Con.typ cI is)), AV.s (SV.ro (Con.typ cC cs)), AV.s (SV.ro (Con.typ cW ws))] (27 : Nat), AObj.own [AV.s (SV.int IntKind.i64 (0 : Int)), AV.s (SV.int IntKind.i64 (0 : Int)), AV.emp, AV.emp, AV.emp, AV.emp] (27 : Nat)] (hd Try.f105 (5 : Nat)) (Stk.mk (some (105 : Nat)) false (0 : Nat) [inCall Try.f83 none (1 : Nat) (4 : Nat) false (0 : Nat)] (0 : Nat)))))))) (Tree.need (inI64 (j + (1 : Int))) (Tree.at (Cfg.mk (sl (54 : Nat) [((0 : Nat), AV.vec (0 : Nat)), ((1 : Nat), AV.fn (107 : Nat) [AV.ptr (1 : Nat) (0 : Nat)]), ((5 : Nat), AV.s (SV.int IntKind.i64 i)), ((6 : Nat), AV.s (SV.int IntKind.i64 (j + (1 : Int)))), ((44 : Nat), AV.ptr (2 : Nat) (0 : Nat)), ((46 : Nat), AV.ptr (3 : Nat) (0 : Nat))]) [AObj.vec (Con.typ cC r) (90 : Nat), AObj.own [AV.s (SV.ro (Con.ints IntKind.i64 l))] (50 : Nat), AObj.own [AV.s (SV.int IntKind.i64 ck), AV.s (SV.int IntKind.i64 nx), AV.s (SV.ro (Con.typ [CK.str, CK.rows [CK.str, CK.int IntKind.u8, CK.int IntKind.i64, CK.str], CK.rows [CK.str, CK.int IntKind.u8, CK.int IntKind.i64, CK.int IntKind.i64, CK.int IntKind.u8, CK.str, CK.str, CK.str, CK.bool, CK.rows [CK.str, CK.int IntKind.u8, CK.int IntKind.i64, CK.str], CK.strs], CK.rows [CK.int IntKind.i64, CK.int IntKind.i64, CK.str, CK.bool]] ps)), AV.s (SV.ro (Con.typ cI is)), AV.s (SV.ro (Con.typ cC cs)), AV.s (SV.ro (Con.typ cW ws))] (27 : Nat), AObj.own [AV.s (SV.int IntKind.i64 (0 : Int)), AV.s (SV.int IntKind.i64 (0 : Int)), AV.emp, AV.emp, AV.emp, AV.emp] (27 : Nat)] (hd Try.f105 (5 : Nat)) (Stk.mk (some (105 : Nat)) false (0 : Nat) [inCall Try.f83 none (1 : Nat) (4 : Nat) false (0 : Nat)] (0 : Nat))))))))
  (Tree.need ((0 : Int) ≤ i) (Tree.need (i ≤ (↑(List.length r) : Int)) (Tree.need ((↑(0 : Nat) : Int) + (↑(List.length r) : Int) ≤ (↑(List.length r) : Int)) (Tree.need ((0 : Int) ≤ (0 : Int)) (Tree.need ((0 : Int) ≤ i) (Tree.need ((↑(0 : Nat) : Int) + i ≤ (↑(over r ((0 : Nat) + i.toNat) ((↑(List.length r) : Int).toNat - i.toNat) (List.replicate ((↑(List.length r) : Int).toNat - i.toNat) (CL.d cC))).length : Int)) (Tree.at (Cfg.mk (sl (12 : Nat) [((2 : Nat), AV.ptr (0 : Nat) (0 : Nat)), ((4 : Nat), AV.ptr (1 : Nat) (0 : Nat)), ((9 : Nat), AV.part (2 : Nat) (0 : Nat) (i.toNat - Int.toNat (0 : Int)))]) [AObj.own [AV.s (SV.int IntKind.i64 ck), AV.s (SV.int IntKind.i64 nx), AV.s (SV.ro (Con.typ [CK.str, CK.rows [CK.str, CK.int IntKind.u8, CK.int IntKind.i64, CK.str], CK.rows [CK.str, CK.int IntKind.u8, CK.int IntKind.i64, CK.int IntKind.i64, CK.int IntKind.u8, CK.str, CK.str, CK.str, CK.bool, CK.rows [CK.str, CK.int IntKind.u8, CK.int IntKind.i64, CK.str], CK.strs], CK.rows [CK.int IntKind.i64, CK.int IntKind.i64, CK.str, CK.bool]] ps)), AV.s (SV.ro (Con.typ cI is)), AV.s (SV.ro (Con.typ cC cs)), AV.s (SV.ro (Con.typ cW ws))] (27 : Nat), AObj.own [AV.s (SV.int IntKind.i64 (0 : Int)), AV.s (SV.int IntKind.i64 (0 : Int)), AV.emp, AV.emp, AV.emp, AV.emp] (27 : Nat), AObj.vec (Con.typ cC (over r ((0 : Nat) + i.toNat) ((↑(List.length r) : Int).toNat - i.toNat) (List.replicate ((↑(List.length r) : Int).toNat - i.toNat) (CL.d cC)))) (90 : Nat)] (cal Try.f83 (1 : Nat) (5 : Nat)) (Stk.mk none false (0 : Nat) [] (1 : Nat)))))))))) := by kernel_rfl
noncomputable def cDrE (ck nx : Int) (ps : Ps) (is : Is) (cs : Cs) (ws : Ws) (r : Cs) : Cfg := ⟨sl 12 [(2, .ptr 0 0), (4, .ptr 1 0), (9, .vec 3)], [obSt ck nx ps is cs ws, obZ, .dead, .vec (.typ cC r) eC], cal Try.f83 1 5, kk 1⟩
theorem endDr (ck nx : Int) (ps : Ps) (is : Is) (cs : Cs) (ws : Ws) (r : Cs) : run P tabDr.sum Try.f83 nsDr (cDrE ck nx ps is cs ws r) inDr =
  Tree.ret [AObj.own [AV.s (SV.int IntKind.i64 ck), AV.s (SV.int IntKind.i64 nx), AV.s (SV.ro (Con.typ [CK.str, CK.rows [CK.str, CK.int IntKind.u8, CK.int IntKind.i64, CK.str], CK.rows [CK.str, CK.int IntKind.u8, CK.int IntKind.i64, CK.int IntKind.i64, CK.int IntKind.u8, CK.str, CK.str, CK.str, CK.bool, CK.rows [CK.str, CK.int IntKind.u8, CK.int IntKind.i64, CK.str], CK.strs], CK.rows [CK.int IntKind.i64, CK.int IntKind.i64, CK.str, CK.bool]] ps)), AV.s (SV.ro (Con.typ cI is)), AV.vec (3 : Nat), AV.s (SV.ro (Con.typ cW ws))] (27 : Nat), AObj.own [AV.s (SV.int IntKind.i64 ck), AV.s (SV.int IntKind.i64 nx), AV.s (SV.ro (Con.typ [CK.str, CK.rows [CK.str, CK.int IntKind.u8, CK.int IntKind.i64, CK.str], CK.rows [CK.str, CK.int IntKind.u8, CK.int IntKind.i64, CK.int IntKind.i64, CK.int IntKind.u8, CK.str, CK.str, CK.str, CK.bool, CK.rows [CK.str, CK.int IntKind.u8, CK.int IntKind.i64, CK.str], CK.strs], CK.rows [CK.int IntKind.i64, CK.int IntKind.i64, CK.str, CK.bool]] ps)), AV.s (SV.ro (Con.typ cI is)), AV.vec (3 : Nat), AV.s (SV.ro (Con.typ cW ws))] (27 : Nat), AObj.dead, AObj.vec (Con.typ cC r) (90 : Nat)] (AV.agg [AV.s (SV.int IntKind.i64 ck), AV.s (SV.int IntKind.i64 nx), AV.s (SV.ro (Con.typ [CK.str, CK.rows [CK.str, CK.int IntKind.u8, CK.int IntKind.i64, CK.str], CK.rows [CK.str, CK.int IntKind.u8, CK.int IntKind.i64, CK.int IntKind.i64, CK.int IntKind.u8, CK.str, CK.str, CK.str, CK.bool, CK.rows [CK.str, CK.int IntKind.u8, CK.int IntKind.i64, CK.str], CK.strs], CK.rows [CK.int IntKind.i64, CK.int IntKind.i64, CK.str, CK.bool]] ps)), AV.s (SV.ro (Con.typ cI is)), AV.vec (3 : Nat), AV.s (SV.ro (Con.typ cW ws))]) := by kernel_rfl
/-! unwatched -/
abbrev fIw : FuncId := 120
abbrev fDw : FuncId := 90
abbrev fUw : FuncId := 92
abbrev inUw : List FuncId := [91, fIw, fDw, fUw]
def nsUw : List (Nat × Norm) := [(midKey + 1003, ⟨[(7, .typ cW [], eW)], [2, 3, 4, 7], 1, []⟩), ((fIw + 1) * 100000 + 2, ⟨[], [0, 1, 7, 8, 19, 20, 63, 65], 1, []⟩), ((fDw + 1) * 100000 + 5, ⟨[], [0, 1, 5, 6, 44, 46], 1, []⟩), (midKey + 1005, ⟨[], [2, 4, 9], 1, []⟩)]
theorem trUw (ck nx : Int) (ps : Ps) (is : Is) (cs : Cs) (ws : Ws) (m : Mp) : run P tab0.sum Try.f63 nsUw (start Try.f63 [avSt ck nx ps is cs ws, .mapv 0] [.map kM m]) inUw =
  Tree.both (List.length ws = (0 : Nat)) True (Tree.at (Cfg.mk (sl (12 : Nat) [((2 : Nat), AV.ptr (1 : Nat) (0 : Nat)), ((3 : Nat), AV.ptr (2 : Nat) (0 : Nat)), ((4 : Nat), AV.ptr (3 : Nat) (0 : Nat)), ((7 : Nat), AV.vec (4 : Nat))]) [AObj.map (CK.int IntKind.i64) m, AObj.own [AV.s (SV.int IntKind.i64 ck), AV.s (SV.int IntKind.i64 nx), AV.s (SV.ro (Con.typ [CK.str, CK.rows [CK.str, CK.int IntKind.u8, CK.int IntKind.i64, CK.str], CK.rows [CK.str, CK.int IntKind.u8, CK.int IntKind.i64, CK.int IntKind.i64, CK.int IntKind.u8, CK.str, CK.str, CK.str, CK.bool, CK.rows [CK.str, CK.int IntKind.u8, CK.int IntKind.i64, CK.str], CK.strs], CK.rows [CK.int IntKind.i64, CK.int IntKind.i64, CK.str, CK.bool]] ps)), AV.s (SV.ro (Con.typ cI is)), AV.s (SV.ro (Con.typ cC cs)), AV.s (SV.ro (Con.typ cW ws))] (27 : Nat), AObj.own [AV.mapv (0 : Nat)] (97 : Nat), AObj.own [AV.s (SV.int IntKind.i64 (0 : Int)), AV.s (SV.int IntKind.i64 (0 : Int)), AV.emp, AV.emp, AV.emp, AV.emp] (27 : Nat), AObj.vec (Con.typ cW []) (93 : Nat)] (cal Try.f63 (1 : Nat) (3 : Nat)) (Stk.mk none false (0 : Nat) [] (1 : Nat)))) (Tree.need (((0 : Nat) + List.length ws) * (64 : Nat) ≤ (140737488355328 : Nat)) (Tree.at (Cfg.mk (sl (12 : Nat) [((2 : Nat), AV.ptr (1 : Nat) (0 : Nat)), ((3 : Nat), AV.ptr (2 : Nat) (0 : Nat)), ((4 : Nat), AV.ptr (3 : Nat) (0 : Nat)), ((7 : Nat), AV.vec (4 : Nat))]) [AObj.map (CK.int IntKind.i64) m, AObj.own [AV.s (SV.int IntKind.i64 ck), AV.s (SV.int IntKind.i64 nx), AV.s (SV.ro (Con.typ [CK.str, CK.rows [CK.str, CK.int IntKind.u8, CK.int IntKind.i64, CK.str], CK.rows [CK.str, CK.int IntKind.u8, CK.int IntKind.i64, CK.int IntKind.i64, CK.int IntKind.u8, CK.str, CK.str, CK.str, CK.bool, CK.rows [CK.str, CK.int IntKind.u8, CK.int IntKind.i64, CK.str], CK.strs], CK.rows [CK.int IntKind.i64, CK.int IntKind.i64, CK.str, CK.bool]] ps)), AV.s (SV.ro (Con.typ cI is)), AV.s (SV.ro (Con.typ cC cs)), AV.s (SV.ro (Con.typ cW ws))] (27 : Nat), AObj.own [AV.mapv (0 : Nat)] (97 : Nat), AObj.own [AV.s (SV.int IntKind.i64 (0 : Int)), AV.s (SV.int IntKind.i64 (0 : Int)), AV.emp, AV.emp, AV.emp, AV.emp] (27 : Nat), AObj.vec (Con.typ cW ([] ++ ws)) (93 : Nat)] (cal Try.f63 (1 : Nat) (3 : Nat)) (Stk.mk none false (0 : Nat) [] (1 : Nat))))) := by kernel_rfl
noncomputable def cUw (ck nx : Int) (ps : Ps) (is : Is) (cs : Cs) (ws : Ws) (m : Mp) (r : Ws) : Cfg := ⟨sl 12 [(2, .ptr 1 0), (3, .ptr 2 0), (4, .ptr 3 0), (7, .vec 4)], [.map kM m, obSt ck nx ps is cs ws, .own [.mapv 0] 97, obZ, .vec (.typ cW r) eW], cal Try.f63 1 3, kk 1⟩
theorem midUw (ck nx : Int) (ps : Ps) (is : Is) (cs : Cs) (ws : Ws) (m : Mp) (r : Ws) : run P tab0.sum Try.f63 nsUw (cUw ck nx ps is cs ws m r) inUw =
  Tree.at (Cfg.mk (sl (73 : Nat) [((0 : Nat), AV.vec (1 : Nat)), ((1 : Nat), AV.fn (92 : Nat) [AV.ptr (2 : Nat) (0 : Nat)]), ((7 : Nat), AV.s (SV.int IntKind.i64 (↑(List.length r) : Int))), ((8 : Nat), AV.s (SV.int IntKind.i64 (0 : Int))), ((19 : Nat), AV.vec (1 : Nat)), ((20 : Nat), AV.fn (92 : Nat) [AV.ptr (2 : Nat) (0 : Nat)]), ((63 : Nat), AV.ptr (3 : Nat) (0 : Nat)), ((65 : Nat), AV.ptr (4 : Nat) (0 : Nat))]) [AObj.map (CK.int IntKind.i64) m, AObj.vec (Con.typ cW r) (93 : Nat), AObj.own [AV.mapv (0 : Nat)] (97 : Nat), AObj.own [AV.s (SV.int IntKind.i64 ck), AV.s (SV.int IntKind.i64 nx), AV.s (SV.ro (Con.typ [CK.str, CK.rows [CK.str, CK.int IntKind.u8, CK.int IntKind.i64, CK.str], CK.rows [CK.str, CK.int IntKind.u8, CK.int IntKind.i64, CK.int IntKind.i64, CK.int IntKind.u8, CK.str, CK.str, CK.str, CK.bool, CK.rows [CK.str, CK.int IntKind.u8, CK.int IntKind.i64, CK.str], CK.strs], CK.rows [CK.int IntKind.i64, CK.int IntKind.i64, CK.str, CK.bool]] ps)), AV.s (SV.ro (Con.typ cI is)), AV.s (SV.ro (Con.typ cC cs)), AV.s (SV.ro (Con.typ cW ws))] (27 : Nat), AObj.own [AV.s (SV.int IntKind.i64 (0 : Int)), AV.s (SV.int IntKind.i64 (0 : Int)), AV.emp, AV.emp, AV.emp, AV.emp] (27 : Nat)] (hd Try.f120 (2 : Nat)) (Stk.mk (some (120 : Nat)) false (0 : Nat) [inCall Try.f90 (some (90 : Nat)) (1 : Nat) (2 : Nat) false (0 : Nat), inCall Try.f63 none (1 : Nat) (4 : Nat) false (0 : Nat)] (0 : Nat))) := by kernel_rfl
noncomputable def cUw1 (ck nx : Int) (ps : Ps) (is : Is) (cs : Cs) (ws : Ws) (m : Mp) (r : Ws) (i : Int) : Cfg := ⟨sl 73 [(0, .vec 1), (1, .fn fUw [.ptr 2 0]), (7, avI (r.length : Int)), (8, avI i), (19, .vec 1), (20, .fn fUw [.ptr 2 0]), (63, .ptr 3 0), (65, .ptr 4 0)], [.map kM m, .vec (.typ cW r) eW, .own [.mapv 0] 97, obSt ck nx ps is cs ws, obZ], hd Try.f120 2, ⟨some fIw, false, 0, [inCall Try.f90 (some fDw) 1 2 false 0, inCall Try.f63 none 1 4 false 0], 0⟩⟩
theorem loopUw1 (ck nx : Int) (ps : Ps) (is : Is) (cs : Cs) (ws : Ws) (m : Mp) (r : Ws) (i : Int) : run P tab0.sum Try.f63 nsUw (cUw1 ck nx ps is cs ws m r i) inUw =
  Tree.ite (decide (i < (↑(List.length r) : Int))) (Tree.need ((0 : Int) ≤ i) (Tree.need (i < (↑(List.length r) : Int)) (Tree.ite (decide ((mget m (wT (el r i))).getD (CK.int IntKind.i64).d > (0 : Int))) (Tree.ite (i == (-1 : Int)) (Tree.at (Cfg.mk (sl (12 : Nat) [((2 : Nat), AV.ptr (1 : Nat) (0 : Nat)), ((4 : Nat), AV.ptr (2 : Nat) (0 : Nat)), ((9 : Nat), AV.vec (3 : Nat))]) [AObj.map (CK.int IntKind.i64) m, AObj.own [AV.s (SV.int IntKind.i64 ck), AV.s (SV.int IntKind.i64 nx), AV.s (SV.ro (Con.typ [CK.str, CK.rows [CK.str, CK.int IntKind.u8, CK.int IntKind.i64, CK.str], CK.rows [CK.str, CK.int IntKind.u8, CK.int IntKind.i64, CK.int IntKind.i64, CK.int IntKind.u8, CK.str, CK.str, CK.str, CK.bool, CK.rows [CK.str, CK.int IntKind.u8, CK.int IntKind.i64, CK.str], CK.strs], CK.rows [CK.int IntKind.i64, CK.int IntKind.i64, CK.str, CK.bool]] ps)), AV.s (SV.ro (Con.typ cI is)), AV.s (SV.ro (Con.typ cC cs)), AV.s (SV.ro (Con.typ cW ws))] (27 : Nat), AObj.own [AV.s (SV.int IntKind.i64 (0 : Int)), AV.s (SV.int IntKind.i64 (0 : Int)), AV.emp, AV.emp, AV.emp, AV.emp] (27 : Nat), AObj.vec (Con.typ cW r) (93 : Nat)] (cal Try.f63 (1 : Nat) (5 : Nat)) (Stk.mk none false (0 : Nat) [] (1 : Nat)))) (Tree.need (inI64 (i + (1 : Int))) (Tree.at (Cfg.mk (sl (54 : Nat) [((0 : Nat), AV.vec (1 : Nat)), ((1 : Nat), AV.fn (92 : Nat) [AV.ptr (2 : Nat) (0 : Nat)]), ((5 : Nat), AV.s (SV.int IntKind.i64 i)), ((6 : Nat), AV.s (SV.int IntKind.i64 (i + (1 : Int)))), ((44 : Nat), AV.ptr (3 : Nat) (0 : Nat)), ((46 : Nat), AV.ptr (4 : Nat) (0 : Nat))]) [AObj.map (CK.int IntKind.i64) m, AObj.vec (Con.typ cW r) (93 : Nat), AObj.own [AV.mapv (0 : Nat)] (97 : Nat), AObj.own [AV.s (SV.int IntKind.i64 ck), AV.s (SV.int IntKind.i64 nx), AV.s (SV.ro (Con.typ [CK.str, CK.rows [CK.str, CK.int IntKind.u8, CK.int IntKind.i64, CK.str], CK.rows [CK.str, CK.int IntKind.u8, CK.int IntKind.i64, CK.int IntKind.i64, CK.int IntKind.u8, CK.str, CK.str, CK.str, CK.bool, CK.rows [CK.str, CK.int IntKind.u8, CK.int IntKind.i64, CK.str], CK.strs], CK.rows [CK.int IntKind.i64, CK.int IntKind.i64, CK.str, CK.bool]] ps)), AV.s (SV.ro (Con.typ cI is)), AV.s (SV.ro (Con.typ cC cs)), AV.s (SV.ro (Con.typ cW ws))] (27 : Nat), AObj.own [AV.s (SV.int IntKind.i64 (0 : Int)), AV.s (SV.int IntKind.i64 (0 : Int)), AV.emp, AV.emp, AV.emp, AV.emp] (27 : Nat)] (hd Try.f90 (5 : Nat)) (Stk.mk (some (90 : Nat)) false (0 : Nat) [inCall Try.f63 none (1 : Nat) (4 : Nat) false (0 : Nat)] (0 : Nat)))))) (Tree.need (inI64 (i + (1 : Int))) (Tree.at (Cfg.mk (sl (73 : Nat) [((0 : Nat), AV.vec (1 : Nat)), ((1 : Nat), AV.fn (92 : Nat) [AV.ptr (2 : Nat) (0 : Nat)]), ((7 : Nat), AV.s (SV.int IntKind.i64 (↑(List.length r) : Int))), ((8 : Nat), AV.s (SV.int IntKind.i64 (i + (1 : Int)))), ((19 : Nat), AV.vec (1 : Nat)), ((20 : Nat), AV.fn (92 : Nat) [AV.ptr (2 : Nat) (0 : Nat)]), ((63 : Nat), AV.ptr (3 : Nat) (0 : Nat)), ((65 : Nat), AV.ptr (4 : Nat) (0 : Nat))]) [AObj.map (CK.int IntKind.i64) m, AObj.vec (Con.typ cW r) (93 : Nat), AObj.own [AV.mapv (0 : Nat)] (97 : Nat), AObj.own [AV.s (SV.int IntKind.i64 ck), AV.s (SV.int IntKind.i64 nx), AV.s (SV.ro (Con.typ [CK.str, CK.rows [CK.str, CK.int IntKind.u8, CK.int IntKind.i64, CK.str], CK.rows [CK.str, CK.int IntKind.u8, CK.int IntKind.i64, CK.int IntKind.i64, CK.int IntKind.u8, CK.str, CK.str, CK.str, CK.bool, CK.rows [CK.str, CK.int IntKind.u8, CK.int IntKind.i64, CK.str], CK.strs], CK.rows [CK.int IntKind.i64, CK.int IntKind.i64, CK.str, CK.bool]] ps)), AV.s (SV.ro (Con.typ cI is)), AV.s (SV.ro (Con.typ cC cs)), AV.s (SV.ro (Con.typ cW ws))] (27 : Nat), AObj.own [AV.s (SV.int IntKind.i64 (0 : Int)), AV.s (SV.int IntKind.i64 (0 : Int)), AV.emp, AV.emp, AV.emp, AV.emp] (27 : Nat)] (hd Try.f120 (2 : Nat)) (Stk.mk (some (120 : Nat)) false (0 : Nat) [inCall Try.f90 (some (90 : Nat)) (1 : Nat) (2 : Nat) false (0 : Nat), inCall Try.f63 none (1 : Nat) (4 : Nat) false (0 : Nat)] (0 : Nat))))))))
  (Tree.at (Cfg.mk (sl (12 : Nat) [((2 : Nat), AV.ptr (1 : Nat) (0 : Nat)), ((4 : Nat), AV.ptr (2 : Nat) (0 : Nat)), ((9 : Nat), AV.vec (3 : Nat))]) [AObj.map (CK.int IntKind.i64) m, AObj.own [AV.s (SV.int IntKind.i64 ck), AV.s (SV.int IntKind.i64 nx), AV.s (SV.ro (Con.typ [CK.str, CK.rows [CK.str, CK.int IntKind.u8, CK.int IntKind.i64, CK.str], CK.rows [CK.str, CK.int IntKind.u8, CK.int IntKind.i64, CK.int IntKind.i64, CK.int IntKind.u8, CK.str, CK.str, CK.str, CK.bool, CK.rows [CK.str, CK.int IntKind.u8, CK.int IntKind.i64, CK.str], CK.strs], CK.rows [CK.int IntKind.i64, CK.int IntKind.i64, CK.str, CK.bool]] ps)), AV.s (SV.ro (Con.typ cI is)), AV.s (SV.ro (Con.typ cC cs)), AV.s (SV.ro (Con.typ cW ws))] (27 : Nat), AObj.own [AV.s (SV.int IntKind.i64 (0 : Int)), AV.s (SV.int IntKind.i64 (0 : Int)), AV.emp, AV.emp, AV.emp, AV.emp] (27 : Nat), AObj.vec (Con.typ cW r) (93 : Nat)] (cal Try.f63 (1 : Nat) (5 : Nat)) (Stk.mk none false (0 : Nat) [] (1 : Nat)))) := by kernel_rfl
noncomputable def cUw2 (ck nx : Int) (ps : Ps) (is : Is) (cs : Cs) (ws : Ws) (m : Mp) (r : Ws) (i j : Int) : Cfg := ⟨sl 54 [(0, .vec 1), (1, .fn fUw [.ptr 2 0]), (5, avI i), (6, avI j), (44, .ptr 3 0), (46, .ptr 4 0)], [.map kM m, .vec (.typ cW r) eW, .own [.mapv 0] 97, obSt ck nx ps is cs ws, obZ], hd Try.f90 5, ⟨some fDw, false, 0, [inCall Try.f63 none 1 4 false 0], 0⟩⟩
theorem loopUw2 (ck nx : Int) (ps : Ps) (is : Is) (cs : Cs) (ws : Ws) (m : Mp) (r : Ws) (i j : Int) : run P tab0.sum Try.f63 nsUw (cUw2 ck nx ps is cs ws m r i j) inUw =
  Tree.ite (decide (j < (↑(List.length r) : Int))) (Tree.need ((0 : Int) ≤ j) (Tree.need (j < (↑(List.length r) : Int)) (Tree.ite (!decide ((mget m (wT (el r j))).getD (CK.int IntKind.i64).d > (0 : Int))) (Tree.need ((0 : Int) ≤ i) (Tree.need (i < (↑(List.length r) : Int)) (Tree.need (inI64 (i + (1 : Int))) (Tree.need (inI64 (j + (1 : Int))) (Tree.at (Cfg.mk (sl (54 : Nat) [((0 : Nat), AV.vec (1 : Nat)), ((1 : Nat), AV.fn (92 : Nat) [AV.ptr (2 : Nat) (0 : Nat)]), ((5 : Nat), AV.s (SV.int IntKind.i64 (i + (1 : Int)))), ((6 : Nat), AV.s (SV.int IntKind.i64 (j + (1 : Int)))), ((44 : Nat), AV.ptr (3 : Nat) (0 : Nat)), ((46 : Nat), AV.ptr (4 : Nat) (0 : Nat))]) [AObj.map (CK.int IntKind.i64) m, AObj.vec (Con.typ cW (List.set r i.toNat (wI (el r j), wT (el r j), wN (el r j), wE (el r j), wK (el r j), wD (el r j), wA (el r j), (el r i).snd.snd.snd.snd.snd.snd.snd))) (93 : Nat), AObj.own [AV.mapv (0 : Nat)] (97 : Nat), AObj.own [AV.s (SV.int IntKind.i64 ck), AV.s (SV.int IntKind.i64 nx), AV.s (SV.ro (Con.typ [CK.str, CK.rows [CK.str, CK.int IntKind.u8, CK.int IntKind.i64, CK.str], CK.rows [CK.str, CK.int IntKind.u8, CK.int IntKind.i64, CK.int IntKind.i64, CK.int IntKind.u8, CK.str, CK.str, CK.str, CK.bool, CK.rows [CK.str, CK.int IntKind.u8, CK.int IntKind.i64, CK.str], CK.strs], CK.rows [CK.int IntKind.i64, CK.int IntKind.i64, CK.str, CK.bool]] ps)), AV.s (SV.ro (Con.typ cI is)), AV.s (SV.ro (Con.typ cC cs)), AV.s (SV.ro (Con.typ cW ws))] (27 : Nat), AObj.own [AV.s (SV.int IntKind.i64 (0 : Int)), AV.s (SV.int IntKind.i64 (0 : Int)), AV.emp, AV.emp, AV.emp, AV.emp] (27 : Nat)] (hd Try.f90 (5 : Nat)) (Stk.mk (some (90 : Nat)) false (0 : Nat) [inCall Try.f63 none (1 : Nat) (4 : Nat) false (0 : Nat)] (0 : Nat)))))))) (Tree.need (inI64 (j + (1 : Int))) (Tree.at (Cfg.mk (sl (54 : Nat) [((0 : Nat), AV.vec (1 : Nat)), ((1 : Nat), AV.fn (92 : Nat) [AV.ptr (2 : Nat) (0 : Nat)]), ((5 : Nat), AV.s (SV.int IntKind.i64 i)), ((6 : Nat), AV.s (SV.int IntKind.i64 (j + (1 : Int)))), ((44 : Nat), AV.ptr (3 : Nat) (0 : Nat)), ((46 : Nat), AV.ptr (4 : Nat) (0 : Nat))]) [AObj.map (CK.int IntKind.i64) m, AObj.vec (Con.typ cW r) (93 : Nat), AObj.own [AV.mapv (0 : Nat)] (97 : Nat), AObj.own [AV.s (SV.int IntKind.i64 ck), AV.s (SV.int IntKind.i64 nx), AV.s (SV.ro (Con.typ [CK.str, CK.rows [CK.str, CK.int IntKind.u8, CK.int IntKind.i64, CK.str], CK.rows [CK.str, CK.int IntKind.u8, CK.int IntKind.i64, CK.int IntKind.i64, CK.int IntKind.u8, CK.str, CK.str, CK.str, CK.bool, CK.rows [CK.str, CK.int IntKind.u8, CK.int IntKind.i64, CK.str], CK.strs], CK.rows [CK.int IntKind.i64, CK.int IntKind.i64, CK.str, CK.bool]] ps)), AV.s (SV.ro (Con.typ cI is)), AV.s (SV.ro (Con.typ cC cs)), AV.s (SV.ro (Con.typ cW ws))] (27 : Nat), AObj.own [AV.s (SV.int IntKind.i64 (0 : Int)), AV.s (SV.int IntKind.i64 (0 : Int)), AV.emp, AV.emp, AV.emp, AV.emp] (27 : Nat)] (hd Try.f90 (5 : Nat)) (Stk.mk (some (90 : Nat)) false (0 : Nat) [inCall Try.f63 none (1 : Nat) (4 : Nat) false (0 : Nat)] (0 : Nat))))))))
  (Tree.need ((0 : Int) ≤ i) (Tree.need (i ≤ (↑(List.length r) : Int)) (Tree.need ((↑(0 : Nat) : Int) + (↑(List.length r) : Int) ≤ (↑(List.length r) : Int)) (Tree.need ((0 : Int) ≤ (0 : Int)) (Tree.need ((0 : Int) ≤ i) (Tree.need ((↑(0 : Nat) : Int) + i ≤ (↑(over r ((0 : Nat) + i.toNat) ((↑(List.length r) : Int).toNat - i.toNat) (List.replicate ((↑(List.length r) : Int).toNat - i.toNat) (CL.d cW))).length : Int)) (Tree.at (Cfg.mk (sl (12 : Nat) [((2 : Nat), AV.ptr (1 : Nat) (0 : Nat)), ((4 : Nat), AV.ptr (2 : Nat) (0 : Nat)), ((9 : Nat), AV.part (3 : Nat) (0 : Nat) (i.toNat - Int.toNat (0 : Int)))]) [AObj.map (CK.int IntKind.i64) m, AObj.own [AV.s (SV.int IntKind.i64 ck), AV.s (SV.int IntKind.i64 nx), AV.s (SV.ro (Con.typ [CK.str, CK.rows [CK.str, CK.int IntKind.u8, CK.int IntKind.i64, CK.str], CK.rows [CK.str, CK.int IntKind.u8, CK.int IntKind.i64, CK.int IntKind.i64, CK.int IntKind.u8, CK.str, CK.str, CK.str, CK.bool, CK.rows [CK.str, CK.int IntKind.u8, CK.int IntKind.i64, CK.str], CK.strs], CK.rows [CK.int IntKind.i64, CK.int IntKind.i64, CK.str, CK.bool]] ps)), AV.s (SV.ro (Con.typ cI is)), AV.s (SV.ro (Con.typ cC cs)), AV.s (SV.ro (Con.typ cW ws))] (27 : Nat), AObj.own [AV.s (SV.int IntKind.i64 (0 : Int)), AV.s (SV.int IntKind.i64 (0 : Int)), AV.emp, AV.emp, AV.emp, AV.emp] (27 : Nat), AObj.vec (Con.typ cW (over r ((0 : Nat) + i.toNat) ((↑(List.length r) : Int).toNat - i.toNat) (List.replicate ((↑(List.length r) : Int).toNat - i.toNat) (CL.d cW)))) (93 : Nat)] (cal Try.f63 (1 : Nat) (5 : Nat)) (Stk.mk none false (0 : Nat) [] (1 : Nat)))))))))) := by kernel_rfl
noncomputable def cUwE (ck nx : Int) (ps : Ps) (is : Is) (cs : Cs) (ws : Ws) (m : Mp) (r : Ws) : Cfg := ⟨sl 12 [(2, .ptr 1 0), (4, .ptr 2 0), (9, .vec 4)], [.map kM m, obSt ck nx ps is cs ws, obZ, .dead, .vec (.typ cW r) eW], cal Try.f63 1 5, kk 1⟩
theorem endUw (ck nx : Int) (ps : Ps) (is : Is) (cs : Cs) (ws : Ws) (m : Mp) (r : Ws) : run P tab0.sum Try.f63 nsUw (cUwE ck nx ps is cs ws m r) inUw =
  Tree.ret [AObj.map (CK.int IntKind.i64) m, AObj.own [AV.s (SV.int IntKind.i64 ck), AV.s (SV.int IntKind.i64 nx), AV.s (SV.ro (Con.typ [CK.str, CK.rows [CK.str, CK.int IntKind.u8, CK.int IntKind.i64, CK.str], CK.rows [CK.str, CK.int IntKind.u8, CK.int IntKind.i64, CK.int IntKind.i64, CK.int IntKind.u8, CK.str, CK.str, CK.str, CK.bool, CK.rows [CK.str, CK.int IntKind.u8, CK.int IntKind.i64, CK.str], CK.strs], CK.rows [CK.int IntKind.i64, CK.int IntKind.i64, CK.str, CK.bool]] ps)), AV.s (SV.ro (Con.typ cI is)), AV.s (SV.ro (Con.typ cC cs)), AV.vec (4 : Nat)] (27 : Nat), AObj.own [AV.s (SV.int IntKind.i64 ck), AV.s (SV.int IntKind.i64 nx), AV.s (SV.ro (Con.typ [CK.str, CK.rows [CK.str, CK.int IntKind.u8, CK.int IntKind.i64, CK.str], CK.rows [CK.str, CK.int IntKind.u8, CK.int IntKind.i64, CK.int IntKind.i64, CK.int IntKind.u8, CK.str, CK.str, CK.str, CK.bool, CK.rows [CK.str, CK.int IntKind.u8, CK.int IntKind.i64, CK.str], CK.strs], CK.rows [CK.int IntKind.i64, CK.int IntKind.i64, CK.str, CK.bool]] ps)), AV.s (SV.ro (Con.typ cI is)), AV.s (SV.ro (Con.typ cC cs)), AV.vec (4 : Nat)] (27 : Nat), AObj.dead, AObj.vec (Con.typ cW r) (93 : Nat)] (AV.agg [AV.s (SV.int IntKind.i64 ck), AV.s (SV.int IntKind.i64 nx), AV.s (SV.ro (Con.typ [CK.str, CK.rows [CK.str, CK.int IntKind.u8, CK.int IntKind.i64, CK.str], CK.rows [CK.str, CK.int IntKind.u8, CK.int IntKind.i64, CK.int IntKind.i64, CK.int IntKind.u8, CK.str, CK.str, CK.str, CK.bool, CK.rows [CK.str, CK.int IntKind.u8, CK.int IntKind.i64, CK.str], CK.strs], CK.rows [CK.int IntKind.i64, CK.int IntKind.i64, CK.str, CK.bool]] ps)), AV.s (SV.ro (Con.typ cI is)), AV.s (SV.ro (Con.typ cC cs)), AV.vec (4 : Nat)]) := by kernel_rfl
end Ds

namespace Ds
open Go Go.Sx Go.Proofs Lf
noncomputable def cDrV (ck nx : Int) (ps : Ps) (is : Is) (cs : Cs) (ws : Ws) (r : Cs) : Cfg := ⟨sl 12 [(2, .ptr 0 0), (4, .ptr 1 0), (9, .vec 2)], [obSt ck nx ps is cs ws, obZ, .vec (.typ cC r) eC], cal Try.f83 1 5, kk 1⟩
noncomputable def cUwV (ck nx : Int) (ps : Ps) (is : Is) (cs : Cs) (ws : Ws) (m : Mp) (r : Ws) : Cfg := ⟨sl 12 [(2, .ptr 1 0), (4, .ptr 2 0), (9, .vec 3)], [.map kM m, obSt ck nx ps is cs ws, obZ, .vec (.typ cW r) eW], cal Try.f63 1 5, kk 1⟩
def pDr (l : List Int) (c : CL cC) : Bool := l.contains (lS c)
def pUw (m : Mp) (w : CL cW) : Bool := decide (cnt m (wT w) > 0)
abbrev sUw : Spec (Int × Int × Ps × Is × Cs × Ws × Mp) := ⟨fun (ck, nx, ps, is, cs, ws, _) => [avSt ck nx ps is cs ws, .mapv 0], fun (_, _, _, _, _, _, m) => [.map kM m], fun (_, _, _, _, _, ws, _) => [ws.length ≤ 1000000], fun (_, _, _, _, _, ws, m) => [.map kM m, .vec (.typ cW (delF (pUw m) ws)) eW], fun (ck, nx, ps, is, cs, _, _) => .agg [avI ck, avI nx, .s (.ro (.typ cP ps)), .s (.ro (.typ cI is)), .s (.ro (.typ cC cs)), .vec 1]⟩
theorem has_ok {Z : Glob} : FnOk P Z 108 [tNs, tInt] [tBool] (fun _ => []) (fun (l, x, ()) => ((l : List Int).contains x, ())) := by
  refine fnOk_of_safe Try.func108 (by kernel_rfl) (by kernel_rfl) ?_
  rintro ⟨(l : List Int), (x : Int), ⟨⟩⟩ ⟨(hl : l.length ≤ maxLen), _⟩ _ X hX hz
  have hl2 : l.length ≤ 9223372036854775807 := by unfold maxLen at hl; omega
  show Safe P 108 X (Ends [tBool] (l.contains x, ())) _
  have loop : ∀ (j k : Nat), k + j = l.length → (∀ i (hi : i < k) (h2 : i < l.length), l[i] ≠ x) → Safe P 108 X (Ends [tBool] (l.contains x, ())) (cHas l x (k : Int)) := by
    intro j
    induction j with
    | zero =>
      intro k hk hi
      have e : l.contains x = false := by
        rw [List.contains_eq_mem, decide_eq_false_iff_not]
        intro h
        obtain ⟨i, h1, h2⟩ := List.mem_iff_getElem.1 h
        exact hi i (by omega) h1 h2
      refine go hz hX Tab.Ok.nil Try.func108 (loopHas l x k) ⟨fun h => absurd (of_decide_eq_true h) (by omega), fun _ => ?_⟩
      rw [e]; exact ends_eq _ rfl (by kernel_rfl)
    | succ j ih =>
      intro k hk hi
      have hlt : k < l.length := by omega
      refine go hz hX Tab.Ok.nil Try.func108 (loopHas l x k) ?_
      rw [Int.toNat_natCast, getD_lt hlt]
      have next := fun h : l[k] ≠ x => ih (k + 1) (by omega) fun i h1 h2 => by
        by_cases e : i = k
        · subst e; exact h
        · exact hi i (by omega) h2
      have hit : x = l[k] → l.contains x = true := fun h => by rw [List.contains_eq_mem, decide_eq_true_iff, h]; exact List.getElem_mem hlt
      repeat' (with_reducible (first | refine h_eq ?_ | refine h_need ?_ ?_ | refine h_dec (fun _ => ?_) (fun _ => ?_) | refine h_beq (fun _ => ?_) (fun _ => ?_) | refine h_bne (fun _ => ?_) (fun _ => ?_) | refine h_tt ?_ | refine h_ff ?_ | refine h_not ?_ | refine h_ite (fun _ => ?_) (fun _ => ?_) | refine h_both (fun _ => ?_) (fun _ => ?_) | refine h_ret ?_ | refine h_at ?_))
      all_goals first | omega | exact ⟨by omega, by omega⟩ | skip
      · rename_i h
        have e1 : decide ((k : Int) ≥ 0) = true := decide_eq_true (by omega)
        rw [hit (by simpa using h), e1]; exact ends_eq _ rfl (by kernel_rfl)
      · rename_i h; exact next (fun e => by simp [e] at h)
  refine go hz hX Tab.Ok.nil Try.func108 (trHas l x) ?_
  exact loop l.length 0 (by omega) fun i hi => absurd hi (Nat.not_lt_zero _)
theorem tabDr_ok {Z : Glob} : tabDr.Ok P Z := Tab.Ok.cons has_ok.sum Tab.Ok.nil
theorem drop_ok {Z : Glob} : FnOk P Z 83 [tSt, tNs] [tSr] (fun ((_, _, _, _, cs, _, ()), _, ()) => [(cs : Cs).length ≤ 1000000]) (fun ((ck, nx, ps, is, cs, ws, ()), l, ()) => ((ck, nx, ps, is, delF (pDr l) (cs : Cs), ws, ()), ())) := by
  refine fnOk_of_safe Try.func83 (by kernel_rfl) (by kernel_rfl) ?_
  rintro ⟨⟨(ck : Int), (nx : Int), (ps : Ps), (is : Is), (cs : Cs), (ws : Ws), ⟨⟩⟩, (l : List Int), ⟨⟩⟩ _ ⟨(hl : cs.length ≤ 1000000), _⟩ X hX hz
  have t1 : ∀ x, pDr l x = true → pDr l x = true := fun _ h => h
  have t0 : ∀ x, pDr l x = false → pDr l x = false := fun _ h => h
  show Safe P 83 X (Ends [tSr] ((ck, nx, ps, is, delF (pDr l) cs, ws, ()), ())) _

  have fin : ∀ r : List (CL cC), r = delF (pDr l) cs → Safe P 83 X (Ends [tSr] ((ck, nx, ps, is, delF (pDr l) cs, ws, ()), ())) (cDrE ck nx ps is cs ws r) := by
    intro r hr
    subst hr
    exact go hz hX tabDr_ok Try.func83 (endDr ck nx ps is cs ws (delF (pDr l) cs)) (ends_eq _ rfl (by kernel_rfl))
  have loop2 : ∀ (n : Nat) (r : List (CL cC)) (i j : Nat), j + n = cs.length → DInv (pDr l) cs r i j → Safe P 83 X (Ends [tSr] ((ck, nx, ps, is, delF (pDr l) cs, ws, ()), ())) (cDr2 ck nx ps is cs ws l r (i : Int) (j : Int)) := by
    intro n
    induction n with
    | zero =>
      intro r i j hj h
      have hlen := h.len
      have hij := h.ij
      refine go hz hX tabDr_ok Try.func83 (loopDr2 ck nx ps is cs ws l r i j) ⟨fun h => absurd (of_decide_eq_true h) (by omega), fun _ => ?_⟩
      rw [Int.toNat_natCast, Int.toNat_natCast]
      refine ⟨by omega, by omega, by omega, by omega, by omega, ?_, ?_⟩
      · rw [over_length _ _ (by omega) (by simp)]; omega
      · refine cut_safe (t := 9) (id := 2) rfl rfl ?_
        have e2 : conSub (.typ cC (over r (0 + i) (r.length - i) (List.replicate (r.length - i) (CL.d cC)))) 0 (0 + (i - Int.toNat 0)) = .typ cC (delF (pDr l) cs) := by
          show Con.typ cC ((List.take (0 + (i - 0)) (over r (0 + i) (r.length - i) (List.replicate (r.length - i) (CL.d cC)))).drop 0) = _
          rw [List.drop_zero, Nat.zero_add, Nat.sub_zero, Nat.zero_add]
          unfold over
          rw [List.append_assoc, List.take_append_of_le_length (by rw [List.length_take]; omega), List.take_take, Nat.min_self, h.fin (by omega)]
        rw [e2]
        exact fin _ rfl
    | succ n ih =>
      intro r i j hj h
      have hlen := h.len
      have hij := h.ij
      have hlt : j < cs.length := by omega
      refine go hz hX tabDr_ok Try.func83 (loopDr2 ck nx ps is cs ws l r i j) ?_
      rw [el_lt (show j < r.length by omega), h.at hlt]
      have skip := fun hp => ih r i (j + 1) (by omega) (h.skip hlt hp)
      have keep := fun hp => ih (r.set i cs[j]) (i + 1) (j + 1) (by omega) (h.keep hlt hp)
      repeat' (with_reducible (first | refine h_eq ?_ | refine h_need ?_ ?_ | refine h_dec (fun _ => ?_) (fun _ => ?_) | refine h_beq (fun _ => ?_) (fun _ => ?_) | refine h_bne (fun _ => ?_) (fun _ => ?_) | refine h_tt ?_ | refine h_ff ?_ | refine h_not ?_ | refine h_ite (fun _ => ?_) (fun _ => ?_) | refine h_both (fun _ => ?_) (fun _ => ?_) | refine h_ret ?_ | refine h_at ?_))
      all_goals first | omega | exact ⟨by omega, by omega⟩ | exact skip (by assumption) | exact keep (by assumption) | exact skip (t1 _ (by assumption)) | exact keep (t0 _ (by assumption))
  have none_ : (∀ x ∈ cs, (pDr l) x = false) → Safe P 83 X (Ends [tSr] ((ck, nx, ps, is, delF (pDr l) cs, ws, ()), ())) (cDrV ck nx ps is cs ws cs) := by
    intro h
    refine vec_cut_safe (t := 9) (id := 2) rfl rfl (c' := .typ cC cs) ?_ ?_
    · show Con.typ cC ((List.take (0 + cs.length) cs).drop 0) = _
      rw [List.drop_zero, Nat.zero_add, List.take_length]
    · exact fin _ (delF_all h).symm
  have loop1 : ∀ (n i : Nat), i + n = cs.length → (∀ k (hk : k < i) (h2 : k < cs.length), (pDr l) cs[k] = false) → Safe P 83 X (Ends [tSr] ((ck, nx, ps, is, delF (pDr l) cs, ws, ()), ())) (cDr1 ck nx ps is cs ws l cs (i : Int)) := by
    intro n
    induction n with
    | zero =>
      intro i hi hb
      refine go hz hX tabDr_ok Try.func83 (loopDr1 ck nx ps is cs ws l cs i) ⟨fun h => absurd (of_decide_eq_true h) (by omega), fun _ => ?_⟩
      refine none_ fun x hx => ?_
      obtain ⟨k, hk, rfl⟩ := List.mem_iff_getElem.1 hx
      exact hb k (by omega) hk
    | succ n ih =>
      intro i hi hb
      have hlt : i < cs.length := by omega
      refine go hz hX tabDr_ok Try.func83 (loopDr1 ck nx ps is cs ws l cs i) ?_
      rw [el_lt hlt]
      have next := fun h : (pDr l) cs[i] = false => ih (i + 1) (by omega) fun k h1 h2 => by
        by_cases e : k = i
        · subst e; exact h
        · exact hb k (by omega) h2
      have hit := fun h : (pDr l) cs[i] = true => loop2 (cs.length - (i + 1)) cs i (i + 1) (by omega) (DInv.start hlt h fun k hk => hb k hk (by omega))
      repeat' (with_reducible (first | refine h_eq ?_ | refine h_need ?_ ?_ | refine h_dec (fun _ => ?_) (fun _ => ?_) | refine h_beq (fun _ => ?_) (fun _ => ?_) | refine h_bne (fun _ => ?_) (fun _ => ?_) | refine h_tt ?_ | refine h_ff ?_ | refine h_not ?_ | refine h_ite (fun _ => ?_) (fun _ => ?_) | refine h_both (fun _ => ?_) (fun _ => ?_) | refine h_ret ?_ | refine h_at ?_))
      all_goals first | omega | exact ⟨by omega, by omega⟩ | exact next (by assumption) | exact hit (by assumption) | exact hit (t1 _ (by assumption)) | exact next (t0 _ (by assumption))
  have mid : Safe P 83 X (Ends [tSr] ((ck, nx, ps, is, delF (pDr l) cs, ws, ()), ())) (cDr ck nx ps is cs ws l cs) := go hz hX tabDr_ok Try.func83 (midDr ck nx ps is cs ws l cs) (loop1 cs.length 0 (by omega) fun k hk => absurd hk (Nat.not_lt_zero _))
  refine go hz hX tabDr_ok Try.func83 (trDr ck nx ps is cs ws l) ⟨fun h => ?_, fun _ => ⟨by omega, mid⟩⟩
  have h := List.eq_nil_of_length_eq_zero h
  have e : cDr ck nx ps is cs ws l [] = cDr ck nx ps is cs ws l cs := by rw [h]
  rw [← e] at mid
  exact mid

theorem unw_ok {Z : Glob} : FnS P Z 63 sUw := by
  refine fnS_of_safe Try.func63 (by kernel_rfl) (fun x => Nat.le_of_ble_eq_true (by kernel_rfl)) ?_
  rintro ⟨(ck : Int), (nx : Int), (ps : Ps), (is : Is), (cs : Cs), (ws : Ws), (m : Mp)⟩ ⟨(hl : ws.length ≤ 1000000), _⟩ X hX hz
  have hns : ∀ x ∈ nsUw, (sUw.heap (ck, nx, ps, is, cs, ws, m)).length ≤ x.2.m := by intro y hy; simp [nsUw] at hy; rcases hy with rfl | rfl | rfl | rfl <;> exact Nat.le_refl _
  have t1 : ∀ x : CL cW, (mget m (wT x)).getD (CK.int IntKind.i64).d > 0 → pUw m x = true := fun _ h => decide_eq_true h
  have t0 : ∀ x : CL cW, ¬ (mget m (wT x)).getD (CK.int IntKind.i64).d > 0 → pUw m x = false := fun _ h => decide_eq_false h

  have fin : ∀ r : List (CL cW), r = delF (pUw m) ws → Safe P 63 X (EndS sUw (ck, nx, ps, is, cs, ws, m)) (cUwE ck nx ps is cs ws m r) := by
    intro r hr
    subst hr
    exact goS hz hX hns Tab.Ok.nil Try.func63 (endUw ck nx ps is cs ws m (delF (pUw m) ws)) (endS 1 (by kernel_rfl) (Nat.le_refl _) rfl rfl)
  have loop2 : ∀ (n : Nat) (r : List (CL cW)) (i j : Nat), j + n = ws.length → DInv (pUw m) ws r i j → Safe P 63 X (EndS sUw (ck, nx, ps, is, cs, ws, m)) (cUw2 ck nx ps is cs ws m r (i : Int) (j : Int)) := by
    intro n
    induction n with
    | zero =>
      intro r i j hj h
      have hlen := h.len
      have hij := h.ij
      refine goS hz hX hns Tab.Ok.nil Try.func63 (loopUw2 ck nx ps is cs ws m r i j) ⟨fun h => absurd (of_decide_eq_true h) (by omega), fun _ => ?_⟩
      rw [Int.toNat_natCast, Int.toNat_natCast]
      refine ⟨by omega, by omega, by omega, by omega, by omega, ?_, ?_⟩
      · rw [over_length _ _ (by omega) (by simp)]; omega
      · refine cut_safe (t := 9) (id := 3) rfl rfl ?_
        have e2 : conSub (.typ cW (over r (0 + i) (r.length - i) (List.replicate (r.length - i) (CL.d cW)))) 0 (0 + (i - Int.toNat 0)) = .typ cW (delF (pUw m) ws) := by
          show Con.typ cW ((List.take (0 + (i - 0)) (over r (0 + i) (r.length - i) (List.replicate (r.length - i) (CL.d cW)))).drop 0) = _
          rw [List.drop_zero, Nat.zero_add, Nat.sub_zero, Nat.zero_add]
          unfold over
          rw [List.append_assoc, List.take_append_of_le_length (by rw [List.length_take]; omega), List.take_take, Nat.min_self, h.fin (by omega)]
        rw [e2]
        exact fin _ rfl
    | succ n ih =>
      intro r i j hj h
      have hlen := h.len
      have hij := h.ij
      have hlt : j < ws.length := by omega
      refine goS hz hX hns Tab.Ok.nil Try.func63 (loopUw2 ck nx ps is cs ws m r i j) ?_
      rw [el_lt (show j < r.length by omega), h.at hlt]
      have skip := fun hp => ih r i (j + 1) (by omega) (h.skip hlt hp)
      have keep := fun hp => ih (r.set i ws[j]) (i + 1) (j + 1) (by omega) (h.keep hlt hp)
      repeat' (with_reducible (first | refine h_eq ?_ | refine h_need ?_ ?_ | refine h_dec (fun _ => ?_) (fun _ => ?_) | refine h_beq (fun _ => ?_) (fun _ => ?_) | refine h_bne (fun _ => ?_) (fun _ => ?_) | refine h_tt ?_ | refine h_ff ?_ | refine h_not ?_ | refine h_ite (fun _ => ?_) (fun _ => ?_) | refine h_both (fun _ => ?_) (fun _ => ?_) | refine h_ret ?_ | refine h_at ?_))
      all_goals first | omega | exact ⟨by omega, by omega⟩ | exact skip (by assumption) | exact keep (by assumption) | exact skip (t1 _ (by assumption)) | exact keep (t0 _ (by assumption))
  have none_ : (∀ x ∈ ws, (pUw m) x = false) → Safe P 63 X (EndS sUw (ck, nx, ps, is, cs, ws, m)) (cUwV ck nx ps is cs ws m ws) := by
    intro h
    refine vec_cut_safe (t := 9) (id := 3) rfl rfl (c' := .typ cW ws) ?_ ?_
    · show Con.typ cW ((List.take (0 + ws.length) ws).drop 0) = _
      rw [List.drop_zero, Nat.zero_add, List.take_length]
    · exact fin _ (delF_all h).symm
  have loop1 : ∀ (n i : Nat), i + n = ws.length → (∀ k (hk : k < i) (h2 : k < ws.length), (pUw m) ws[k] = false) → Safe P 63 X (EndS sUw (ck, nx, ps, is, cs, ws, m)) (cUw1 ck nx ps is cs ws m ws (i : Int)) := by
    intro n
    induction n with
    | zero =>
      intro i hi hb
      refine goS hz hX hns Tab.Ok.nil Try.func63 (loopUw1 ck nx ps is cs ws m ws i) ⟨fun h => absurd (of_decide_eq_true h) (by omega), fun _ => ?_⟩
      refine none_ fun x hx => ?_
      obtain ⟨k, hk, rfl⟩ := List.mem_iff_getElem.1 hx
      exact hb k (by omega) hk
    | succ n ih =>
      intro i hi hb
      have hlt : i < ws.length := by omega
      refine goS hz hX hns Tab.Ok.nil Try.func63 (loopUw1 ck nx ps is cs ws m ws i) ?_
      rw [el_lt hlt]
      have next := fun h : (pUw m) ws[i] = false => ih (i + 1) (by omega) fun k h1 h2 => by
        by_cases e : k = i
        · subst e; exact h
        · exact hb k (by omega) h2
      have hit := fun h : (pUw m) ws[i] = true => loop2 (ws.length - (i + 1)) ws i (i + 1) (by omega) (DInv.start hlt h fun k hk => hb k hk (by omega))
      repeat' (with_reducible (first | refine h_eq ?_ | refine h_need ?_ ?_ | refine h_dec (fun _ => ?_) (fun _ => ?_) | refine h_beq (fun _ => ?_) (fun _ => ?_) | refine h_bne (fun _ => ?_) (fun _ => ?_) | refine h_tt ?_ | refine h_ff ?_ | refine h_not ?_ | refine h_ite (fun _ => ?_) (fun _ => ?_) | refine h_both (fun _ => ?_) (fun _ => ?_) | refine h_ret ?_ | refine h_at ?_))
      all_goals first | omega | exact ⟨by omega, by omega⟩ | exact next (by assumption) | exact hit (by assumption) | exact hit (t1 _ (by assumption)) | exact next (t0 _ (by assumption))
  have mid : Safe P 63 X (EndS sUw (ck, nx, ps, is, cs, ws, m)) (cUw ck nx ps is cs ws m ws) := goS hz hX hns Tab.Ok.nil Try.func63 (midUw ck nx ps is cs ws m ws) (loop1 ws.length 0 (by omega) fun k hk => absurd hk (Nat.not_lt_zero _))
  refine goS hz hX hns Tab.Ok.nil Try.func63 (trUw ck nx ps is cs ws m) ⟨fun h => ?_, fun _ => ⟨by omega, mid⟩⟩
  have h := List.eq_nil_of_length_eq_zero h
  have e : cUw ck nx ps is cs ws m [] = cUw ck nx ps is cs ws m ws := by rw [h]
  rw [← e] at mid
  exact mid

end Ds

namespace Ds
open Go Go.Sx Go.Proofs Lf
/-! without -/
def mUw : List AV → RM ((Int × Int × Ps × Is × Cs × Ws × Mp) × List Nat)
  | [.agg [ck, nx, ps, is, cs, ws], .mapv id] => .look id fun o => match o, avInt .i64 ck, avInt .i64 nx, avRow (.typ cP) ps, avRow (.typ cI) is, avRow (.typ cC) cs, avRow (.typ cW) ws with
    | some (.map (.int .i64) m), some ck, some nx, some ps, some is, some cs, some ws => .ret ((ck, nx, ps, is, cs, ws, m), [id])
    | _, _, _, _, _, _, _ => .fail "no state"
  | _ => .fail "no state"
abbrev sumUw := sumS sUw mUw
abbrev sumDr := sumR [tSt, tNs] [tSr] (fun ((_, _, _, _, cs, _, ()), _, ()) => [(cs : Cs).length ≤ 1000000]) (fun ((ck, nx, ps, is, cs, ws, ()), l, ()) => ((ck, nx, ps, is, delF (pDr l) (cs : Cs), ws, ()), ()))
def tabWo : Tab := [(83, sumDr), (63, sumUw)]
abbrev fIi : FuncId := 75
abbrev fDi : FuncId := 84
abbrev fWo : FuncId := 85
abbrev inWo : List FuncId := [51, fIi, fDi, fWo]
def nsWo : List (Nat × Norm) := [(3, ⟨[], [1, 2, 4, 5, 9, 10, 11], 0, []⟩), (midKey + 8003, ⟨[(25, .typ cI [], eI)], [2, 4, 5, 25], 0, []⟩), ((fIi + 1) * 100000 + 2, ⟨[], [0, 1, 7, 8, 19, 20, 63, 65, 66], 0, []⟩), ((fDi + 1) * 100000 + 5, ⟨[], [0, 1, 5, 6, 44, 46, 47], 0, []⟩), (midKey + 8005, ⟨[], [2, 4, 5, 27], 0, []⟩)]
theorem trWo (ck nx : Int) (ps : Ps) (is : Is) (cs : Cs) (ws : Ws) (l : List Int) : run P tabWo.sum Try.f57 nsWo (start Try.f57 [avSt ck nx ps is cs ws, avL l] []) inWo =
  Tree.at (Cfg.mk (sl (32 : Nat) [((1 : Nat), AV.s (SV.ro (Con.ints IntKind.i64 l))), ((2 : Nat), AV.ptr (0 : Nat) (0 : Nat)), ((4 : Nat), AV.ptr (1 : Nat) (0 : Nat)), ((5 : Nat), AV.ptr (2 : Nat) (0 : Nat)), ((9 : Nat), AV.s (SV.ro (Con.ints IntKind.i64 l))), ((10 : Nat), AV.s (SV.int IntKind.i64 (↑l.length : Int))), ((11 : Nat), AV.s (SV.int IntKind.i64 (0 : Int)))]) [AObj.own [AV.s (SV.int IntKind.i64 ck), AV.s (SV.int IntKind.i64 nx), AV.s (SV.ro (Con.typ [CK.str, CK.rows [CK.str, CK.int IntKind.u8, CK.int IntKind.i64, CK.str], CK.rows [CK.str, CK.int IntKind.u8, CK.int IntKind.i64, CK.int IntKind.i64, CK.int IntKind.u8, CK.str, CK.str, CK.str, CK.bool, CK.rows [CK.str, CK.int IntKind.u8, CK.int IntKind.i64, CK.str], CK.strs], CK.rows [CK.int IntKind.i64, CK.int IntKind.i64, CK.str, CK.bool]] ps)), AV.s (SV.ro (Con.typ cI is)), AV.s (SV.ro (Con.typ cC cs)), AV.s (SV.ro (Con.typ cW ws))] (27 : Nat), AObj.own [AV.s (SV.int IntKind.i64 (0 : Int)), AV.s (SV.int IntKind.i64 (0 : Int)), AV.emp, AV.emp, AV.emp, AV.emp] (27 : Nat), AObj.own [AV.mapv (3 : Nat)] (97 : Nat), AObj.map (CK.int IntKind.i64) []] (hd Try.f57 (3 : Nat)) (Stk.mk none false (0 : Nat) [] (0 : Nat))) := by kernel_rfl
noncomputable def cWo0 (ck nx : Int) (ps : Ps) (is : Is) (cs : Cs) (ws : Ws) (l : List Int) (m : Mp) (i : Int) : Cfg := ⟨sl 32 [(1, avL l), (2, .ptr 0 0), (4, .ptr 1 0), (5, .ptr 2 0), (9, avL l), (10, avI (l.length : Int)), (11, avI i)], [obSt ck nx ps is cs ws, obZ, .own [.mapv 3] 97, .map kM m], hd Try.f57 3, {}⟩
theorem loopWo0 (ck nx : Int) (ps : Ps) (is : Is) (cs : Cs) (ws : Ws) (l : List Int) (m : Mp) (i : Int) : run P tabWo.sum Try.f57 nsWo (cWo0 ck nx ps is cs ws l m i) inWo =
  Tree.ite (decide (i < (↑l.length : Int))) (Tree.need ((0 : Int) ≤ i) (Tree.need (i < (↑l.length : Int)) (Tree.need (inI64 ((mget m (l.getD i.toNat (0 : Int))).getD (CK.int IntKind.i64).d + (1 : Int))) (Tree.need (inI64 (i + (1 : Int))) (Tree.at (Cfg.mk (sl (32 : Nat) [((1 : Nat), AV.s (SV.ro (Con.ints IntKind.i64 l))), ((2 : Nat), AV.ptr (0 : Nat) (0 : Nat)), ((4 : Nat), AV.ptr (1 : Nat) (0 : Nat)), ((5 : Nat), AV.ptr (2 : Nat) (0 : Nat)), ((9 : Nat), AV.s (SV.ro (Con.ints IntKind.i64 l))), ((10 : Nat), AV.s (SV.int IntKind.i64 (↑l.length : Int))), ((11 : Nat), AV.s (SV.int IntKind.i64 (i + (1 : Int))))]) [AObj.own [AV.s (SV.int IntKind.i64 ck), AV.s (SV.int IntKind.i64 nx), AV.s (SV.ro (Con.typ [CK.str, CK.rows [CK.str, CK.int IntKind.u8, CK.int IntKind.i64, CK.str], CK.rows [CK.str, CK.int IntKind.u8, CK.int IntKind.i64, CK.int IntKind.i64, CK.int IntKind.u8, CK.str, CK.str, CK.str, CK.bool, CK.rows [CK.str, CK.int IntKind.u8, CK.int IntKind.i64, CK.str], CK.strs], CK.rows [CK.int IntKind.i64, CK.int IntKind.i64, CK.str, CK.bool]] ps)), AV.s (SV.ro (Con.typ cI is)), AV.s (SV.ro (Con.typ cC cs)), AV.s (SV.ro (Con.typ cW ws))] (27 : Nat), AObj.own [AV.s (SV.int IntKind.i64 (0 : Int)), AV.s (SV.int IntKind.i64 (0 : Int)), AV.emp, AV.emp, AV.emp, AV.emp] (27 : Nat), AObj.own [AV.mapv (3 : Nat)] (97 : Nat), AObj.map (CK.int IntKind.i64) (mput m (l.getD i.toNat (0 : Int)) ((mget m (l.getD i.toNat (0 : Int))).getD (CK.int IntKind.i64).d + (1 : Int)))] (hd Try.f57 (3 : Nat)) (Stk.mk none false (0 : Nat) [] (0 : Nat)))))))) (Tree.need (List.length cs ≤ (1000000 : Nat)) (Tree.both (List.length is = (0 : Nat)) True (Tree.at (Cfg.mk (sl (32 : Nat) [((2 : Nat), AV.ptr (0 : Nat) (0 : Nat)), ((4 : Nat), AV.ptr (1 : Nat) (0 : Nat)), ((5 : Nat), AV.ptr (2 : Nat) (0 : Nat)), ((25 : Nat), AV.vec (3 : Nat))]) [AObj.own [AV.s (SV.int IntKind.i64 ck), AV.s (SV.int IntKind.i64 nx), AV.s (SV.ro (Con.typ [CK.str, CK.rows [CK.str, CK.int IntKind.u8, CK.int IntKind.i64, CK.str], CK.rows [CK.str, CK.int IntKind.u8, CK.int IntKind.i64, CK.int IntKind.i64, CK.int IntKind.u8, CK.str, CK.str, CK.str, CK.bool, CK.rows [CK.str, CK.int IntKind.u8, CK.int IntKind.i64, CK.str], CK.strs], CK.rows [CK.int IntKind.i64, CK.int IntKind.i64, CK.str, CK.bool]] ps)), AV.s (SV.ro (Con.typ cI is)), AV.s (SV.ro (Con.typ cC (delF (pDr l) cs))), AV.s (SV.ro (Con.typ cW ws))] (27 : Nat), AObj.own [AV.s (SV.int IntKind.i64 (0 : Int)), AV.s (SV.int IntKind.i64 (0 : Int)), AV.emp, AV.emp, AV.emp, AV.emp] (27 : Nat), AObj.own [AV.mapv (4 : Nat)] (97 : Nat), AObj.vec (Con.typ cI []) (43 : Nat), AObj.map (CK.int IntKind.i64) m] (cal Try.f57 (8 : Nat) (3 : Nat)) (Stk.mk none false (0 : Nat) [] (8 : Nat)))) (Tree.need (((0 : Nat) + List.length is) * (80 : Nat) ≤ (140737488355328 : Nat)) (Tree.at (Cfg.mk (sl (32 : Nat) [((2 : Nat), AV.ptr (0 : Nat) (0 : Nat)), ((4 : Nat), AV.ptr (1 : Nat) (0 : Nat)), ((5 : Nat), AV.ptr (2 : Nat) (0 : Nat)), ((25 : Nat), AV.vec (3 : Nat))]) [AObj.own [AV.s (SV.int IntKind.i64 ck), AV.s (SV.int IntKind.i64 nx), AV.s (SV.ro (Con.typ [CK.str, CK.rows [CK.str, CK.int IntKind.u8, CK.int IntKind.i64, CK.str], CK.rows [CK.str, CK.int IntKind.u8, CK.int IntKind.i64, CK.int IntKind.i64, CK.int IntKind.u8, CK.str, CK.str, CK.str, CK.bool, CK.rows [CK.str, CK.int IntKind.u8, CK.int IntKind.i64, CK.str], CK.strs], CK.rows [CK.int IntKind.i64, CK.int IntKind.i64, CK.str, CK.bool]] ps)), AV.s (SV.ro (Con.typ cI is)), AV.s (SV.ro (Con.typ cC (delF (pDr l) cs))), AV.s (SV.ro (Con.typ cW ws))] (27 : Nat), AObj.own [AV.s (SV.int IntKind.i64 (0 : Int)), AV.s (SV.int IntKind.i64 (0 : Int)), AV.emp, AV.emp, AV.emp, AV.emp] (27 : Nat), AObj.own [AV.mapv (4 : Nat)] (97 : Nat), AObj.vec (Con.typ cI ([] ++ is)) (43 : Nat), AObj.map (CK.int IntKind.i64) m] (cal Try.f57 (8 : Nat) (3 : Nat)) (Stk.mk none false (0 : Nat) [] (8 : Nat))))))) := by kernel_rfl
noncomputable def cWo (ck nx : Int) (ps : Ps) (is : Is) (cs : Cs) (ws : Ws) (m : Mp) (r : Is) : Cfg := ⟨sl 32 [(2, .ptr 0 0), (4, .ptr 1 0), (5, .ptr 2 0), (25, .vec 3)], [obSt ck nx ps is cs ws, obZ, .own [.mapv 4] 97, .vec (.typ cI r) eI, .map kM m], cal Try.f57 8 3, kk 8⟩
theorem midWo (ck nx : Int) (ps : Ps) (is : Is) (cs : Cs) (ws : Ws) (m : Mp) (r : Is) : run P tabWo.sum Try.f57 nsWo (cWo ck nx ps is cs ws m r) inWo =
  Tree.at (Cfg.mk (sl (93 : Nat) [((0 : Nat), AV.vec (0 : Nat)), ((1 : Nat), AV.fn (85 : Nat) [AV.ptr (1 : Nat) (0 : Nat)]), ((7 : Nat), AV.s (SV.int IntKind.i64 (↑(List.length r) : Int))), ((8 : Nat), AV.s (SV.int IntKind.i64 (0 : Int))), ((19 : Nat), AV.vec (0 : Nat)), ((20 : Nat), AV.fn (85 : Nat) [AV.ptr (1 : Nat) (0 : Nat)]), ((63 : Nat), AV.ptr (2 : Nat) (0 : Nat)), ((65 : Nat), AV.ptr (3 : Nat) (0 : Nat)), ((66 : Nat), AV.ptr (1 : Nat) (0 : Nat))]) [AObj.vec (Con.typ cI r) (43 : Nat), AObj.own [AV.mapv (4 : Nat)] (97 : Nat), AObj.own [AV.s (SV.int IntKind.i64 ck), AV.s (SV.int IntKind.i64 nx), AV.s (SV.ro (Con.typ [CK.str, CK.rows [CK.str, CK.int IntKind.u8, CK.int IntKind.i64, CK.str], CK.rows [CK.str, CK.int IntKind.u8, CK.int IntKind.i64, CK.int IntKind.i64, CK.int IntKind.u8, CK.str, CK.str, CK.str, CK.bool, CK.rows [CK.str, CK.int IntKind.u8, CK.int IntKind.i64, CK.str], CK.strs], CK.rows [CK.int IntKind.i64, CK.int IntKind.i64, CK.str, CK.bool]] ps)), AV.s (SV.ro (Con.typ cI is)), AV.s (SV.ro (Con.typ cC cs)), AV.s (SV.ro (Con.typ cW ws))] (27 : Nat), AObj.own [AV.s (SV.int IntKind.i64 (0 : Int)), AV.s (SV.int IntKind.i64 (0 : Int)), AV.emp, AV.emp, AV.emp, AV.emp] (27 : Nat), AObj.map (CK.int IntKind.i64) m] (hd Try.f75 (2 : Nat)) (Stk.mk (some (75 : Nat)) false (0 : Nat) [inCall Try.f84 (some (84 : Nat)) (1 : Nat) (2 : Nat) false (0 : Nat), inCall Try.f57 none (8 : Nat) (4 : Nat) false (0 : Nat)] (0 : Nat))) := by kernel_rfl
noncomputable def cWo1 (ck nx : Int) (ps : Ps) (is : Is) (cs : Cs) (ws : Ws) (m : Mp) (r : Is) (i : Int) : Cfg := ⟨sl 93 [(0, .vec 0), (1, .fn fWo [.ptr 1 0]), (7, avI (r.length : Int)), (8, avI i), (19, .vec 0), (20, .fn fWo [.ptr 1 0]), (63, .ptr 2 0), (65, .ptr 3 0), (66, .ptr 1 0)], [.vec (.typ cI r) eI, .own [.mapv 4] 97, obSt ck nx ps is cs ws, obZ, .map kM m], hd Try.f75 2, ⟨some fIi, false, 0, [inCall Try.f84 (some fDi) 1 2 false 0, inCall Try.f57 none 8 4 false 0], 0⟩⟩
theorem loopWo1 (ck nx : Int) (ps : Ps) (is : Is) (cs : Cs) (ws : Ws) (m : Mp) (r : Is) (i : Int) : run P tabWo.sum Try.f57 nsWo (cWo1 ck nx ps is cs ws m r i) inWo =
  Tree.ite (decide (i < (↑(List.length r) : Int)))
  (Tree.need ((0 : Int) ≤ i)
    (Tree.need (i < (↑(List.length r) : Int))
      (Tree.ite (decide ((mget m (iI (el r i))).getD (CK.int IntKind.i64).d > (0 : Int))) (Tree.ite (i == (-1 : Int)) (Tree.at (Cfg.mk (sl (32 : Nat) [((2 : Nat), AV.ptr (0 : Nat) (0 : Nat)), ((4 : Nat), AV.ptr (1 : Nat) (0 : Nat)), ((5 : Nat), AV.ptr (2 : Nat) (0 : Nat)), ((27 : Nat), AV.vec (3 : Nat))]) [AObj.own [AV.s (SV.int IntKind.i64 ck), AV.s (SV.int IntKind.i64 nx), AV.s (SV.ro (Con.typ [CK.str, CK.rows [CK.str, CK.int IntKind.u8, CK.int IntKind.i64, CK.str], CK.rows [CK.str, CK.int IntKind.u8, CK.int IntKind.i64, CK.int IntKind.i64, CK.int IntKind.u8, CK.str, CK.str, CK.str, CK.bool, CK.rows [CK.str, CK.int IntKind.u8, CK.int IntKind.i64, CK.str], CK.strs], CK.rows [CK.int IntKind.i64, CK.int IntKind.i64, CK.str, CK.bool]] ps)), AV.s (SV.ro (Con.typ cI is)), AV.s (SV.ro (Con.typ cC cs)), AV.s (SV.ro (Con.typ cW ws))] (27 : Nat), AObj.own [AV.s (SV.int IntKind.i64 (0 : Int)), AV.s (SV.int IntKind.i64 (0 : Int)), AV.emp, AV.emp, AV.emp, AV.emp] (27 : Nat), AObj.own [AV.mapv (4 : Nat)] (97 : Nat), AObj.vec (Con.typ cI r) (43 : Nat), AObj.map (CK.int IntKind.i64) m] (cal Try.f57 (8 : Nat) (5 : Nat)) (Stk.mk none false (0 : Nat) [] (8 : Nat)))) (Tree.need (inI64 (i + (1 : Int))) (Tree.at (Cfg.mk (sl (74 : Nat) [((0 : Nat), AV.vec (0 : Nat)), ((1 : Nat), AV.fn (85 : Nat) [AV.ptr (1 : Nat) (0 : Nat)]), ((5 : Nat), AV.s (SV.int IntKind.i64 i)), ((6 : Nat), AV.s (SV.int IntKind.i64 (i + (1 : Int)))), ((44 : Nat), AV.ptr (2 : Nat) (0 : Nat)), ((46 : Nat), AV.ptr (3 : Nat) (0 : Nat)), ((47 : Nat), AV.ptr (1 : Nat) (0 : Nat))]) [AObj.vec (Con.typ cI r) (43 : Nat), AObj.own [AV.mapv (4 : Nat)] (97 : Nat), AObj.own [AV.s (SV.int IntKind.i64 ck), AV.s (SV.int IntKind.i64 nx), AV.s (SV.ro (Con.typ [CK.str, CK.rows [CK.str, CK.int IntKind.u8, CK.int IntKind.i64, CK.str], CK.rows [CK.str, CK.int IntKind.u8, CK.int IntKind.i64, CK.int IntKind.i64, CK.int IntKind.u8, CK.str, CK.str, CK.str, CK.bool, CK.rows [CK.str, CK.int IntKind.u8, CK.int IntKind.i64, CK.str], CK.strs], CK.rows [CK.int IntKind.i64, CK.int IntKind.i64, CK.str, CK.bool]] ps)), AV.s (SV.ro (Con.typ cI is)), AV.s (SV.ro (Con.typ cC cs)), AV.s (SV.ro (Con.typ cW ws))] (27 : Nat), AObj.own [AV.s (SV.int IntKind.i64 (0 : Int)), AV.s (SV.int IntKind.i64 (0 : Int)), AV.emp, AV.emp, AV.emp, AV.emp] (27 : Nat), AObj.map (CK.int IntKind.i64) m] (hd Try.f84 (5 : Nat)) (Stk.mk (some (84 : Nat)) false (0 : Nat) [inCall Try.f57 none (8 : Nat) (4 : Nat) false (0 : Nat)] (0 : Nat)))))) (Tree.need (inI64 (i + (1 : Int))) (Tree.at (Cfg.mk (sl (93 : Nat) [((0 : Nat), AV.vec (0 : Nat)), ((1 : Nat), AV.fn (85 : Nat) [AV.ptr (1 : Nat) (0 : Nat)]), ((7 : Nat), AV.s (SV.int IntKind.i64 (↑(List.length r) : Int))), ((8 : Nat), AV.s (SV.int IntKind.i64 (i + (1 : Int)))), ((19 : Nat), AV.vec (0 : Nat)), ((20 : Nat), AV.fn (85 : Nat) [AV.ptr (1 : Nat) (0 : Nat)]), ((63 : Nat), AV.ptr (2 : Nat) (0 : Nat)), ((65 : Nat), AV.ptr (3 : Nat) (0 : Nat)), ((66 : Nat), AV.ptr (1 : Nat) (0 : Nat))]) [AObj.vec (Con.typ cI r) (43 : Nat), AObj.own [AV.mapv (4 : Nat)] (97 : Nat), AObj.own [AV.s (SV.int IntKind.i64 ck), AV.s (SV.int IntKind.i64 nx), AV.s (SV.ro (Con.typ [CK.str, CK.rows [CK.str, CK.int IntKind.u8, CK.int IntKind.i64, CK.str], CK.rows [CK.str, CK.int IntKind.u8, CK.int IntKind.i64, CK.int IntKind.i64, CK.int IntKind.u8, CK.str, CK.str, CK.str, CK.bool, CK.rows [CK.str, CK.int IntKind.u8, CK.int IntKind.i64, CK.str], CK.strs], CK.rows [CK.int IntKind.i64, CK.int IntKind.i64, CK.str, CK.bool]] ps)), AV.s (SV.ro (Con.typ cI is)), AV.s (SV.ro (Con.typ cC cs)), AV.s (SV.ro (Con.typ cW ws))] (27 : Nat), AObj.own [AV.s (SV.int IntKind.i64 (0 : Int)), AV.s (SV.int IntKind.i64 (0 : Int)), AV.emp, AV.emp, AV.emp, AV.emp] (27 : Nat), AObj.map (CK.int IntKind.i64) m] (hd Try.f75 (2 : Nat)) (Stk.mk (some (75 : Nat)) false (0 : Nat) [inCall Try.f84 (some (84 : Nat)) (1 : Nat) (2 : Nat) false (0 : Nat), inCall Try.f57 none (8 : Nat) (4 : Nat) false (0 : Nat)] (0 : Nat))))))))
  (Tree.at (Cfg.mk (sl (32 : Nat) [((2 : Nat), AV.ptr (0 : Nat) (0 : Nat)), ((4 : Nat), AV.ptr (1 : Nat) (0 : Nat)), ((5 : Nat), AV.ptr (2 : Nat) (0 : Nat)), ((27 : Nat), AV.vec (3 : Nat))]) [AObj.own [AV.s (SV.int IntKind.i64 ck), AV.s (SV.int IntKind.i64 nx), AV.s (SV.ro (Con.typ [CK.str, CK.rows [CK.str, CK.int IntKind.u8, CK.int IntKind.i64, CK.str], CK.rows [CK.str, CK.int IntKind.u8, CK.int IntKind.i64, CK.int IntKind.i64, CK.int IntKind.u8, CK.str, CK.str, CK.str, CK.bool, CK.rows [CK.str, CK.int IntKind.u8, CK.int IntKind.i64, CK.str], CK.strs], CK.rows [CK.int IntKind.i64, CK.int IntKind.i64, CK.str, CK.bool]] ps)), AV.s (SV.ro (Con.typ cI is)), AV.s (SV.ro (Con.typ cC cs)), AV.s (SV.ro (Con.typ cW ws))] (27 : Nat), AObj.own [AV.s (SV.int IntKind.i64 (0 : Int)), AV.s (SV.int IntKind.i64 (0 : Int)), AV.emp, AV.emp, AV.emp, AV.emp] (27 : Nat), AObj.own [AV.mapv (4 : Nat)] (97 : Nat), AObj.vec (Con.typ cI r) (43 : Nat), AObj.map (CK.int IntKind.i64) m] (cal Try.f57 (8 : Nat) (5 : Nat)) (Stk.mk none false (0 : Nat) [] (8 : Nat)))) := by kernel_rfl
noncomputable def cWo2 (ck nx : Int) (ps : Ps) (is : Is) (cs : Cs) (ws : Ws) (m : Mp) (r : Is) (i j : Int) : Cfg := ⟨sl 74 [(0, .vec 0), (1, .fn fWo [.ptr 1 0]), (5, avI i), (6, avI j), (44, .ptr 2 0), (46, .ptr 3 0), (47, .ptr 1 0)], [.vec (.typ cI r) eI, .own [.mapv 4] 97, obSt ck nx ps is cs ws, obZ, .map kM m], hd Try.f84 5, ⟨some fDi, false, 0, [inCall Try.f57 none 8 4 false 0], 0⟩⟩
theorem loopWo2 (ck nx : Int) (ps : Ps) (is : Is) (cs : Cs) (ws : Ws) (m : Mp) (r : Is) (i j : Int) : run P tabWo.sum Try.f57 nsWo (cWo2 ck nx ps is cs ws m r i j) inWo =
  Tree.ite (decide (j < (↑(List.length r) : Int))) (Tree.need ((0 : Int) ≤ j) (Tree.need (j < (↑(List.length r) : Int)) (Tree.ite (!decide ((mget m (iI (el r j))).getD (CK.int IntKind.i64).d > (0 : Int))) (Tree.need ((0 : Int) ≤ i) (Tree.need (i < (↑(List.length r) : Int)) (Tree.need (inI64 (i + (1 : Int))) (Tree.need (inI64 (j + (1 : Int))) (Tree.at (Cfg.mk (sl (74 : Nat) [((0 : Nat), AV.vec (0 : Nat)), ((1 : Nat), AV.fn (85 : Nat) [AV.ptr (1 : Nat) (0 : Nat)]), ((5 : Nat), AV.s (SV.int IntKind.i64 (i + (1 : Int)))), ((6 : Nat), AV.s (SV.int IntKind.i64 (j + (1 : Int)))), ((44 : Nat), AV.ptr (2 : Nat) (0 : Nat)), ((46 : Nat), AV.ptr (3 : Nat) (0 : Nat)), ((47 : Nat), AV.ptr (1 : Nat) (0 : Nat))]) [AObj.vec (Con.typ cI (List.set r i.toNat (iI (el r j), iU (el r j), iS (el r j), iP (el r j), iN (el r j), iF (el r j), iW (el r j), iC (el r j), (el r i).snd.snd.snd.snd.snd.snd.snd.snd))) (43 : Nat), AObj.own [AV.mapv (4 : Nat)] (97 : Nat), AObj.own [AV.s (SV.int IntKind.i64 ck), AV.s (SV.int IntKind.i64 nx), AV.s (SV.ro (Con.typ [CK.str, CK.rows [CK.str, CK.int IntKind.u8, CK.int IntKind.i64, CK.str], CK.rows [CK.str, CK.int IntKind.u8, CK.int IntKind.i64, CK.int IntKind.i64, CK.int IntKind.u8, CK.str, CK.str, CK.str, CK.bool, CK.rows [CK.str, CK.int IntKind.u8, CK.int IntKind.i64, CK.str], CK.strs], CK.rows [CK.int IntKind.i64, CK.int IntKind.i64, CK.str, CK.bool]] ps)), AV.s (SV.ro (Con.typ cI is)), AV.s (SV.ro (Con.typ cC cs)), AV.s (SV.ro (Con.typ cW ws))] (27 : Nat), AObj.own [AV.s (SV.int IntKind.i64 (0 : Int)), AV.s (SV.int IntKind.i64 (0 : Int)), AV.emp, AV.emp, AV.emp, AV.emp] (27 : Nat), AObj.map (CK.int IntKind.i64) m] (hd Try.f84 (5 : Nat)) (Stk.mk (some (84 : Nat)) false (0 : Nat) [inCall Try.f57 none (8 : Nat) (4 : Nat) false (0 : Nat)] (0 : Nat)))))))) (Tree.need (inI64 (j + (1 : Int))) (Tree.at (Cfg.mk (sl (74 : Nat) [((0 : Nat), AV.vec (0 : Nat)), ((1 : Nat), AV.fn (85 : Nat) [AV.ptr (1 : Nat) (0 : Nat)]), ((5 : Nat), AV.s (SV.int IntKind.i64 i)), ((6 : Nat), AV.s (SV.int IntKind.i64 (j + (1 : Int)))), ((44 : Nat), AV.ptr (2 : Nat) (0 : Nat)), ((46 : Nat), AV.ptr (3 : Nat) (0 : Nat)), ((47 : Nat), AV.ptr (1 : Nat) (0 : Nat))]) [AObj.vec (Con.typ cI r) (43 : Nat), AObj.own [AV.mapv (4 : Nat)] (97 : Nat), AObj.own [AV.s (SV.int IntKind.i64 ck), AV.s (SV.int IntKind.i64 nx), AV.s (SV.ro (Con.typ [CK.str, CK.rows [CK.str, CK.int IntKind.u8, CK.int IntKind.i64, CK.str], CK.rows [CK.str, CK.int IntKind.u8, CK.int IntKind.i64, CK.int IntKind.i64, CK.int IntKind.u8, CK.str, CK.str, CK.str, CK.bool, CK.rows [CK.str, CK.int IntKind.u8, CK.int IntKind.i64, CK.str], CK.strs], CK.rows [CK.int IntKind.i64, CK.int IntKind.i64, CK.str, CK.bool]] ps)), AV.s (SV.ro (Con.typ cI is)), AV.s (SV.ro (Con.typ cC cs)), AV.s (SV.ro (Con.typ cW ws))] (27 : Nat), AObj.own [AV.s (SV.int IntKind.i64 (0 : Int)), AV.s (SV.int IntKind.i64 (0 : Int)), AV.emp, AV.emp, AV.emp, AV.emp] (27 : Nat), AObj.map (CK.int IntKind.i64) m] (hd Try.f84 (5 : Nat)) (Stk.mk (some (84 : Nat)) false (0 : Nat) [inCall Try.f57 none (8 : Nat) (4 : Nat) false (0 : Nat)] (0 : Nat))))))))
  (Tree.need ((0 : Int) ≤ i) (Tree.need (i ≤ (↑(List.length r) : Int)) (Tree.need ((↑(0 : Nat) : Int) + (↑(List.length r) : Int) ≤ (↑(List.length r) : Int)) (Tree.need ((0 : Int) ≤ (0 : Int)) (Tree.need ((0 : Int) ≤ i) (Tree.need ((↑(0 : Nat) : Int) + i ≤ (↑(over r ((0 : Nat) + i.toNat) ((↑(List.length r) : Int).toNat - i.toNat) (List.replicate ((↑(List.length r) : Int).toNat - i.toNat) (CL.d cI))).length : Int)) (Tree.at (Cfg.mk (sl (32 : Nat) [((2 : Nat), AV.ptr (0 : Nat) (0 : Nat)), ((4 : Nat), AV.ptr (1 : Nat) (0 : Nat)), ((5 : Nat), AV.ptr (2 : Nat) (0 : Nat)), ((27 : Nat), AV.part (3 : Nat) (0 : Nat) (i.toNat - Int.toNat (0 : Int)))]) [AObj.own [AV.s (SV.int IntKind.i64 ck), AV.s (SV.int IntKind.i64 nx), AV.s (SV.ro (Con.typ [CK.str, CK.rows [CK.str, CK.int IntKind.u8, CK.int IntKind.i64, CK.str], CK.rows [CK.str, CK.int IntKind.u8, CK.int IntKind.i64, CK.int IntKind.i64, CK.int IntKind.u8, CK.str, CK.str, CK.str, CK.bool, CK.rows [CK.str, CK.int IntKind.u8, CK.int IntKind.i64, CK.str], CK.strs], CK.rows [CK.int IntKind.i64, CK.int IntKind.i64, CK.str, CK.bool]] ps)), AV.s (SV.ro (Con.typ cI is)), AV.s (SV.ro (Con.typ cC cs)), AV.s (SV.ro (Con.typ cW ws))] (27 : Nat), AObj.own [AV.s (SV.int IntKind.i64 (0 : Int)), AV.s (SV.int IntKind.i64 (0 : Int)), AV.emp, AV.emp, AV.emp, AV.emp] (27 : Nat), AObj.own [AV.mapv (4 : Nat)] (97 : Nat), AObj.vec (Con.typ cI (over r ((0 : Nat) + i.toNat) ((↑(List.length r) : Int).toNat - i.toNat) (List.replicate ((↑(List.length r) : Int).toNat - i.toNat) (CL.d cI)))) (43 : Nat), AObj.map (CK.int IntKind.i64) m] (cal Try.f57 (8 : Nat) (5 : Nat)) (Stk.mk none false (0 : Nat) [] (8 : Nat)))))))))) := by kernel_rfl
noncomputable def cWoV (ck nx : Int) (ps : Ps) (is : Is) (cs : Cs) (ws : Ws) (m : Mp) (r : Is) : Cfg := ⟨sl 32 [(2, .ptr 0 0), (4, .ptr 1 0), (5, .ptr 2 0), (27, .vec 3)], [obSt ck nx ps is cs ws, obZ, .own [.mapv 4] 97, .vec (.typ cI r) eI, .map kM m], cal Try.f57 8 5, kk 8⟩
noncomputable def cWoE (ck nx : Int) (ps : Ps) (is : Is) (cs : Cs) (ws : Ws) (m : Mp) (r : Is) : Cfg := ⟨sl 32 [(2, .ptr 0 0), (4, .ptr 1 0), (5, .ptr 2 0), (27, .s (.ro (.typ cI r)))], [obSt ck nx ps is cs ws, obZ, .own [.mapv 4] 97, .dead, .map kM m, .dead], cal Try.f57 8 5, kk 8⟩
theorem endWo (ck nx : Int) (ps : Ps) (is : Is) (cs : Cs) (ws : Ws) (m : Mp) (r : Is) : run P tabWo.sum Try.f57 nsWo (cWoE ck nx ps is cs ws m r) inWo =
  Tree.need (Slf (some [AV.agg [AV.s (SV.int IntKind.i64 ck), AV.s (SV.int IntKind.i64 nx), AV.s (SV.ro (Con.typ [CK.str, CK.rows [CK.str, CK.int IntKind.u8, CK.int IntKind.i64, CK.str], CK.rows [CK.str, CK.int IntKind.u8, CK.int IntKind.i64, CK.int IntKind.i64, CK.int IntKind.u8, CK.str, CK.str, CK.str, CK.bool, CK.rows [CK.str, CK.int IntKind.u8, CK.int IntKind.i64, CK.str], CK.strs], CK.rows [CK.int IntKind.i64, CK.int IntKind.i64, CK.str, CK.bool]] ps)), AV.s (SV.ro (Con.typ cI r)), AV.s (SV.ro (Con.typ cC cs)), AV.s (SV.ro (Con.typ cW ws))], AV.mapv (0 : Nat)])) (Tree.need (Slf (some [AObj.map (CK.int IntKind.i64) m])) (Tree.need (List.length ws ≤ (1000000 : Nat)) (Tree.ret [AObj.own [AV.s (SV.int IntKind.i64 ck), AV.s (SV.int IntKind.i64 nx), AV.s (SV.ro (Con.typ [CK.str, CK.rows [CK.str, CK.int IntKind.u8, CK.int IntKind.i64, CK.str], CK.rows [CK.str, CK.int IntKind.u8, CK.int IntKind.i64, CK.int IntKind.i64, CK.int IntKind.u8, CK.str, CK.str, CK.str, CK.bool, CK.rows [CK.str, CK.int IntKind.u8, CK.int IntKind.i64, CK.str], CK.strs], CK.rows [CK.int IntKind.i64, CK.int IntKind.i64, CK.str, CK.bool]] ps)), AV.s (SV.ro (Con.typ cI r)), AV.s (SV.ro (Con.typ cC cs)), AV.s (SV.ro (Con.typ cW ws))] (27 : Nat), AObj.own [AV.s (SV.int IntKind.i64 ck), AV.s (SV.int IntKind.i64 nx), AV.s (SV.ro (Con.typ [CK.str, CK.rows [CK.str, CK.int IntKind.u8, CK.int IntKind.i64, CK.str], CK.rows [CK.str, CK.int IntKind.u8, CK.int IntKind.i64, CK.int IntKind.i64, CK.int IntKind.u8, CK.str, CK.str, CK.str, CK.bool, CK.rows [CK.str, CK.int IntKind.u8, CK.int IntKind.i64, CK.str], CK.strs], CK.rows [CK.int IntKind.i64, CK.int IntKind.i64, CK.str, CK.bool]] ps)), AV.s (SV.ro (Con.typ cI r)), AV.s (SV.ro (Con.typ cC cs)), AV.vec (6 : Nat)] (27 : Nat), AObj.own [AV.mapv (4 : Nat)] (97 : Nat), AObj.dead, AObj.map (CK.int IntKind.i64) m, AObj.dead, AObj.vec (Con.typ cW (delF (pUw m) ws)) (93 : Nat)] (AV.agg [AV.s (SV.int IntKind.i64 ck), AV.s (SV.int IntKind.i64 nx), AV.s (SV.ro (Con.typ [CK.str, CK.rows [CK.str, CK.int IntKind.u8, CK.int IntKind.i64, CK.str], CK.rows [CK.str, CK.int IntKind.u8, CK.int IntKind.i64, CK.int IntKind.i64, CK.int IntKind.u8, CK.str, CK.str, CK.str, CK.bool, CK.rows [CK.str, CK.int IntKind.u8, CK.int IntKind.i64, CK.str], CK.strs], CK.rows [CK.int IntKind.i64, CK.int IntKind.i64, CK.str, CK.bool]] ps)), AV.s (SV.ro (Con.typ cI r)), AV.s (SV.ro (Con.typ cC cs)), AV.vec (6 : Nat)])))) := by kernel_rfl
/-! Clear's deletion of a number -/
abbrev fIn : FuncId := 73
abbrev fCl : FuncId := 62
abbrev inDi : List FuncId := [fIn, fCl]
def nsDi : List (Nat × Norm) := [((fIn + 1) * 100000 + 2, ⟨[], [0, 1, 7, 8, 19, 20], 2, []⟩), (5, ⟨[], [0, 1, 5, 6], 2, []⟩), (midKey + 12003, ⟨[], [41], 2, []⟩), (midKey + 3001, ⟨[], [13], 2, []⟩)]
theorem trDi (l : List Int) (id : Int) : run P tab0.sum Try.f61 nsDi (start Try.f61 [.vec 0, .fn fCl [.ptr 1 0]] [.vec (.ints .i64 l) 3, .own [avI id] 3]) inDi =
  Tree.at (Cfg.mk (sl (61 : Nat) [((0 : Nat), AV.vec (0 : Nat)), ((1 : Nat), AV.fn (62 : Nat) [AV.ptr (1 : Nat) (0 : Nat)]), ((7 : Nat), AV.s (SV.int IntKind.i64 (↑l.length : Int))), ((8 : Nat), AV.s (SV.int IntKind.i64 (0 : Int))), ((19 : Nat), AV.vec (0 : Nat)), ((20 : Nat), AV.fn (62 : Nat) [AV.ptr (1 : Nat) (0 : Nat)])]) [AObj.vec (Con.ints IntKind.i64 l) (3 : Nat), AObj.own [AV.s (SV.int IntKind.i64 id)] (3 : Nat)] (hd Try.f73 (2 : Nat)) (Stk.mk (some (73 : Nat)) false (0 : Nat) [inCall Try.f61 none (1 : Nat) (2 : Nat) false (0 : Nat)] (0 : Nat))) := by kernel_rfl
noncomputable def cDi1 (id : Int) (r : List Int) (i : Int) : Cfg := ⟨sl 61 [(0, .vec 0), (1, .fn fCl [.ptr 1 0]), (7, avI (r.length : Int)), (8, avI i), (19, .vec 0), (20, .fn fCl [.ptr 1 0])], [.vec (.ints .i64 r) 3, .own [avI id] 3], hd Try.f73 2, ⟨some fIn, false, 0, [inCall Try.f61 none 1 2 false 0], 0⟩⟩
theorem loopDi1 (id : Int) (r : List Int) (i : Int) : run P tab0.sum Try.f61 nsDi (cDi1 id r i) inDi =
  Tree.ite (decide (i < (↑r.length : Int))) (Tree.need ((0 : Int) ≤ i) (Tree.need (i < (↑r.length : Int)) (Tree.ite (r.getD i.toNat (0 : Int) == id) (Tree.ite (i == (-1 : Int)) (Tree.at (Cfg.mk (sl (42 : Nat) [((13 : Nat), AV.vec (0 : Nat))]) [AObj.vec (Con.ints IntKind.i64 r) (3 : Nat), AObj.own [AV.s (SV.int IntKind.i64 id)] (3 : Nat)] (cal Try.f61 (3 : Nat) (1 : Nat)) (Stk.mk none false (0 : Nat) [] (3 : Nat)))) (Tree.need (inI64 (i + (1 : Int))) (Tree.at (Cfg.mk (sl (42 : Nat) [((0 : Nat), AV.vec (0 : Nat)), ((1 : Nat), AV.fn (62 : Nat) [AV.ptr (1 : Nat) (0 : Nat)]), ((5 : Nat), AV.s (SV.int IntKind.i64 i)), ((6 : Nat), AV.s (SV.int IntKind.i64 (i + (1 : Int))))]) [AObj.vec (Con.ints IntKind.i64 r) (3 : Nat), AObj.own [AV.s (SV.int IntKind.i64 id)] (3 : Nat)] (hd Try.f61 (5 : Nat)) (Stk.mk none false (0 : Nat) [] (0 : Nat)))))) (Tree.need (inI64 (i + (1 : Int))) (Tree.at (Cfg.mk (sl (61 : Nat) [((0 : Nat), AV.vec (0 : Nat)), ((1 : Nat), AV.fn (62 : Nat) [AV.ptr (1 : Nat) (0 : Nat)]), ((7 : Nat), AV.s (SV.int IntKind.i64 (↑r.length : Int))), ((8 : Nat), AV.s (SV.int IntKind.i64 (i + (1 : Int)))), ((19 : Nat), AV.vec (0 : Nat)), ((20 : Nat), AV.fn (62 : Nat) [AV.ptr (1 : Nat) (0 : Nat)])]) [AObj.vec (Con.ints IntKind.i64 r) (3 : Nat), AObj.own [AV.s (SV.int IntKind.i64 id)] (3 : Nat)] (hd Try.f73 (2 : Nat)) (Stk.mk (some (73 : Nat)) false (0 : Nat) [inCall Try.f61 none (1 : Nat) (2 : Nat) false (0 : Nat)] (0 : Nat)))))))) (Tree.at (Cfg.mk (sl (42 : Nat) [((13 : Nat), AV.vec (0 : Nat))]) [AObj.vec (Con.ints IntKind.i64 r) (3 : Nat), AObj.own [AV.s (SV.int IntKind.i64 id)] (3 : Nat)] (cal Try.f61 (3 : Nat) (1 : Nat)) (Stk.mk none false (0 : Nat) [] (3 : Nat)))) := by kernel_rfl
noncomputable def cDi2 (id : Int) (r : List Int) (i j : Int) : Cfg := ⟨sl 42 [(0, .vec 0), (1, .fn fCl [.ptr 1 0]), (5, avI i), (6, avI j)], [.vec (.ints .i64 r) 3, .own [avI id] 3], hd Try.f61 5, {}⟩
theorem loopDi2 (id : Int) (r : List Int) (i j : Int) : run P tab0.sum Try.f61 nsDi (cDi2 id r i j) inDi =
  Tree.ite (decide (j < (↑r.length : Int))) (Tree.need ((0 : Int) ≤ j) (Tree.need (j < (↑r.length : Int)) (Tree.ite (!r.getD j.toNat (0 : Int) == id) (Tree.need ((0 : Int) ≤ i) (Tree.need (i < (↑r.length : Int)) (Tree.need (inI64 (i + (1 : Int))) (Tree.need (inI64 (j + (1 : Int))) (Tree.at (Cfg.mk (sl (42 : Nat) [((0 : Nat), AV.vec (0 : Nat)), ((1 : Nat), AV.fn (62 : Nat) [AV.ptr (1 : Nat) (0 : Nat)]), ((5 : Nat), AV.s (SV.int IntKind.i64 (i + (1 : Int)))), ((6 : Nat), AV.s (SV.int IntKind.i64 (j + (1 : Int))))]) [AObj.vec (Con.ints IntKind.i64 (r.set i.toNat (r.getD j.toNat (0 : Int)))) (3 : Nat), AObj.own [AV.s (SV.int IntKind.i64 id)] (3 : Nat)] (hd Try.f61 (5 : Nat)) (Stk.mk none false (0 : Nat) [] (0 : Nat)))))))) (Tree.need (inI64 (j + (1 : Int))) (Tree.at (Cfg.mk (sl (42 : Nat) [((0 : Nat), AV.vec (0 : Nat)), ((1 : Nat), AV.fn (62 : Nat) [AV.ptr (1 : Nat) (0 : Nat)]), ((5 : Nat), AV.s (SV.int IntKind.i64 i)), ((6 : Nat), AV.s (SV.int IntKind.i64 (j + (1 : Int))))]) [AObj.vec (Con.ints IntKind.i64 r) (3 : Nat), AObj.own [AV.s (SV.int IntKind.i64 id)] (3 : Nat)] (hd Try.f61 (5 : Nat)) (Stk.mk none false (0 : Nat) [] (0 : Nat)))))))) (Tree.need ((0 : Int) ≤ i) (Tree.need (i ≤ (↑r.length : Int)) (Tree.need ((↑(0 : Nat) : Int) + (↑r.length : Int) ≤ (↑r.length : Int)) (Tree.need ((0 : Int) ≤ (0 : Int)) (Tree.need ((0 : Int) ≤ i) (Tree.need ((↑(0 : Nat) : Int) + i ≤ (↑(over r ((0 : Nat) + i.toNat) ((↑r.length : Int).toNat - i.toNat) (List.replicate ((↑r.length : Int).toNat - i.toNat) (0 : Int))).length : Int)) (Tree.at (Cfg.mk (sl (42 : Nat) [((41 : Nat), AV.part (0 : Nat) (0 : Nat) (i.toNat - Int.toNat (0 : Int)))]) [AObj.vec (Con.ints IntKind.i64 (over r ((0 : Nat) + i.toNat) ((↑r.length : Int).toNat - i.toNat) (List.replicate ((↑r.length : Int).toNat - i.toNat) (0 : Int)))) (3 : Nat), AObj.own [AV.s (SV.int IntKind.i64 id)] (3 : Nat)] (cal Try.f61 (12 : Nat) (3 : Nat)) (Stk.mk none false (0 : Nat) [] (12 : Nat)))))))))) := by kernel_rfl
noncomputable def cDiE (id : Int) (r : List Int) : Cfg := ⟨sl 42 [(41, .vec 2)], [.dead, .own [avI id] 3, .vec (.ints .i64 r) 3], cal Try.f61 12 3, kk 12⟩
theorem endDi (id : Int) (r : List Int) : run P tab0.sum Try.f61 nsDi (cDiE id r) inDi =
  Tree.ret [AObj.dead, AObj.own [AV.s (SV.int IntKind.i64 id)] (3 : Nat), AObj.vec (Con.ints IntKind.i64 r) (3 : Nat)] (AV.vec (2 : Nat)) := by kernel_rfl
noncomputable def cDiF (id : Int) (r : List Int) : Cfg := ⟨sl 42 [(13, .vec 2)], [.dead, .own [avI id] 3, .vec (.ints .i64 r) 3], cal Try.f61 3 1, kk 3⟩
theorem endDiF (id : Int) (r : List Int) : run P tab0.sum Try.f61 nsDi (cDiF id r) inDi =
  Tree.ret [AObj.dead, AObj.own [AV.s (SV.int IntKind.i64 id)] (3 : Nat), AObj.vec (Con.ints IntKind.i64 r) (3 : Nat)] (AV.vec (2 : Nat)) := by kernel_rfl
abbrev sDi : Spec (List Int × Int) := ⟨fun _ => [.vec 0, .fn fCl [.ptr 1 0]], fun (l, id) => [.vec (.ints .i64 l) 3, .own [avI id] 3], fun (l, _) => [l.length ≤ 10000000], fun (l, id) => [.dead, .own [avI id] 3, .vec (.ints .i64 (delF (fun x => x == id) l)) 3], fun _ => .vec 2⟩
def mDi : List AV → RM ((List Int × Int) × List Nat)
  | [.vec id, .fn _ [.ptr k 0]] => .look id fun o => match o with
    | some (.vec (.ints .i64 zs) _) => .look k fun o => match o with
      | some (.own [a] _) => match avInt .i64 a with
        | some n => .ret ((zs, n), [id, k])
        | _ => .fail "no number"
      | _ => .fail "no number"
    | _ => .fail "no row"
  | _ => .fail "no row"
abbrev sumDi := sumS sDi mDi
/-! Take, Clear, Break, Gone -/
abbrev preS : AL [tSt] → List Prop := fun ((_, _, _, is, cs, ws, ()), ()) => [(is : Is).length ≤ 1000000, (cs : Cs).length ≤ 1000000, (ws : Ws).length ≤ 1000000]
def pIt (l : List Int) (x : CL cI) : Bool := l.contains (iI x)
def pWa (l : List Int) (x : CL cW) : Bool := l.contains (wT x)
abbrev wo (ck nx : Int) (ps : Ps) (is : Is) (cs : Cs) (ws : Ws) (l q : List Int) : AL [tSt] := ((ck, nx, ps, delF (pIt l) is, delF (pDr l) cs, delF (pWa q) ws, ()), ())
abbrev sumWo := sumR [tSt, tNs] [tSr] (fun (s, l, ()) => ((l : List Int).length ≤ 2000000) :: preS (s, ())) (fun ((ck, nx, ps, is, cs, ws, ()), l, ()) => wo ck nx ps is cs ws l l)
def gI (is : Is) (id : Int) : Int := iI (getI is id)
def gU (is : Is) (id : Int) : Int := iU (getI is id)
def gS (is : Is) (id : Int) : Int := iS (getI is id)
def gP (is : Is) (id : Int) : ByteArray := iP (getI is id)
def gN (is : Is) (id : Int) : Int := iN (getI is id)
def gF (is : Is) (id : Int) : Int := iF (getI is id)
def gW (is : Is) (id : Int) : Int := iW (getI is id)
def gC (is : Is) (id : Int) : ByteArray := iC (getI is id)
abbrev getT (is : Is) (id : Int) : CL cI := (gI is id, gU is id, gS is id, gP is id, gN is id, gF is id, gW is id, gC is id, ())
abbrev sumFi := sumOf [tSt, tInt] [tIt, tBool] (fun _ => []) (fun ((_, _, _, is, _, _, ()), id, ()) => (getT is id, hasI is id, ()))
abbrev sumBe := sumOf [tSt, tInt] [tNs] (fun ((_, _, _, is, _, _, ()), _, ()) => [(is : Is).length ≤ 1000000]) (fun ((_, _, _, is, _, _, ()), id, ()) => (belowF (esOf is) id, ()))
def tabTa : Tab := [(14, sumFi), (28, sumBe), (57, sumWo)]
theorem trTa (ck nx : Int) (ps : Ps) (is : Is) (cs : Cs) (ws : Ws) (id : Int) : run P tabTa.sum Try.f25 [] (start Try.f25 [avSt ck nx ps is cs ws, avI id] []) =
  Tree.ite (!hasI is id) (Tree.ret [AObj.own [AV.s (SV.int IntKind.i64 ck), AV.s (SV.int IntKind.i64 nx), AV.s (SV.ro (Con.typ [CK.str, CK.rows [CK.str, CK.int IntKind.u8, CK.int IntKind.i64, CK.str], CK.rows [CK.str, CK.int IntKind.u8, CK.int IntKind.i64, CK.int IntKind.i64, CK.int IntKind.u8, CK.str, CK.str, CK.str, CK.bool, CK.rows [CK.str, CK.int IntKind.u8, CK.int IntKind.i64, CK.str], CK.strs], CK.rows [CK.int IntKind.i64, CK.int IntKind.i64, CK.str, CK.bool]] ps)), AV.s (SV.ro (Con.typ cI is)), AV.s (SV.ro (Con.typ cC cs)), AV.s (SV.ro (Con.typ cW ws))] (27 : Nat), AObj.own [AV.s (SV.int IntKind.i64 ck), AV.s (SV.int IntKind.i64 nx), AV.s (SV.ro (Con.typ [CK.str, CK.rows [CK.str, CK.int IntKind.u8, CK.int IntKind.i64, CK.str], CK.rows [CK.str, CK.int IntKind.u8, CK.int IntKind.i64, CK.int IntKind.i64, CK.int IntKind.u8, CK.str, CK.str, CK.str, CK.bool, CK.rows [CK.str, CK.int IntKind.u8, CK.int IntKind.i64, CK.str], CK.strs], CK.rows [CK.int IntKind.i64, CK.int IntKind.i64, CK.str, CK.bool]] ps)), AV.s (SV.ro (Con.typ cI is)), AV.s (SV.ro (Con.typ cC cs)), AV.s (SV.ro (Con.typ cW ws))] (27 : Nat), AObj.own [AV.s (SV.int IntKind.i64 (gI is id)), AV.s (SV.int IntKind.i64 (gU is id)), AV.s (SV.int IntKind.u8 (gS is id)), AV.s (SV.str (gP is id)), AV.s (SV.int IntKind.i64 (gN is id)), AV.s (SV.int IntKind.i64 (gF is id)), AV.s (SV.int IntKind.u8 (gW is id)), AV.s (SV.str (gC is id))] (43 : Nat)] (AV.agg [AV.s (SV.int IntKind.i64 ck), AV.s (SV.int IntKind.i64 nx), AV.s (SV.ro (Con.typ [CK.str, CK.rows [CK.str, CK.int IntKind.u8, CK.int IntKind.i64, CK.str], CK.rows [CK.str, CK.int IntKind.u8, CK.int IntKind.i64, CK.int IntKind.i64, CK.int IntKind.u8, CK.str, CK.str, CK.str, CK.bool, CK.rows [CK.str, CK.int IntKind.u8, CK.int IntKind.i64, CK.str], CK.strs], CK.rows [CK.int IntKind.i64, CK.int IntKind.i64, CK.str, CK.bool]] ps)), AV.s (SV.ro (Con.typ cI is)), AV.s (SV.ro (Con.typ cC cs)), AV.s (SV.ro (Con.typ cW ws))]))
  (Tree.need (List.length is ≤ (1000000 : Nat)) (Tree.need (((belowF (esOf is) id).length + (1 : Nat)) * (8 : Nat) ≤ (140737488355328 : Nat)) (Tree.need ((belowF (esOf is) id ++ [id]).length ≤ (2000000 : Nat)) (Tree.need (List.length is ≤ (1000000 : Nat)) (Tree.need (List.length cs ≤ (1000000 : Nat)) (Tree.need (List.length ws ≤ (1000000 : Nat)) (Tree.ret [AObj.own [AV.s (SV.int IntKind.i64 ck), AV.s (SV.int IntKind.i64 nx), AV.s (SV.ro (Con.typ [CK.str, CK.rows [CK.str, CK.int IntKind.u8, CK.int IntKind.i64, CK.str], CK.rows [CK.str, CK.int IntKind.u8, CK.int IntKind.i64, CK.int IntKind.i64, CK.int IntKind.u8, CK.str, CK.str, CK.str, CK.bool, CK.rows [CK.str, CK.int IntKind.u8, CK.int IntKind.i64, CK.str], CK.strs], CK.rows [CK.int IntKind.i64, CK.int IntKind.i64, CK.str, CK.bool]] ps)), AV.s (SV.ro (Con.typ cI is)), AV.s (SV.ro (Con.typ cC cs)), AV.s (SV.ro (Con.typ cW ws))] (27 : Nat), AObj.own [AV.s (SV.int IntKind.i64 ck), AV.s (SV.int IntKind.i64 nx), AV.s (SV.ro (Con.typ [CK.str, CK.rows [CK.str, CK.int IntKind.u8, CK.int IntKind.i64, CK.str], CK.rows [CK.str, CK.int IntKind.u8, CK.int IntKind.i64, CK.int IntKind.i64, CK.int IntKind.u8, CK.str, CK.str, CK.str, CK.bool, CK.rows [CK.str, CK.int IntKind.u8, CK.int IntKind.i64, CK.str], CK.strs], CK.rows [CK.int IntKind.i64, CK.int IntKind.i64, CK.str, CK.bool]] ps)), AV.s (SV.ro (Con.typ cI (delF (pIt (belowF (esOf is) id ++ [id])) is))), AV.s (SV.ro (Con.typ cC (delF (pDr (belowF (esOf is) id ++ [id])) cs))), AV.s (SV.ro (Con.typ cW (delF (pWa (belowF (esOf is) id ++ [id])) ws)))] (27 : Nat), AObj.own [AV.s (SV.int IntKind.i64 (gI is id)), AV.s (SV.int IntKind.i64 (gU is id)), AV.s (SV.int IntKind.u8 (gS is id)), AV.s (SV.str (gP is id)), AV.s (SV.int IntKind.i64 (gN is id)), AV.s (SV.int IntKind.i64 (gF is id)), AV.s (SV.int IntKind.u8 (gW is id)), AV.s (SV.str (gC is id))] (43 : Nat), AObj.dead, AObj.vec (Con.ints IntKind.i64 [id]) (3 : Nat), AObj.dead] (AV.agg [AV.s (SV.int IntKind.i64 ck), AV.s (SV.int IntKind.i64 nx), AV.s (SV.ro (Con.typ [CK.str, CK.rows [CK.str, CK.int IntKind.u8, CK.int IntKind.i64, CK.str], CK.rows [CK.str, CK.int IntKind.u8, CK.int IntKind.i64, CK.int IntKind.i64, CK.int IntKind.u8, CK.str, CK.str, CK.str, CK.bool, CK.rows [CK.str, CK.int IntKind.u8, CK.int IntKind.i64, CK.str], CK.strs], CK.rows [CK.int IntKind.i64, CK.int IntKind.i64, CK.str, CK.bool]] ps)), AV.s (SV.ro (Con.typ cI (delF (pIt (belowF (esOf is) id ++ [id])) is))), AV.s (SV.ro (Con.typ cC (delF (pDr (belowF (esOf is) id ++ [id])) cs))), AV.s (SV.ro (Con.typ cW (delF (pWa (belowF (esOf is) id ++ [id])) ws)))])))))))) := by kernel_rfl
def tabCl : Tab := [(14, sumFi), (28, sumBe), (61, sumDi), (57, sumWo)]
theorem trCl (ck nx : Int) (ps : Ps) (is : Is) (cs : Cs) (ws : Ws) (id : Int) : run P tabCl.sum Try.f34 [] (start Try.f34 [avSt ck nx ps is cs ws, avI id] []) =
  Tree.ite (!hasI is id) (Tree.ret [AObj.own [AV.s (SV.int IntKind.i64 ck), AV.s (SV.int IntKind.i64 nx), AV.s (SV.ro (Con.typ [CK.str, CK.rows [CK.str, CK.int IntKind.u8, CK.int IntKind.i64, CK.str], CK.rows [CK.str, CK.int IntKind.u8, CK.int IntKind.i64, CK.int IntKind.i64, CK.int IntKind.u8, CK.str, CK.str, CK.str, CK.bool, CK.rows [CK.str, CK.int IntKind.u8, CK.int IntKind.i64, CK.str], CK.strs], CK.rows [CK.int IntKind.i64, CK.int IntKind.i64, CK.str, CK.bool]] ps)), AV.s (SV.ro (Con.typ cI is)), AV.s (SV.ro (Con.typ cC cs)), AV.s (SV.ro (Con.typ cW ws))] (27 : Nat), AObj.own [AV.s (SV.int IntKind.i64 id)] (3 : Nat), AObj.own [AV.s (SV.int IntKind.i64 ck), AV.s (SV.int IntKind.i64 nx), AV.s (SV.ro (Con.typ [CK.str, CK.rows [CK.str, CK.int IntKind.u8, CK.int IntKind.i64, CK.str], CK.rows [CK.str, CK.int IntKind.u8, CK.int IntKind.i64, CK.int IntKind.i64, CK.int IntKind.u8, CK.str, CK.str, CK.str, CK.bool, CK.rows [CK.str, CK.int IntKind.u8, CK.int IntKind.i64, CK.str], CK.strs], CK.rows [CK.int IntKind.i64, CK.int IntKind.i64, CK.str, CK.bool]] ps)), AV.s (SV.ro (Con.typ cI is)), AV.s (SV.ro (Con.typ cC cs)), AV.s (SV.ro (Con.typ cW ws))] (27 : Nat), AObj.own [AV.s (SV.int IntKind.i64 (gI is id)), AV.s (SV.int IntKind.i64 (gU is id)), AV.s (SV.int IntKind.u8 (gS is id)), AV.s (SV.str (gP is id)), AV.s (SV.int IntKind.i64 (gN is id)), AV.s (SV.int IntKind.i64 (gF is id)), AV.s (SV.int IntKind.u8 (gW is id)), AV.s (SV.str (gC is id))] (43 : Nat)] (AV.agg [AV.s (SV.int IntKind.i64 ck), AV.s (SV.int IntKind.i64 nx), AV.s (SV.ro (Con.typ [CK.str, CK.rows [CK.str, CK.int IntKind.u8, CK.int IntKind.i64, CK.str], CK.rows [CK.str, CK.int IntKind.u8, CK.int IntKind.i64, CK.int IntKind.i64, CK.int IntKind.u8, CK.str, CK.str, CK.str, CK.bool, CK.rows [CK.str, CK.int IntKind.u8, CK.int IntKind.i64, CK.str], CK.strs], CK.rows [CK.int IntKind.i64, CK.int IntKind.i64, CK.str, CK.bool]] ps)), AV.s (SV.ro (Con.typ cI is)), AV.s (SV.ro (Con.typ cC cs)), AV.s (SV.ro (Con.typ cW ws))]))
  (Tree.need (List.length is ≤ (1000000 : Nat)) (Tree.need (Slf (some [AV.vec (0 : Nat), AV.fn (62 : Nat) [AV.ptr (1 : Nat) (0 : Nat)]])) (Tree.need (Slf (some [AObj.vec (Con.ints IntKind.i64 (belowF (esOf is) id)) (3 : Nat), AObj.own [AV.s (SV.int IntKind.i64 id)] (3 : Nat)])) (Tree.need ((belowF (esOf is) id).length ≤ (10000000 : Nat)) (Tree.need ((delF (fun (x : Int) => x == id) (belowF (esOf is) id)).length ≤ (2000000 : Nat)) (Tree.need (List.length is ≤ (1000000 : Nat)) (Tree.need (List.length cs ≤ (1000000 : Nat)) (Tree.need (List.length ws ≤ (1000000 : Nat)) (Tree.ret [AObj.own [AV.s (SV.int IntKind.i64 ck), AV.s (SV.int IntKind.i64 nx), AV.s (SV.ro (Con.typ [CK.str, CK.rows [CK.str, CK.int IntKind.u8, CK.int IntKind.i64, CK.str], CK.rows [CK.str, CK.int IntKind.u8, CK.int IntKind.i64, CK.int IntKind.i64, CK.int IntKind.u8, CK.str, CK.str, CK.str, CK.bool, CK.rows [CK.str, CK.int IntKind.u8, CK.int IntKind.i64, CK.str], CK.strs], CK.rows [CK.int IntKind.i64, CK.int IntKind.i64, CK.str, CK.bool]] ps)), AV.s (SV.ro (Con.typ cI is)), AV.s (SV.ro (Con.typ cC cs)), AV.s (SV.ro (Con.typ cW ws))] (27 : Nat), AObj.own [AV.s (SV.int IntKind.i64 id)] (3 : Nat), AObj.own [AV.s (SV.int IntKind.i64 ck), AV.s (SV.int IntKind.i64 nx), AV.s (SV.ro (Con.typ [CK.str, CK.rows [CK.str, CK.int IntKind.u8, CK.int IntKind.i64, CK.str], CK.rows [CK.str, CK.int IntKind.u8, CK.int IntKind.i64, CK.int IntKind.i64, CK.int IntKind.u8, CK.str, CK.str, CK.str, CK.bool, CK.rows [CK.str, CK.int IntKind.u8, CK.int IntKind.i64, CK.str], CK.strs], CK.rows [CK.int IntKind.i64, CK.int IntKind.i64, CK.str, CK.bool]] ps)), AV.s (SV.ro (Con.typ cI (delF (pIt (delF (fun (x : Int) => x == id) (belowF (esOf is) id))) is))), AV.s (SV.ro (Con.typ cC (delF (pDr (delF (fun (x : Int) => x == id) (belowF (esOf is) id))) cs))), AV.s (SV.ro (Con.typ cW (delF (pWa (delF (fun (x : Int) => x == id) (belowF (esOf is) id))) ws)))] (27 : Nat), AObj.own [AV.s (SV.int IntKind.i64 (gI is id)), AV.s (SV.int IntKind.i64 (gU is id)), AV.s (SV.int IntKind.u8 (gS is id)), AV.s (SV.str (gP is id)), AV.s (SV.int IntKind.i64 (gN is id)), AV.s (SV.int IntKind.i64 (gF is id)), AV.s (SV.int IntKind.u8 (gW is id)), AV.s (SV.str (gC is id))] (43 : Nat), AObj.dead, AObj.dead] (AV.agg [AV.s (SV.int IntKind.i64 ck), AV.s (SV.int IntKind.i64 nx), AV.s (SV.ro (Con.typ [CK.str, CK.rows [CK.str, CK.int IntKind.u8, CK.int IntKind.i64, CK.str], CK.rows [CK.str, CK.int IntKind.u8, CK.int IntKind.i64, CK.int IntKind.i64, CK.int IntKind.u8, CK.str, CK.str, CK.str, CK.bool, CK.rows [CK.str, CK.int IntKind.u8, CK.int IntKind.i64, CK.str], CK.strs], CK.rows [CK.int IntKind.i64, CK.int IntKind.i64, CK.str, CK.bool]] ps)), AV.s (SV.ro (Con.typ cI (delF (pIt (delF (fun (x : Int) => x == id) (belowF (esOf is) id))) is))), AV.s (SV.ro (Con.typ cC (delF (pDr (delF (fun (x : Int) => x == id) (belowF (esOf is) id))) cs))), AV.s (SV.ro (Con.typ cW (delF (pWa (delF (fun (x : Int) => x == id) (belowF (esOf is) id))) ws)))])))))))))) := by kernel_rfl
abbrev eff (ck nx : Int) (ps : Ps) (is : Is) (cs : Cs) (ws : Ws) : AL [tSt] := ((ck, nx, ps, is, cs, ws, ()), ())
def takeL (is : Is) (id : Int) : List Int := if hasI is id = true then belowF (esOf is) id ++ [id] else []
def clearL (is : Is) (id : Int) : List Int := if hasI is id = true then delF (fun x => x == id) (belowF (esOf is) id) else []
def breakL (is : Is) (id : Int) : List Int := if hasI is id = true then clearL is id ++ [id] else []
abbrev sumTa := sumR [tSt, tInt] [tSr] (fun (s, _, ()) => preS (s, ())) (fun ((ck, nx, ps, is, cs, ws, ()), id, ()) => wo ck nx ps is cs ws (takeL is id) (takeL is id))
abbrev sumCl := sumR [tSt, tInt] [tSr] (fun (s, _, ()) => preS (s, ())) (fun ((ck, nx, ps, is, cs, ws, ()), id, ()) => wo ck nx ps is cs ws (clearL is id) (clearL is id))
abbrev sumBr := sumR [tSt, tInt] [tSr] (fun (s, _, ()) => preS (s, ())) (fun ((ck, nx, ps, is, cs, ws, ()), id, ()) => wo ck nx ps is cs ws (clearL is id) (breakL is id))
def tabBr : Tab := [(14, sumFi), (34, sumCl), (63, sumUw)]
theorem trBr (ck nx : Int) (ps : Ps) (is : Is) (cs : Cs) (ws : Ws) (id : Int) : run P tabBr.sum Try.f36 [] (start Try.f36 [avSt ck nx ps is cs ws, avI id] []) =
  Tree.ite (!hasI is id) (Tree.ret [AObj.own [AV.s (SV.int IntKind.i64 ck), AV.s (SV.int IntKind.i64 nx), AV.s (SV.ro (Con.typ [CK.str, CK.rows [CK.str, CK.int IntKind.u8, CK.int IntKind.i64, CK.str], CK.rows [CK.str, CK.int IntKind.u8, CK.int IntKind.i64, CK.int IntKind.i64, CK.int IntKind.u8, CK.str, CK.str, CK.str, CK.bool, CK.rows [CK.str, CK.int IntKind.u8, CK.int IntKind.i64, CK.str], CK.strs], CK.rows [CK.int IntKind.i64, CK.int IntKind.i64, CK.str, CK.bool]] ps)), AV.s (SV.ro (Con.typ cI is)), AV.s (SV.ro (Con.typ cC cs)), AV.s (SV.ro (Con.typ cW ws))] (27 : Nat), AObj.own [AV.s (SV.int IntKind.i64 ck), AV.s (SV.int IntKind.i64 nx), AV.s (SV.ro (Con.typ [CK.str, CK.rows [CK.str, CK.int IntKind.u8, CK.int IntKind.i64, CK.str], CK.rows [CK.str, CK.int IntKind.u8, CK.int IntKind.i64, CK.int IntKind.i64, CK.int IntKind.u8, CK.str, CK.str, CK.str, CK.bool, CK.rows [CK.str, CK.int IntKind.u8, CK.int IntKind.i64, CK.str], CK.strs], CK.rows [CK.int IntKind.i64, CK.int IntKind.i64, CK.str, CK.bool]] ps)), AV.s (SV.ro (Con.typ cI is)), AV.s (SV.ro (Con.typ cC cs)), AV.s (SV.ro (Con.typ cW ws))] (27 : Nat), AObj.own [AV.s (SV.int IntKind.i64 (gI is id)), AV.s (SV.int IntKind.i64 (gU is id)), AV.s (SV.int IntKind.u8 (gS is id)), AV.s (SV.str (gP is id)), AV.s (SV.int IntKind.i64 (gN is id)), AV.s (SV.int IntKind.i64 (gF is id)), AV.s (SV.int IntKind.u8 (gW is id)), AV.s (SV.str (gC is id))] (43 : Nat)] (AV.agg [AV.s (SV.int IntKind.i64 ck), AV.s (SV.int IntKind.i64 nx), AV.s (SV.ro (Con.typ [CK.str, CK.rows [CK.str, CK.int IntKind.u8, CK.int IntKind.i64, CK.str], CK.rows [CK.str, CK.int IntKind.u8, CK.int IntKind.i64, CK.int IntKind.i64, CK.int IntKind.u8, CK.str, CK.str, CK.str, CK.bool, CK.rows [CK.str, CK.int IntKind.u8, CK.int IntKind.i64, CK.str], CK.strs], CK.rows [CK.int IntKind.i64, CK.int IntKind.i64, CK.str, CK.bool]] ps)), AV.s (SV.ro (Con.typ cI is)), AV.s (SV.ro (Con.typ cC cs)), AV.s (SV.ro (Con.typ cW ws))]))
  (Tree.need (List.length is ≤ (1000000 : Nat)) (Tree.need (List.length cs ≤ (1000000 : Nat)) (Tree.need (List.length ws ≤ (1000000 : Nat)) (Tree.need (Slf (some [AV.agg [AV.s (SV.int IntKind.i64 ck), AV.s (SV.int IntKind.i64 nx), AV.s (SV.ro (Con.typ [CK.str, CK.rows [CK.str, CK.int IntKind.u8, CK.int IntKind.i64, CK.str], CK.rows [CK.str, CK.int IntKind.u8, CK.int IntKind.i64, CK.int IntKind.i64, CK.int IntKind.u8, CK.str, CK.str, CK.str, CK.bool, CK.rows [CK.str, CK.int IntKind.u8, CK.int IntKind.i64, CK.str], CK.strs], CK.rows [CK.int IntKind.i64, CK.int IntKind.i64, CK.str, CK.bool]] ps)), AV.s (SV.ro (Con.typ cI (delF (pIt (clearL is id)) is))), AV.s (SV.ro (Con.typ cC (delF (pDr (clearL is id)) cs))), AV.s (SV.ro (Con.typ cW (delF (pWa (clearL is id)) ws)))], AV.mapv (0 : Nat)])) (Tree.need (Slf (some [AObj.map (CK.int IntKind.i64) (mput [] id (1 : Int))])) (Tree.need ((delF (pWa (clearL is id)) ws).length ≤ (1000000 : Nat)) (Tree.ret [AObj.own [AV.s (SV.int IntKind.i64 ck), AV.s (SV.int IntKind.i64 nx), AV.s (SV.ro (Con.typ [CK.str, CK.rows [CK.str, CK.int IntKind.u8, CK.int IntKind.i64, CK.str], CK.rows [CK.str, CK.int IntKind.u8, CK.int IntKind.i64, CK.int IntKind.i64, CK.int IntKind.u8, CK.str, CK.str, CK.str, CK.bool, CK.rows [CK.str, CK.int IntKind.u8, CK.int IntKind.i64, CK.str], CK.strs], CK.rows [CK.int IntKind.i64, CK.int IntKind.i64, CK.str, CK.bool]] ps)), AV.s (SV.ro (Con.typ cI is)), AV.s (SV.ro (Con.typ cC cs)), AV.s (SV.ro (Con.typ cW ws))] (27 : Nat), AObj.own [AV.s (SV.int IntKind.i64 ck), AV.s (SV.int IntKind.i64 nx), AV.s (SV.ro (Con.typ [CK.str, CK.rows [CK.str, CK.int IntKind.u8, CK.int IntKind.i64, CK.str], CK.rows [CK.str, CK.int IntKind.u8, CK.int IntKind.i64, CK.int IntKind.i64, CK.int IntKind.u8, CK.str, CK.str, CK.str, CK.bool, CK.rows [CK.str, CK.int IntKind.u8, CK.int IntKind.i64, CK.str], CK.strs], CK.rows [CK.int IntKind.i64, CK.int IntKind.i64, CK.str, CK.bool]] ps)), AV.s (SV.ro (Con.typ cI (delF (pIt (clearL is id)) is))), AV.s (SV.ro (Con.typ cC (delF (pDr (clearL is id)) cs))), AV.vec (4 : Nat)] (27 : Nat), AObj.own [AV.s (SV.int IntKind.i64 (gI is id)), AV.s (SV.int IntKind.i64 (gU is id)), AV.s (SV.int IntKind.u8 (gS is id)), AV.s (SV.str (gP is id)), AV.s (SV.int IntKind.i64 (gN is id)), AV.s (SV.int IntKind.i64 (gF is id)), AV.s (SV.int IntKind.u8 (gW is id)), AV.s (SV.str (gC is id))] (43 : Nat), AObj.map (CK.int IntKind.i64) (mput [] id (1 : Int)), AObj.vec (Con.typ cW (delF (pUw (mput [] id (1 : Int))) (delF (pWa (clearL is id)) ws))) (93 : Nat)] (AV.agg [AV.s (SV.int IntKind.i64 ck), AV.s (SV.int IntKind.i64 nx), AV.s (SV.ro (Con.typ [CK.str, CK.rows [CK.str, CK.int IntKind.u8, CK.int IntKind.i64, CK.str], CK.rows [CK.str, CK.int IntKind.u8, CK.int IntKind.i64, CK.int IntKind.i64, CK.int IntKind.u8, CK.str, CK.str, CK.str, CK.bool, CK.rows [CK.str, CK.int IntKind.u8, CK.int IntKind.i64, CK.str], CK.strs], CK.rows [CK.int IntKind.i64, CK.int IntKind.i64, CK.str, CK.bool]] ps)), AV.s (SV.ro (Con.typ cI (delF (pIt (clearL is id)) is))), AV.s (SV.ro (Con.typ cC (delF (pDr (clearL is id)) cs))), AV.vec (4 : Nat)])))))))) := by kernel_rfl
def tabGo : Tab := [(14, sumFi), (59, sumSort), (60, sumCm)]
def nsGo : List (Nat × Norm) := [(3, ⟨[(5, .ints .i64 [], 3)], [3, 5, 11, 12, 13], 0, []⟩)]
theorem trGo (ck nx : Int) (ps : Ps) (is : Is) (cs : Cs) (ws : Ws) (ck' nx' : Int) (ps' : Ps) (is' : Is) (cs' : Cs) (ws' : Ws) : run P tabGo.sum Try.f27 nsGo (start Try.f27 [avSt ck nx ps is cs ws, avSt ck' nx' ps' is' cs' ws'] []) =
  Tree.at (Cfg.mk (sl (36 : Nat) [((3 : Nat), AV.ptr (0 : Nat) (0 : Nat)), ((5 : Nat), AV.vec (1 : Nat)), ((11 : Nat), AV.s (SV.ro (Con.typ cI is))), ((12 : Nat), AV.s (SV.int IntKind.i64 (↑(List.length is) : Int))), ((13 : Nat), AV.s (SV.int IntKind.i64 (0 : Int)))]) [AObj.own [AV.s (SV.int IntKind.i64 ck'), AV.s (SV.int IntKind.i64 nx'), AV.s (SV.ro (Con.typ [CK.str, CK.rows [CK.str, CK.int IntKind.u8, CK.int IntKind.i64, CK.str], CK.rows [CK.str, CK.int IntKind.u8, CK.int IntKind.i64, CK.int IntKind.i64, CK.int IntKind.u8, CK.str, CK.str, CK.str, CK.bool, CK.rows [CK.str, CK.int IntKind.u8, CK.int IntKind.i64, CK.str], CK.strs], CK.rows [CK.int IntKind.i64, CK.int IntKind.i64, CK.str, CK.bool]] ps')), AV.s (SV.ro (Con.typ cI is')), AV.s (SV.ro (Con.typ cC cs')), AV.s (SV.ro (Con.typ cW ws'))] (27 : Nat), AObj.vec (Con.ints IntKind.i64 []) (3 : Nat)] (hd Try.f27 (3 : Nat)) (Stk.mk none false (0 : Nat) [] (0 : Nat))) := by kernel_rfl
noncomputable def cGo (is : Is) (ck' nx' : Int) (ps' : Ps) (is' : Is) (cs' : Cs) (ws' : Ws) (acc : List Int) (i : Int) : Cfg := ⟨sl 36 [(3, .ptr 0 0), (5, .vec 1), (11, .s (.ro (.typ cI is))), (12, avI (is.length : Int)), (13, avI i)], [obSt ck' nx' ps' is' cs' ws', .vec (.ints .i64 acc) 3], hd Try.f27 3, {}⟩
theorem loopGo (is : Is) (ck' nx' : Int) (ps' : Ps) (is' : Is) (cs' : Cs) (ws' : Ws) (acc : List Int) (i : Int) : run P tabGo.sum Try.f27 nsGo (cGo is ck' nx' ps' is' cs' ws' acc i) =
  Tree.ite (decide (i < (↑(List.length is) : Int))) (Tree.need ((0 : Int) ≤ i) (Tree.need (i < (↑(List.length is) : Int)) (Tree.ite (!hasI is' (iI (el is i))) (Tree.need ((acc.length + (1 : Nat)) * (8 : Nat) ≤ (140737488355328 : Nat)) (Tree.need (inI64 (i + (1 : Int))) (Tree.at (Cfg.mk (sl (36 : Nat) [((3 : Nat), AV.ptr (0 : Nat) (0 : Nat)), ((5 : Nat), AV.vec (1 : Nat)), ((11 : Nat), AV.s (SV.ro (Con.typ cI is))), ((12 : Nat), AV.s (SV.int IntKind.i64 (↑(List.length is) : Int))), ((13 : Nat), AV.s (SV.int IntKind.i64 (i + (1 : Int))))]) [AObj.own [AV.s (SV.int IntKind.i64 ck'), AV.s (SV.int IntKind.i64 nx'), AV.s (SV.ro (Con.typ [CK.str, CK.rows [CK.str, CK.int IntKind.u8, CK.int IntKind.i64, CK.str], CK.rows [CK.str, CK.int IntKind.u8, CK.int IntKind.i64, CK.int IntKind.i64, CK.int IntKind.u8, CK.str, CK.str, CK.str, CK.bool, CK.rows [CK.str, CK.int IntKind.u8, CK.int IntKind.i64, CK.str], CK.strs], CK.rows [CK.int IntKind.i64, CK.int IntKind.i64, CK.str, CK.bool]] ps')), AV.s (SV.ro (Con.typ cI is')), AV.s (SV.ro (Con.typ cC cs')), AV.s (SV.ro (Con.typ cW ws'))] (27 : Nat), AObj.vec (Con.ints IntKind.i64 (acc ++ [iI (el is i)])) (3 : Nat)] (hd Try.f27 (3 : Nat)) (Stk.mk none false (0 : Nat) [] (0 : Nat)))))) (Tree.need (inI64 (i + (1 : Int))) (Tree.at (Cfg.mk (sl (36 : Nat) [((3 : Nat), AV.ptr (0 : Nat) (0 : Nat)), ((5 : Nat), AV.vec (1 : Nat)), ((11 : Nat), AV.s (SV.ro (Con.typ cI is))), ((12 : Nat), AV.s (SV.int IntKind.i64 (↑(List.length is) : Int))), ((13 : Nat), AV.s (SV.int IntKind.i64 (i + (1 : Int))))]) [AObj.own [AV.s (SV.int IntKind.i64 ck'), AV.s (SV.int IntKind.i64 nx'), AV.s (SV.ro (Con.typ [CK.str, CK.rows [CK.str, CK.int IntKind.u8, CK.int IntKind.i64, CK.str], CK.rows [CK.str, CK.int IntKind.u8, CK.int IntKind.i64, CK.int IntKind.i64, CK.int IntKind.u8, CK.str, CK.str, CK.str, CK.bool, CK.rows [CK.str, CK.int IntKind.u8, CK.int IntKind.i64, CK.str], CK.strs], CK.rows [CK.int IntKind.i64, CK.int IntKind.i64, CK.str, CK.bool]] ps')), AV.s (SV.ro (Con.typ cI is')), AV.s (SV.ro (Con.typ cC cs')), AV.s (SV.ro (Con.typ cW ws'))] (27 : Nat), AObj.vec (Con.ints IntKind.i64 acc) (3 : Nat)] (hd Try.f27 (3 : Nat)) (Stk.mk none false (0 : Nat) [] (0 : Nat)))))))) (Tree.need (Slf (some [AV.vec (0 : Nat)])) (Tree.need (Slf (some [AObj.vec (Con.ints IntKind.i64 acc) (3 : Nat)])) (Tree.need (acc.length ≤ (1000000 : Nat)) (Tree.need (Slf (some [AV.vec (0 : Nat)])) (Tree.need (Slf (some [AObj.vec (Con.ints IntKind.i64 (srtZ acc)) (3 : Nat)])) (Tree.need ((srtZ acc).length ≤ (1000000 : Nat)) (Tree.ret [AObj.own [AV.s (SV.int IntKind.i64 ck'), AV.s (SV.int IntKind.i64 nx'), AV.s (SV.ro (Con.typ [CK.str, CK.rows [CK.str, CK.int IntKind.u8, CK.int IntKind.i64, CK.str], CK.rows [CK.str, CK.int IntKind.u8, CK.int IntKind.i64, CK.int IntKind.i64, CK.int IntKind.u8, CK.str, CK.str, CK.str, CK.bool, CK.rows [CK.str, CK.int IntKind.u8, CK.int IntKind.i64, CK.str], CK.strs], CK.rows [CK.int IntKind.i64, CK.int IntKind.i64, CK.str, CK.bool]] ps')), AV.s (SV.ro (Con.typ cI is')), AV.s (SV.ro (Con.typ cC cs')), AV.s (SV.ro (Con.typ cW ws'))] (27 : Nat), AObj.dead, AObj.vec (Con.ints IntKind.i64 (cmpF (srtZ acc))) (3 : Nat)] (AV.vec (2 : Nat))))))))) := by kernel_rfl
end Ds

namespace Ds
open Go Go.Sx Go.Proofs Lf
theorem frz_safe {X : Ctx} {K : List AObj → AV → Prop} {f : FuncId} {tmps : List AV} {L : List AObj} {todo : List Item} {stk : Stk} (id : Nat) {c : Cfg}
    (e : (⟨(frzSt ⟨tmps, L⟩ id).tmps, (frzSt ⟨tmps, L⟩ id).H, todo, stk⟩ : Cfg) = c) (h : Safe P f X K c) : Safe P f X K ⟨tmps, L, todo, stk⟩ := by
  subst e
  intro G E ρ a w hG1 hG2 hr b t fs hw
  exact h G E ρ a w hG1 hG2 (hr.frz1 id) b t fs hw
theorem delF_len {α : Type} (p : α → Bool) (l : List α) : (delF p l).length ≤ l.length := List.length_filter_le _ _
theorem delF_congr {α : Type} {p q : α → Bool} (h : ∀ x, p x = q x) (l : List α) : delF p l = delF q l := by
  unfold delF
  rw [show p = q from funext h]
/-- what was counted -/
def Cnts (m : Mp) (l : List Int) : Prop := ∀ k, cnt m k = (l.count k : Int)
theorem cnts_put {m : Mp} {l : List Int} {k : Int} (h : Cnts m l) : Cnts (mput m k (cnt m k + 1)) (l ++ [k]) := by
  intro x
  unfold cnt at *
  rw [mget_put']
  by_cases hx : x = k
  · subst hx
    rw [if_pos rfl]
    have := h x
    unfold cnt at this
    show (mget m x).getD 0 + 1 = _
    rw [this, List.count_append]
    simp
  · rw [if_neg hx]
    have := h x
    unfold cnt at this
    rw [this, List.count_append, List.count_singleton]
    have : (k == x) = false := by simpa using Ne.symm hx
    rw [this]
    simp
theorem cnts_in {m : Mp} {l : List Int} (h : Cnts m l) (k : Int) : decide (cnt m k > 0) = l.contains k := by
  rw [h k, List.contains_eq_mem]
  congr 1
  rw [eq_iff_iff]
  rw [← List.count_pos_iff]
  omega
theorem cnts_one (id : Int) : Cnts (mput [] id 1) [id] := by
  intro x
  unfold cnt
  rw [mget_put', List.count_singleton]
  by_cases hx : x = id
  · subst hx; simp
  · rw [if_neg hx]
    have : (id == x) = false := by simpa using Ne.symm hx
    rw [this]; rfl
theorem tabWo_ok {Z : Glob} : tabWo.Ok P Z := Tab.Ok.cons drop_ok.sumR (Tab.Ok.cons (unw_ok.sum mUw) Tab.Ok.nil)
def pIm (m : Mp) (x : CL cI) : Bool := decide (cnt m (iI x) > 0)
theorem without_ok {Z : Glob} : FnOk P Z 57 [tSt, tNs] [tSr] (fun (s, l, ()) => ((l : List Int).length ≤ 2000000) :: preS (s, ())) (fun ((ck, nx, ps, is, cs, ws, ()), l, ()) => wo ck nx ps is cs ws l l) := by
  refine fnOk_of_safe Try.func57 (by kernel_rfl) (by kernel_rfl) ?_
  rintro ⟨⟨(ck : Int), (nx : Int), (ps : Ps), (is : Is), (cs : Cs), (ws : Ws), ⟨⟩⟩, (l : List Int), ⟨⟩⟩ _ ⟨(hl : l.length ≤ 2000000), (hi : is.length ≤ 1000000), (hc : cs.length ≤ 1000000), (hw : ws.length ≤ 1000000), _⟩ X hX hz
  show Safe P 57 X (Ends [tSr] (wo ck nx ps is cs ws l l)) _
  have rest : ∀ m : Mp, Cnts m l → Safe P 57 X (Ends [tSr] (wo ck nx ps is cs ws l l)) (cWo ck nx ps is (delF (pDr l) cs) ws m is) := by
    intro m hm
    have t1 : ∀ x : CL cI, (mget m (iI x)).getD (CK.int IntKind.i64).d > 0 → pIm m x = true := fun _ h => decide_eq_true h
    have t0 : ∀ x : CL cI, ¬ (mget m (iI x)).getD (CK.int IntKind.i64).d > 0 → pIm m x = false := fun _ h => decide_eq_false h
    have ei : delF (pIm m) is = delF (pIt l) is := delF_congr (fun x => cnts_in hm (iI x)) is
    have ew : delF (pUw m) ws = delF (pWa l) ws := delF_congr (fun x => cnts_in hm (wT x)) ws

    have fin : ∀ r : List (CL cI), r = delF (pIm m) is → Safe P 57 X (Ends [tSr] (wo ck nx ps is cs ws l l)) (cWoE ck nx ps is (delF (pDr l) cs) ws m r) := by
      intro r hr
      subst hr
      refine go hz hX tabWo_ok Try.func57 (endWo ck nx ps is (delF (pDr l) cs) ws m (delF (pIm m) is)) ⟨rfl, rfl, hw, ?_⟩
      rw [ei, ew]
      exact ends_eq _ rfl (by kernel_rfl)
    have loop2 : ∀ (n : Nat) (r : List (CL cI)) (i j : Nat), j + n = is.length → DInv (pIm m) is r i j → Safe P 57 X (Ends [tSr] (wo ck nx ps is cs ws l l)) (cWo2 ck nx ps is (delF (pDr l) cs) ws m r (i : Int) (j : Int)) := by
      intro n
      induction n with
      | zero =>
        intro r i j hj h
        have hlen := h.len
        have hij := h.ij
        refine go hz hX tabWo_ok Try.func57 (loopWo2 ck nx ps is (delF (pDr l) cs) ws m r i j) ⟨fun h => absurd (of_decide_eq_true h) (by omega), fun _ => ?_⟩
        rw [Int.toNat_natCast, Int.toNat_natCast]
        refine ⟨by omega, by omega, by omega, by omega, by omega, ?_, ?_⟩
        · rw [over_length _ _ (by omega) (by simp)]; omega
        · refine cut_safe (t := 27) (id := 3) rfl rfl ?_
          have e2 : conSub (.typ cI (over r (0 + i) (r.length - i) (List.replicate (r.length - i) (CL.d cI)))) 0 (0 + (i - Int.toNat 0)) = .typ cI (delF (pIm m) is) := by
            show Con.typ cI ((List.take (0 + (i - 0)) (over r (0 + i) (r.length - i) (List.replicate (r.length - i) (CL.d cI)))).drop 0) = _
            rw [List.drop_zero, Nat.zero_add, Nat.sub_zero, Nat.zero_add]
            unfold over
            rw [List.append_assoc, List.take_append_of_le_length (by rw [List.length_take]; omega), List.take_take, Nat.min_self, h.fin (by omega)]
          rw [e2]
          refine frz_safe 5 (c := cWoE ck nx ps is (delF (pDr l) cs) ws m (delF (pIm m) is)) (by kernel_rfl) ?_
          exact fin _ rfl
      | succ n ih =>
        intro r i j hj h
        have hlen := h.len
        have hij := h.ij
        have hlt : j < is.length := by omega
        refine go hz hX tabWo_ok Try.func57 (loopWo2 ck nx ps is (delF (pDr l) cs) ws m r i j) ?_
        rw [el_lt (show j < r.length by omega), h.at hlt]
        have skip := fun hp => ih r i (j + 1) (by omega) (h.skip hlt hp)
        have keep := fun hp => ih (r.set i is[j]) (i + 1) (j + 1) (by omega) (h.keep hlt hp)
        repeat' (with_reducible (first | refine h_eq ?_ | refine h_need ?_ ?_ | refine h_dec (fun _ => ?_) (fun _ => ?_) | refine h_beq (fun _ => ?_) (fun _ => ?_) | refine h_bne (fun _ => ?_) (fun _ => ?_) | refine h_tt ?_ | refine h_ff ?_ | refine h_not ?_ | refine h_ite (fun _ => ?_) (fun _ => ?_) | refine h_both (fun _ => ?_) (fun _ => ?_) | refine h_ret ?_ | refine h_at ?_))
        all_goals first | omega | exact ⟨by omega, by omega⟩ | exact skip (by assumption) | exact keep (by assumption) | exact skip (t1 _ (by assumption)) | exact keep (t0 _ (by assumption))
    have none_ : (∀ x ∈ is, (pIm m) x = false) → Safe P 57 X (Ends [tSr] (wo ck nx ps is cs ws l l)) (cWoV ck nx ps is (delF (pDr l) cs) ws m is) := by
      intro h
      refine vec_cut_safe (t := 27) (id := 3) rfl rfl (c' := .typ cI is) ?_ ?_
      · show Con.typ cI ((List.take (0 + is.length) is).drop 0) = _
        rw [List.drop_zero, Nat.zero_add, List.take_length]
      · refine frz_safe 5 (c := cWoE ck nx ps is (delF (pDr l) cs) ws m is) (by kernel_rfl) ?_
        exact fin _ (delF_all h).symm
    have loop1 : ∀ (n i : Nat), i + n = is.length → (∀ k (hk : k < i) (h2 : k < is.length), (pIm m) is[k] = false) → Safe P 57 X (Ends [tSr] (wo ck nx ps is cs ws l l)) (cWo1 ck nx ps is (delF (pDr l) cs) ws m is (i : Int)) := by
      intro n
      induction n with
      | zero =>
        intro i hi hb
        refine go hz hX tabWo_ok Try.func57 (loopWo1 ck nx ps is (delF (pDr l) cs) ws m is i) ⟨fun h => absurd (of_decide_eq_true h) (by omega), fun _ => ?_⟩
        refine none_ fun x hx => ?_
        obtain ⟨k, hk, rfl⟩ := List.mem_iff_getElem.1 hx
        exact hb k (by omega) hk
      | succ n ih =>
        intro i hi hb
        have hlt : i < is.length := by omega
        refine go hz hX tabWo_ok Try.func57 (loopWo1 ck nx ps is (delF (pDr l) cs) ws m is i) ?_
        rw [el_lt hlt]
        have next := fun h : (pIm m) is[i] = false => ih (i + 1) (by omega) fun k h1 h2 => by
          by_cases e : k = i
          · subst e; exact h
          · exact hb k (by omega) h2
        have hit := fun h : (pIm m) is[i] = true => loop2 (is.length - (i + 1)) is i (i + 1) (by omega) (DInv.start hlt h fun k hk => hb k hk (by omega))
        repeat' (with_reducible (first | refine h_eq ?_ | refine h_need ?_ ?_ | refine h_dec (fun _ => ?_) (fun _ => ?_) | refine h_beq (fun _ => ?_) (fun _ => ?_) | refine h_bne (fun _ => ?_) (fun _ => ?_) | refine h_tt ?_ | refine h_ff ?_ | refine h_not ?_ | refine h_ite (fun _ => ?_) (fun _ => ?_) | refine h_both (fun _ => ?_) (fun _ => ?_) | refine h_ret ?_ | refine h_at ?_))
        all_goals first | omega | exact ⟨by omega, by omega⟩ | exact next (by assumption) | exact hit (by assumption) | exact hit (t1 _ (by assumption)) | exact next (t0 _ (by assumption))
    exact go hz hX tabWo_ok Try.func57 (midWo ck nx ps is (delF (pDr l) cs) ws m is) (loop1 is.length 0 (by omega) fun k hk => absurd hk (Nat.not_lt_zero _))

  have loop : ∀ (n k : Nat) (m : Mp), k + n = l.length → Cnts m (l.take k) → Safe P 57 X (Ends [tSr] (wo ck nx ps is cs ws l l)) (cWo0 ck nx ps is cs ws l m (k : Int)) := by
    intro n
    induction n with
    | zero =>
      intro k m hk hm
      rw [List.take_of_length_le (by omega)] at hm
      have mid := rest m hm
      refine go hz hX tabWo_ok Try.func57 (loopWo0 ck nx ps is cs ws l m k) ⟨fun h => absurd (of_decide_eq_true h) (by omega), fun _ => ⟨hc, fun h => ?_, fun _ => ⟨by omega, mid⟩⟩⟩
      have h := List.eq_nil_of_length_eq_zero h
      have e : cWo ck nx ps is (delF (pDr l) cs) ws m [] = cWo ck nx ps is (delF (pDr l) cs) ws m is := by rw [h]
      rw [← e] at mid
      exact mid
    | succ n ih =>
      intro k m hk hm
      have hlt : k < l.length := by omega
      refine go hz hX tabWo_ok Try.func57 (loopWo0 ck nx ps is cs ws l m k) ?_
      rw [Int.toNat_natCast, getD_lt hlt]
      have hc1 := hm l[k]
      have hc2 := List.count_le_length (l := l.take k) (a := l[k])
      rw [List.length_take] at hc2
      have hcn : (mget m l[k]).getD (CK.int IntKind.i64).d = cnt m l[k] := rfl
      rw [hcn]
      have := ih (k + 1) (mput m l[k] (cnt m l[k] + 1)) (by omega) (by
        rw [List.take_add_one, List.getElem?_eq_getElem hlt]
        exact cnts_put hm)
      refine ⟨fun _ => ⟨by omega, by omega, ⟨by omega, by omega⟩, ⟨by omega, by omega⟩, this⟩, fun h => absurd (of_decide_eq_false h) (by omega)⟩
  refine go hz hX tabWo_ok Try.func57 (trWo ck nx ps is cs ws l) ?_
  exact loop l.length 0 [] (by omega) (fun _ => rfl)
theorem di_ok {Z : Glob} : FnS P Z 61 sDi := by
  refine fnS_of_safe Try.func61 (by kernel_rfl) (fun x => Nat.le_of_ble_eq_true (by kernel_rfl)) ?_
  rintro ⟨(l : List Int), (id : Int)⟩ ⟨(hl : l.length ≤ 10000000), _⟩ X hX hz
  have hns : ∀ x ∈ nsDi, (sDi.heap (l, id)).length ≤ x.2.m := by intro y hy; simp [nsDi] at hy; rcases hy with rfl | rfl | rfl | rfl <;> exact Nat.le_refl _
  have t1 : ∀ x : Int, x = id → (fun x => x == id) x = true := fun x h => by simpa using h
  have t0 : ∀ x : Int, ¬ x = id → (fun x => x == id) x = false := fun x h => by simpa using h

  have fin : ∀ r : List Int, r = delF (fun x => x == id) l → Safe P 61 X (EndS sDi (l, id)) (cDiE id r) := by
    intro r hr
    subst hr
    exact goS hz hX hns Tab.Ok.nil Try.func61 (endDi id _) (endS 2 (by kernel_rfl) (Nat.le_refl _) rfl rfl)
  have finF : ∀ r : List Int, r = delF (fun x => x == id) l → Safe P 61 X (EndS sDi (l, id)) (cDiF id r) := by
    intro r hr
    subst hr
    exact goS hz hX hns Tab.Ok.nil Try.func61 (endDiF id _) (endS 2 (by kernel_rfl) (Nat.le_refl _) rfl rfl)
  have loop2 : ∀ (n : Nat) (r : List Int) (i j : Nat), j + n = l.length → DInv (fun x => x == id) l r i j → Safe P 61 X (EndS sDi (l, id)) (cDi2 id r (i : Int) (j : Int)) := by
    intro n
    induction n with
    | zero =>
      intro r i j hj h
      have hlen := h.len
      have hij := h.ij
      refine goS hz hX hns Tab.Ok.nil Try.func61 (loopDi2 id r i j) ⟨fun h => absurd (of_decide_eq_true h) (by omega), fun _ => ?_⟩
      rw [Int.toNat_natCast, Int.toNat_natCast]
      refine ⟨by omega, by omega, by omega, by omega, by omega, ?_, ?_⟩
      · rw [over_length _ _ (by omega) (by simp)]; omega
      · refine cut_safe (t := 41) (id := 0) rfl rfl ?_
        have e2 : conSub (.ints .i64 (over r (0 + i) (r.length - i) (List.replicate (r.length - i) 0))) 0 (0 + (i - Int.toNat 0)) = .ints .i64 (delF (fun x => x == id) l) := by
          show Con.ints .i64 ((List.take (0 + (i - 0)) (over r (0 + i) (r.length - i) (List.replicate (r.length - i) 0))).drop 0) = _
          rw [List.drop_zero, Nat.zero_add, Nat.sub_zero, Nat.zero_add]
          unfold over
          rw [List.append_assoc, List.take_append_of_le_length (by rw [List.length_take]; omega), List.take_take, Nat.min_self, h.fin (by omega)]
        rw [e2]
        exact fin _ rfl
    | succ n ih =>
      intro r i j hj h
      have hlen := h.len
      have hij := h.ij
      have hlt : j < l.length := by omega
      refine goS hz hX hns Tab.Ok.nil Try.func61 (loopDi2 id r i j) ?_
      rw [Int.toNat_natCast, Int.toNat_natCast, getD_lt (show j < r.length by omega), h.at hlt]
      have skip := fun hp => ih r i (j + 1) (by omega) (h.skip hlt hp)
      have keep := fun hp => ih (r.set i l[j]) (i + 1) (j + 1) (by omega) (h.keep hlt hp)
      repeat' (with_reducible (first | refine h_eq ?_ | refine h_need ?_ ?_ | refine h_dec (fun _ => ?_) (fun _ => ?_) | refine h_beq (fun _ => ?_) (fun _ => ?_) | refine h_bne (fun _ => ?_) (fun _ => ?_) | refine h_tt ?_ | refine h_ff ?_ | refine h_not ?_ | refine h_ite (fun _ => ?_) (fun _ => ?_) | refine h_both (fun _ => ?_) (fun _ => ?_) | refine h_ret ?_ | refine h_at ?_))
      all_goals first | omega | exact ⟨by omega, by omega⟩ | exact skip (by assumption) | exact keep (by assumption) | exact skip (t1 _ (by assumption)) | exact keep (t0 _ (by assumption))
  have none_ : (∀ x ∈ l, (fun x => x == id) x = false) → Safe P 61 X (EndS sDi (l, id)) (⟨sl 42 [(13, .vec 0)], [.vec (.ints .i64 l) 3, .own [avI id] 3], cal Try.f61 3 1, kk 3⟩ : Cfg) := by
    intro h
    refine vec_cut_safe (t := 13) (id := 0) rfl rfl (c' := .ints .i64 l) ?_ ?_
    · show Con.ints .i64 ((List.take (0 + l.length) l).drop 0) = _
      rw [List.drop_zero, Nat.zero_add, List.take_length]
    · exact finF _ (delF_all h).symm
  have loop1 : ∀ (n i : Nat), i + n = l.length → (∀ k (hk : k < i) (h2 : k < l.length), (fun x => x == id) l[k] = false) → Safe P 61 X (EndS sDi (l, id)) (cDi1 id l (i : Int)) := by
    intro n
    induction n with
    | zero =>
      intro i hi hb
      refine goS hz hX hns Tab.Ok.nil Try.func61 (loopDi1 id l i) ⟨fun h => absurd (of_decide_eq_true h) (by omega), fun _ => ?_⟩
      refine none_ fun x hx => ?_
      obtain ⟨k, hk, rfl⟩ := List.mem_iff_getElem.1 hx
      exact hb k (by omega) hk
    | succ n ih =>
      intro i hi hb
      have hlt : i < l.length := by omega
      refine goS hz hX hns Tab.Ok.nil Try.func61 (loopDi1 id l i) ?_
      rw [Int.toNat_natCast, getD_lt hlt]
      have next := fun h : (fun x => x == id) l[i] = false => ih (i + 1) (by omega) fun k h1 h2 => by
        by_cases e : k = i
        · subst e; exact h
        · exact hb k (by omega) h2
      have hit := fun h : (fun x => x == id) l[i] = true => loop2 (l.length - (i + 1)) l i (i + 1) (by omega) (DInv.start hlt h fun k hk => hb k hk (by omega))
      repeat' (with_reducible (first | refine h_eq ?_ | refine h_need ?_ ?_ | refine h_dec (fun _ => ?_) (fun _ => ?_) | refine h_beq (fun _ => ?_) (fun _ => ?_) | refine h_bne (fun _ => ?_) (fun _ => ?_) | refine h_tt ?_ | refine h_ff ?_ | refine h_not ?_ | refine h_ite (fun _ => ?_) (fun _ => ?_) | refine h_both (fun _ => ?_) (fun _ => ?_) | refine h_ret ?_ | refine h_at ?_))
      all_goals first | omega | exact ⟨by omega, by omega⟩ | exact next (by assumption) | exact hit (by assumption) | exact hit (t1 _ (by assumption)) | exact next (t0 _ (by assumption))
  exact goS hz hX hns Tab.Ok.nil Try.func61 (trDi l id) (loop1 l.length 0 (by omega) fun k hk => absurd hk (Nat.not_lt_zero _))

theorem tabTa_ok {Z : Glob} : tabTa.Ok P Z := Tab.Ok.cons find_ok.sum (Tab.Ok.cons below_ok.sum (Tab.Ok.cons without_ok.sumR Tab.Ok.nil))
theorem tabCl_ok {Z : Glob} : tabCl.Ok P Z := Tab.Ok.cons find_ok.sum (Tab.Ok.cons below_ok.sum (Tab.Ok.cons (di_ok.sum mDi) (Tab.Ok.cons without_ok.sumR Tab.Ok.nil)))
theorem below_le (es : Es) (id : Int) : (belowF es id).length ≤ es.length := by
  have h : (belowF es id).length ≤ (es.map (·.1)).length := nodup_len (rises_nodup (below_lt es id)) fun x hx => by
    obtain ⟨h1, h2⟩ := mem_below.1 hx
    have key : ∀ a b : Int, Reach es a b → b ∈ es.map (·.1) := fun a b h => by
      cases h with
      | kid h => exact List.mem_map.2 ⟨_, (mem_kids.1 h).1, rfl⟩
      | more _ h => exact List.mem_map.2 ⟨_, (mem_kids.1 h).1, rfl⟩
    exact key _ _ h2
  simpa using h
theorem wo_nil (ck nx : Int) (ps : Ps) (is : Is) (cs : Cs) (ws : Ws) : wo ck nx ps is cs ws [] [] = eff ck nx ps is cs ws := by
  show ((ck, nx, ps, delF (pIt []) is, delF (pDr []) cs, delF (pWa []) ws, ()), ()) = _
  rw [delF_all (p := pIt []) fun _ _ => rfl, delF_all (p := pDr []) fun _ _ => rfl, delF_all (p := pWa []) fun _ _ => rfl]
theorem take_ok {Z : Glob} : FnOk P Z 25 [tSt, tInt] [tSr] (fun (s, _, ()) => preS (s, ())) (fun ((ck, nx, ps, is, cs, ws, ()), id, ()) => wo ck nx ps is cs ws (takeL is id) (takeL is id)) := by
  refine fnOk_of_safe Try.func25 (by kernel_rfl) (by kernel_rfl) ?_
  rintro ⟨⟨(ck : Int), (nx : Int), (ps : Ps), (is : Is), (cs : Cs), (ws : Ws), ⟨⟩⟩, (id : Int), ⟨⟩⟩ _ ⟨(hi : is.length ≤ 1000000), (hc : cs.length ≤ 1000000), (hw : ws.length ≤ 1000000), _⟩ X hX hz
  show Safe P 25 X (Ends [tSr] (wo ck nx ps is cs ws (takeL is id) (takeL is id))) _
  refine go hz hX tabTa_ok Try.func25 (trTa ck nx ps is cs ws id) ?_
  have hb := below_le (esOf is) id
  have hb2 : (esOf is).length = is.length := List.length_map _
  unfold takeL
  cases hasI is id with
  | false =>
    rw [if_neg (by simp), wo_nil]
    refine ⟨fun _ => ends_eq _ rfl (by kernel_rfl), fun h => absurd h (by simp)⟩
  | true =>
    rw [if_pos rfl]
    refine ⟨fun h => absurd h (by simp), fun _ => ⟨by omega, by omega, ?_⟩⟩
    have : (belowF (esOf is) id ++ [id]).length ≤ 2000000 := by simp; omega
    generalize belowF (esOf is) id ++ [id] = q at *
    first | exact ends_eq _ rfl (by kernel_rfl) | exact ⟨this, hi, hc, hw, ends_eq _ rfl (by kernel_rfl)⟩
theorem clear_ok {Z : Glob} : FnOk P Z 34 [tSt, tInt] [tSr] (fun (s, _, ()) => preS (s, ())) (fun ((ck, nx, ps, is, cs, ws, ()), id, ()) => wo ck nx ps is cs ws (clearL is id) (clearL is id)) := by
  refine fnOk_of_safe Try.func34 (by kernel_rfl) (by kernel_rfl) ?_
  rintro ⟨⟨(ck : Int), (nx : Int), (ps : Ps), (is : Is), (cs : Cs), (ws : Ws), ⟨⟩⟩, (id : Int), ⟨⟩⟩ _ ⟨(hi : is.length ≤ 1000000), (hc : cs.length ≤ 1000000), (hw : ws.length ≤ 1000000), _⟩ X hX hz
  show Safe P 34 X (Ends [tSr] (wo ck nx ps is cs ws (clearL is id) (clearL is id))) _
  refine go hz hX tabCl_ok Try.func34 (trCl ck nx ps is cs ws id) ?_
  have hb := below_le (esOf is) id
  have hb2 : (esOf is).length = is.length := List.length_map _
  unfold clearL
  cases hasI is id with
  | false =>
    rw [if_neg (by simp), wo_nil]
    refine ⟨fun _ => ends_eq _ rfl (by kernel_rfl), fun h => absurd h (by simp)⟩
  | true =>
    rw [if_pos rfl]
    have h4 := delF_len (fun x => x == id) (belowF (esOf is) id)
    refine ⟨fun h => absurd h (by simp), fun _ => ⟨hi, rfl, rfl, by omega, ?_⟩⟩
    have : (delF (fun x => x == id) (belowF (esOf is) id)).length ≤ 2000000 := by omega
    generalize delF (fun x => x == id) (belowF (esOf is) id) = q at *
    first | exact ends_eq _ rfl (by kernel_rfl) | exact ⟨this, hi, hc, hw, ends_eq _ rfl (by kernel_rfl)⟩
theorem tabBr_ok {Z : Glob} : tabBr.Ok P Z := Tab.Ok.cons find_ok.sum (Tab.Ok.cons clear_ok.sumR (Tab.Ok.cons (unw_ok.sum mUw) Tab.Ok.nil))
theorem delF_app {α : Type} (p q r : α → Bool) (h : ∀ x, r x = (p x || q x)) (l : List α) : delF q (delF p l) = delF r l := by
  unfold delF
  rw [List.filter_filter]
  congr 1
  funext x
  rw [h x]
  cases p x <;> cases q x <;> rfl
theorem break_ok {Z : Glob} : FnOk P Z 36 [tSt, tInt] [tSr] (fun (s, _, ()) => preS (s, ())) (fun ((ck, nx, ps, is, cs, ws, ()), id, ()) => wo ck nx ps is cs ws (clearL is id) (breakL is id)) := by
  refine fnOk_of_safe Try.func36 (by kernel_rfl) (by kernel_rfl) ?_
  rintro ⟨⟨(ck : Int), (nx : Int), (ps : Ps), (is : Is), (cs : Cs), (ws : Ws), ⟨⟩⟩, (id : Int), ⟨⟩⟩ _ ⟨(hi : is.length ≤ 1000000), (hc : cs.length ≤ 1000000), (hw : ws.length ≤ 1000000), _⟩ X hX hz
  show Safe P 36 X (Ends [tSr] (wo ck nx ps is cs ws (clearL is id) (breakL is id))) _
  refine go hz hX tabBr_ok Try.func36 (trBr ck nx ps is cs ws id) ?_
  have e : delF (pUw (mput [] id 1)) (delF (pWa (clearL is id)) ws) = delF (pWa (clearL is id ++ [id])) ws := by
    refine delF_app _ _ _ (fun x => ?_) ws
    show List.contains (clearL is id ++ [id]) (wT x) = ((clearL is id).contains (wT x) || decide (cnt (mput [] id 1) (wT x) > 0))
    rw [cnts_in (cnts_one id) (wT x)]
    simp only [List.contains_eq_mem, List.mem_append, Bool.decide_or]
  rw [e]
  have hd := delF_len (pWa (clearL is id)) ws
  cases hh : hasI is id with
  | false =>
    have e1 : clearL is id = [] := by unfold clearL; rw [hh]; rfl
    have e2 : breakL is id = [] := by unfold breakL; rw [hh]; rfl
    rw [e1, e2, wo_nil]
    refine ⟨fun _ => ends_eq _ rfl (by kernel_rfl), fun h => absurd h (by simp)⟩
  | true =>
    have e2 : breakL is id = clearL is id ++ [id] := by unfold breakL; rw [hh]; rfl
    rw [e2]
    generalize clearL is id = q at *
    refine ⟨fun h => absurd h (by simp), fun _ => ⟨hi, hc, hw, rfl, rfl, by omega, ends_eq _ rfl (by kernel_rfl)⟩⟩
def goneF (is is' : Is) : List Int := setS ((is.map fun x : CL cI => iI x).filter fun x => !hasI is' x)
theorem tabGo_ok {Z : Glob} : tabGo.Ok P Z := Tab.Ok.cons find_ok.sum (Tab.Ok.cons (sort_ok.sum mSort) (Tab.Ok.cons (compact_ok.sum mSort) Tab.Ok.nil))
theorem gone_ok {Z : Glob} : FnOk P Z 27 [tSt, tSt] [tNs] (fun ((_, _, _, is, _, _, ()), _, ()) => [(is : Is).length ≤ 1000000]) (fun ((_, _, _, is, _, _, ()), (_, _, _, is', _, _, ()), ()) => (goneF is is', ())) := by
  refine fnOk_of_safe Try.func27 (by kernel_rfl) (by kernel_rfl) ?_
  rintro ⟨⟨(ck : Int), (nx : Int), (ps : Ps), (is : Is), (cs : Cs), (ws : Ws), ⟨⟩⟩, ⟨(ck' : Int), (nx' : Int), (ps' : Ps), (is' : Is), (cs' : Cs), (ws' : Ws), ⟨⟩⟩, ⟨⟩⟩ _ ⟨(hi : is.length ≤ 1000000), _⟩ X hX hz
  show Safe P 27 X (Ends [tNs] (goneF is is', ())) _
  have loop : ∀ (j k : Nat) (acc : List Int), k + j = is.length → acc.length ≤ k → acc = ((is.take k).map fun x : CL cI => iI x).filter (fun x => !hasI is' x) → Safe P 27 X (Ends [tNs] (goneF is is', ())) (cGo is ck' nx' ps' is' cs' ws' acc (k : Int)) := by
    intro j
    induction j with
    | zero =>
      intro k acc hk ha he
      rw [List.take_of_length_le (by omega)] at he
      refine go hz hX tabGo_ok Try.func27 (loopGo is ck' nx' ps' is' cs' ws' acc k) ⟨fun h => absurd (of_decide_eq_true h) (by omega), fun _ => ⟨rfl, rfl, by omega, rfl, rfl, by rw [srtZ_len]; omega, ?_⟩⟩
      rw [srt_set, he]
      exact ends_eq _ rfl (by kernel_rfl)
    | succ j ih =>
      intro k acc hk ha he
      have hlt : k < is.length := by omega
      refine go hz hX tabGo_ok Try.func27 (loopGo is ck' nx' ps' is' cs' ws' acc k) ?_
      rw [el_lt hlt]
      have st : ((is.take (k + 1)).map fun x : CL cI => iI x).filter (fun x => !hasI is' x) = acc ++ (if hasI is' (iI is[k]) = true then [] else [iI is[k]]) := by
        rw [List.take_add_one, List.getElem?_eq_getElem hlt, List.map_append, List.filter_append, he]
        congr 1
        cases h : hasI is' (iI is[k]) <;> simp [h]
      have yes : hasI is' (iI is[k]) = false → Safe P 27 X (Ends [tNs] (goneF is is', ())) (cGo is ck' nx' ps' is' cs' ws' (acc ++ [iI is[k]]) ((k : Int) + 1)) := fun h => ih (k + 1) _ (by omega) (by simp; omega) (by rw [st, h]; rfl)
      have no : hasI is' (iI is[k]) = true → Safe P 27 X (Ends [tNs] (goneF is is', ())) (cGo is ck' nx' ps' is' cs' ws' acc ((k : Int) + 1)) := fun h => ih (k + 1) _ (by omega) (by omega) (by rw [st, h]; simp)
      repeat' (with_reducible (first | refine h_eq ?_ | refine h_need ?_ ?_ | refine h_dec (fun _ => ?_) (fun _ => ?_) | refine h_beq (fun _ => ?_) (fun _ => ?_) | refine h_bne (fun _ => ?_) (fun _ => ?_) | refine h_tt ?_ | refine h_ff ?_ | refine h_not ?_ | refine h_ite (fun _ => ?_) (fun _ => ?_) | refine h_both (fun _ => ?_) (fun _ => ?_) | refine h_ret ?_ | refine h_at ?_))
      all_goals first | omega | exact ⟨by omega, by omega⟩ | exact yes (by assumption) | exact no (by assumption) | skip
  refine go hz hX tabGo_ok Try.func27 (trGo ck nx ps is cs ws ck' nx' ps' is' cs' ws') ?_
  exact loop is.length 0 [] (by omega) (by simp) (by simp)
end Ds

namespace Ds
open Go Go.Sx Go.Proofs Lf
abbrev vN (x : CL cV) : ByteArray := x.1
abbrev vK (x : CL cV) : Int := x.2.1
abbrev vI (x : CL cV) : Int := x.2.2.1
abbrev vT (x : CL cV) : ByteArray := x.2.2.2.1
abbrev nN (x : CL cN) : ByteArray := x.1
abbrev nK (x : CL cN) : Int := x.2.1
abbrev nI (x : CL cN) : Int := x.2.2.1
abbrev nO (x : CL cN) : Int := x.2.2.2.1
abbrev nE (x : CL cN) : Int := x.2.2.2.2.1
abbrev nY (x : CL cN) : ByteArray := x.2.2.2.2.2.1
abbrev nT (x : CL cN) : ByteArray := x.2.2.2.2.2.2.1
abbrev nS (x : CL cN) : ByteArray := x.2.2.2.2.2.2.2.1
abbrev nB (x : CL cN) : Bool := x.2.2.2.2.2.2.2.2.1
abbrev nV (x : CL cN) : List (CL cV) := x.2.2.2.2.2.2.2.2.2.1
abbrev nZ (x : CL cN) : List ByteArray := x.2.2.2.2.2.2.2.2.2.2.1
abbrev fA (x : CL cF) : Int := x.1
abbrev fB (x : CL cF) : Int := x.2.1
abbrev fC (x : CL cF) : ByteArray := x.2.2.1
abbrev fD (x : CL cF) : Bool := x.2.2.2.1
abbrev pN (x : CL cP) : ByteArray := x.1
abbrev pV (x : CL cP) : List (CL cV) := x.2.1
abbrev pO (x : CL cP) : List (CL cN) := x.2.2.1
abbrev pF (x : CL cP) : List (CL cF) := x.2.2.2.1
abbrev eV : TypeId := 114
abbrev eN : TypeId := 37
abbrev eF : TypeId := 119
abbrev tVs : Ty := .b (.row (.typ cV) eV)
abbrev tTx : Ty := .b (.row .strs 9)
abbrev tPr : Ty := .st [.str, .row (.typ cV) eV, .row (.typ cN) eN, .row (.typ cF) eF]
abbrev avVs (l : List (CL cV)) : AV := .s (.ro (.typ cV l))
abbrev avTx (l : List ByteArray) : AV := .s (.ro (.strs l))
abbrev avPr (a : ByteArray) (vs : List (CL cV)) (ns : List (CL cN)) (fs : List (CL cF)) : AV := .agg [.s (.str a), .s (.ro (.typ cV vs)), .s (.ro (.typ cN ns)), .s (.ro (.typ cF fs))]
abbrev obPr (a : ByteArray) (vs : List (CL cV)) (ns : List (CL cN)) (fs : List (CL cF)) : AObj := .own [.s (.str a), .s (.ro (.typ cV vs)), .s (.ro (.typ cN ns)), .s (.ro (.typ cF fs))] eP
def StEq (ck nx : Int) (ps : Ps) (is : Is) (cs : Cs) (ws : Ws) (ck' nx' : Int) (ps' : Ps) (is' : Is) (cs' : Cs) (ws' : Ws) : Prop := ck = ck' ∧ nx = nx' ∧ ps = ps' ∧ is = is' ∧ cs = cs' ∧ ws = ws'
abbrev preSa : AL [tSt, tSt] → List Prop := fun ((ck, nx, ps, is, cs, ws, ()), (ck', nx', ps', is', cs', ws', ()), ()) => [StEq ck nx ps is cs ws ck' nx' ps' is' cs' ws']
/-! the same, of the same -/
def nsVs : List (Nat × Norm) := [(4, ⟨[], [0, 1, 5], 0, []⟩)]
theorem trVs (l : List (CL cV)) : run P tab0.sum Try.f86 nsVs (start Try.f86 [avVs l, avVs l] []) =
  Tree.ite ((↑l.length : Int) != (↑l.length : Int)) (Tree.ret [] (AV.s (SV.blit false))) (Tree.at (Cfg.mk (sl (26 : Nat) [((0 : Nat), AV.s (SV.ro (Con.typ cV l))), ((1 : Nat), AV.s (SV.ro (Con.typ cV l))), ((5 : Nat), AV.s (SV.int IntKind.i64 (0 : Int)))]) [] (hd Try.f86 (4 : Nat)) (Stk.mk none false (0 : Nat) [] (0 : Nat)))) := by kernel_rfl
noncomputable def cVs (l : List (CL cV)) (i : Int) : Cfg := ⟨sl 26 [(0, avVs l), (1, avVs l), (5, avI i)], [], hd Try.f86 4, {}⟩
theorem loopVs (l : List (CL cV)) (i : Int) : run P tab0.sum Try.f86 nsVs (cVs l i) =
  Tree.ite (decide (i < (↑l.length : Int))) (Tree.need ((0 : Int) ≤ i) (Tree.need (i < (↑l.length : Int)) (Tree.need ((0 : Int) ≤ i) (Tree.need (i < (↑l.length : Int)) (Tree.ite (!(decide (vN (el l i) = vN (el l i)) && (vK (el l i) == vK (el l i) && (vI (el l i) == vI (el l i) && (decide (vT (el l i) = vT (el l i)) && true)) && true))) (Tree.ret [] (AV.s (SV.blit false))) (Tree.need (inI64 (i + (1 : Int))) (Tree.at (Cfg.mk (sl (26 : Nat) [((0 : Nat), AV.s (SV.ro (Con.typ cV l))), ((1 : Nat), AV.s (SV.ro (Con.typ cV l))), ((5 : Nat), AV.s (SV.int IntKind.i64 (i + (1 : Int))))]) [] (hd Try.f86 (4 : Nat)) (Stk.mk none false (0 : Nat) [] (0 : Nat)))))))))) (Tree.ret [] (AV.s (SV.blit true))) := by kernel_rfl
theorem trTx (l : List ByteArray) : run P tab0.sum Try.f87 nsVs (start Try.f87 [avTx l, avTx l] []) =
  Tree.ite ((↑l.length : Int) != (↑l.length : Int)) (Tree.ret [] (AV.s (SV.blit false))) (Tree.at (Cfg.mk (sl (26 : Nat) [((0 : Nat), AV.s (SV.ro (Con.strs l))), ((1 : Nat), AV.s (SV.ro (Con.strs l))), ((5 : Nat), AV.s (SV.int IntKind.i64 (0 : Int)))]) [] (hd Try.f87 (4 : Nat)) (Stk.mk none false (0 : Nat) [] (0 : Nat)))) := by kernel_rfl
noncomputable def cTx (l : List ByteArray) (i : Int) : Cfg := ⟨sl 26 [(0, avTx l), (1, avTx l), (5, avI i)], [], hd Try.f87 4, {}⟩
theorem loopTx (l : List ByteArray) (i : Int) : run P tab0.sum Try.f87 nsVs (cTx l i) =
  Tree.ite (decide (i < (↑l.length : Int))) (Tree.need ((0 : Int) ≤ i) (Tree.need (i < (↑l.length : Int)) (Tree.need ((0 : Int) ≤ i) (Tree.need (i < (↑l.length : Int)) (Tree.ite (!decide (l.getD i.toNat ByteArray.empty = l.getD i.toNat ByteArray.empty)) (Tree.ret [] (AV.s (SV.blit false))) (Tree.need (inI64 (i + (1 : Int))) (Tree.at (Cfg.mk (sl (26 : Nat) [((0 : Nat), AV.s (SV.ro (Con.strs l))), ((1 : Nat), AV.s (SV.ro (Con.strs l))), ((5 : Nat), AV.s (SV.int IntKind.i64 (i + (1 : Int))))]) [] (hd Try.f87 (4 : Nat)) (Stk.mk none false (0 : Nat) [] (0 : Nat)))))))))) (Tree.ret [] (AV.s (SV.blit true))) := by kernel_rfl
abbrev sumVs := sumOf [tVs, tVs] [tBool] (fun (a, b, ()) => [(a : List (CL cV)) = b]) (fun _ => (true, ()))
abbrev sumTx := sumOf [tTx, tTx] [tBool] (fun (a, b, ()) => [(a : List ByteArray) = b]) (fun _ => (true, ()))
def tabPr : Tab := [(86, sumVs), (87, sumTx)]
def nsPr : List (Nat × Norm) := [(4, ⟨[], [2, 3, 5], 0, []⟩), (10, ⟨[], [2, 3, 8], 0, []⟩)]
theorem trPr (a : ByteArray) (vs : List (CL cV)) (ns : List (CL cN)) (fs : List (CL cF)) : run P tabPr.sum Try.f58 nsPr (start Try.f58 [avPr a vs ns fs, avPr a vs ns fs] []) =
  Tree.ite (!decide (a = a)) (Tree.ret [AObj.own [AV.s (SV.str a), AV.s (SV.ro (Con.typ cV vs)), AV.s (SV.ro (Con.typ cN ns)), AV.s (SV.ro (Con.typ cF fs))] (34 : Nat), AObj.own [AV.s (SV.str a), AV.s (SV.ro (Con.typ cV vs)), AV.s (SV.ro (Con.typ cN ns)), AV.s (SV.ro (Con.typ cF fs))] (34 : Nat)] (AV.s (SV.blit false))) (Tree.need (vs = vs) (Tree.ite false (Tree.ret [AObj.own [AV.s (SV.str a), AV.s (SV.ro (Con.typ cV vs)), AV.s (SV.ro (Con.typ cN ns)), AV.s (SV.ro (Con.typ cF fs))] (34 : Nat), AObj.own [AV.s (SV.str a), AV.s (SV.ro (Con.typ cV vs)), AV.s (SV.ro (Con.typ cN ns)), AV.s (SV.ro (Con.typ cF fs))] (34 : Nat)] (AV.s (SV.blit false))) (Tree.ite ((↑ns.length : Int) != (↑ns.length : Int)) (Tree.ret [AObj.own [AV.s (SV.str a), AV.s (SV.ro (Con.typ cV vs)), AV.s (SV.ro (Con.typ cN ns)), AV.s (SV.ro (Con.typ cF fs))] (34 : Nat), AObj.own [AV.s (SV.str a), AV.s (SV.ro (Con.typ cV vs)), AV.s (SV.ro (Con.typ cN ns)), AV.s (SV.ro (Con.typ cF fs))] (34 : Nat)] (AV.s (SV.blit false))) (Tree.ite ((↑fs.length : Int) != (↑fs.length : Int)) (Tree.ret [AObj.own [AV.s (SV.str a), AV.s (SV.ro (Con.typ cV vs)), AV.s (SV.ro (Con.typ cN ns)), AV.s (SV.ro (Con.typ cF fs))] (34 : Nat), AObj.own [AV.s (SV.str a), AV.s (SV.ro (Con.typ cV vs)), AV.s (SV.ro (Con.typ cN ns)), AV.s (SV.ro (Con.typ cF fs))] (34 : Nat)] (AV.s (SV.blit false))) (Tree.at (Cfg.mk (sl (152 : Nat) [((2 : Nat), AV.ptr (0 : Nat) (0 : Nat)), ((3 : Nat), AV.ptr (1 : Nat) (0 : Nat)), ((5 : Nat), AV.s (SV.int IntKind.i64 (0 : Int)))]) [AObj.own [AV.s (SV.str a), AV.s (SV.ro (Con.typ cV vs)), AV.s (SV.ro (Con.typ cN ns)), AV.s (SV.ro (Con.typ cF fs))] (34 : Nat), AObj.own [AV.s (SV.str a), AV.s (SV.ro (Con.typ cV vs)), AV.s (SV.ro (Con.typ cN ns)), AV.s (SV.ro (Con.typ cF fs))] (34 : Nat)] (hd Try.f58 (4 : Nat)) (Stk.mk none false (0 : Nat) [] (0 : Nat)))))))) := by kernel_rfl
noncomputable def cPr (a : ByteArray) (vs : List (CL cV)) (ns : List (CL cN)) (fs : List (CL cF)) (i : Int) : Cfg := ⟨sl 152 [(2, .ptr 0 0), (3, .ptr 1 0), (5, avI i)], [obPr a vs ns fs, obPr a vs ns fs], hd Try.f58 4, {}⟩
theorem loopPr (a : ByteArray) (vs : List (CL cV)) (ns : List (CL cN)) (fs : List (CL cF)) (i : Int) : run P tabPr.sum Try.f58 nsPr (cPr a vs ns fs i) =
  Tree.ite (decide (i < (↑ns.length : Int)))
  (Tree.need ((0 : Int) ≤ i)
    (Tree.need (i < (↑ns.length : Int))
      (Tree.need ((0 : Int) ≤ i)
        (Tree.need (i < (↑ns.length : Int))
          (Tree.ite (!decide (nN (el ns i) = nN (el ns i))) (Tree.ret [AObj.own [AV.s (SV.str a), AV.s (SV.ro (Con.typ cV vs)), AV.s (SV.ro (Con.typ cN ns)), AV.s (SV.ro (Con.typ cF fs))] (34 : Nat), AObj.own [AV.s (SV.str a), AV.s (SV.ro (Con.typ cV vs)), AV.s (SV.ro (Con.typ cN ns)), AV.s (SV.ro (Con.typ cF fs))] (34 : Nat), AObj.own [AV.s (SV.str (nN (el ns i))), AV.s (SV.int IntKind.u8 (nK (el ns i))), AV.s (SV.int IntKind.i64 (nI (el ns i))), AV.s (SV.int IntKind.i64 (nO (el ns i))), AV.s (SV.int IntKind.u8 (nE (el ns i))), AV.s (SV.str (nY (el ns i))), AV.s (SV.str (nT (el ns i))), AV.s (SV.str (nS (el ns i))), AV.s (SV.bool (nB (el ns i))), AV.s (SV.ro (Con.typ cV (nV (el ns i)))), AV.s (SV.ro (Con.strs (nZ (el ns i))))] (37 : Nat), AObj.own [AV.s (SV.str (nN (el ns i))), AV.s (SV.int IntKind.u8 (nK (el ns i))), AV.s (SV.int IntKind.i64 (nI (el ns i))), AV.s (SV.int IntKind.i64 (nO (el ns i))), AV.s (SV.int IntKind.u8 (nE (el ns i))), AV.s (SV.str (nY (el ns i))), AV.s (SV.str (nT (el ns i))), AV.s (SV.str (nS (el ns i))), AV.s (SV.bool (nB (el ns i))), AV.s (SV.ro (Con.typ cV (nV (el ns i)))), AV.s (SV.ro (Con.strs (nZ (el ns i))))] (37 : Nat)] (AV.s (SV.blit false)))
            (Tree.ite (nK (el ns i) != nK (el ns i)) (Tree.ret [AObj.own [AV.s (SV.str a), AV.s (SV.ro (Con.typ cV vs)), AV.s (SV.ro (Con.typ cN ns)), AV.s (SV.ro (Con.typ cF fs))] (34 : Nat), AObj.own [AV.s (SV.str a), AV.s (SV.ro (Con.typ cV vs)), AV.s (SV.ro (Con.typ cN ns)), AV.s (SV.ro (Con.typ cF fs))] (34 : Nat), AObj.own [AV.s (SV.str (nN (el ns i))), AV.s (SV.int IntKind.u8 (nK (el ns i))), AV.s (SV.int IntKind.i64 (nI (el ns i))), AV.s (SV.int IntKind.i64 (nO (el ns i))), AV.s (SV.int IntKind.u8 (nE (el ns i))), AV.s (SV.str (nY (el ns i))), AV.s (SV.str (nT (el ns i))), AV.s (SV.str (nS (el ns i))), AV.s (SV.bool (nB (el ns i))), AV.s (SV.ro (Con.typ cV (nV (el ns i)))), AV.s (SV.ro (Con.strs (nZ (el ns i))))] (37 : Nat), AObj.own [AV.s (SV.str (nN (el ns i))), AV.s (SV.int IntKind.u8 (nK (el ns i))), AV.s (SV.int IntKind.i64 (nI (el ns i))), AV.s (SV.int IntKind.i64 (nO (el ns i))), AV.s (SV.int IntKind.u8 (nE (el ns i))), AV.s (SV.str (nY (el ns i))), AV.s (SV.str (nT (el ns i))), AV.s (SV.str (nS (el ns i))), AV.s (SV.bool (nB (el ns i))), AV.s (SV.ro (Con.typ cV (nV (el ns i)))), AV.s (SV.ro (Con.strs (nZ (el ns i))))] (37 : Nat)] (AV.s (SV.blit false)))
              (Tree.ite (nI (el ns i) != nI (el ns i)) (Tree.ret [AObj.own [AV.s (SV.str a), AV.s (SV.ro (Con.typ cV vs)), AV.s (SV.ro (Con.typ cN ns)), AV.s (SV.ro (Con.typ cF fs))] (34 : Nat), AObj.own [AV.s (SV.str a), AV.s (SV.ro (Con.typ cV vs)), AV.s (SV.ro (Con.typ cN ns)), AV.s (SV.ro (Con.typ cF fs))] (34 : Nat), AObj.own [AV.s (SV.str (nN (el ns i))), AV.s (SV.int IntKind.u8 (nK (el ns i))), AV.s (SV.int IntKind.i64 (nI (el ns i))), AV.s (SV.int IntKind.i64 (nO (el ns i))), AV.s (SV.int IntKind.u8 (nE (el ns i))), AV.s (SV.str (nY (el ns i))), AV.s (SV.str (nT (el ns i))), AV.s (SV.str (nS (el ns i))), AV.s (SV.bool (nB (el ns i))), AV.s (SV.ro (Con.typ cV (nV (el ns i)))), AV.s (SV.ro (Con.strs (nZ (el ns i))))] (37 : Nat), AObj.own [AV.s (SV.str (nN (el ns i))), AV.s (SV.int IntKind.u8 (nK (el ns i))), AV.s (SV.int IntKind.i64 (nI (el ns i))), AV.s (SV.int IntKind.i64 (nO (el ns i))), AV.s (SV.int IntKind.u8 (nE (el ns i))), AV.s (SV.str (nY (el ns i))), AV.s (SV.str (nT (el ns i))), AV.s (SV.str (nS (el ns i))), AV.s (SV.bool (nB (el ns i))), AV.s (SV.ro (Con.typ cV (nV (el ns i)))), AV.s (SV.ro (Con.strs (nZ (el ns i))))] (37 : Nat)] (AV.s (SV.blit false)))
                (Tree.ite (nO (el ns i) != nO (el ns i)) (Tree.ret [AObj.own [AV.s (SV.str a), AV.s (SV.ro (Con.typ cV vs)), AV.s (SV.ro (Con.typ cN ns)), AV.s (SV.ro (Con.typ cF fs))] (34 : Nat), AObj.own [AV.s (SV.str a), AV.s (SV.ro (Con.typ cV vs)), AV.s (SV.ro (Con.typ cN ns)), AV.s (SV.ro (Con.typ cF fs))] (34 : Nat), AObj.own [AV.s (SV.str (nN (el ns i))), AV.s (SV.int IntKind.u8 (nK (el ns i))), AV.s (SV.int IntKind.i64 (nI (el ns i))), AV.s (SV.int IntKind.i64 (nO (el ns i))), AV.s (SV.int IntKind.u8 (nE (el ns i))), AV.s (SV.str (nY (el ns i))), AV.s (SV.str (nT (el ns i))), AV.s (SV.str (nS (el ns i))), AV.s (SV.bool (nB (el ns i))), AV.s (SV.ro (Con.typ cV (nV (el ns i)))), AV.s (SV.ro (Con.strs (nZ (el ns i))))] (37 : Nat), AObj.own [AV.s (SV.str (nN (el ns i))), AV.s (SV.int IntKind.u8 (nK (el ns i))), AV.s (SV.int IntKind.i64 (nI (el ns i))), AV.s (SV.int IntKind.i64 (nO (el ns i))), AV.s (SV.int IntKind.u8 (nE (el ns i))), AV.s (SV.str (nY (el ns i))), AV.s (SV.str (nT (el ns i))), AV.s (SV.str (nS (el ns i))), AV.s (SV.bool (nB (el ns i))), AV.s (SV.ro (Con.typ cV (nV (el ns i)))), AV.s (SV.ro (Con.strs (nZ (el ns i))))] (37 : Nat)] (AV.s (SV.blit false)))
                  (Tree.ite (nE (el ns i) != nE (el ns i)) (Tree.ret [AObj.own [AV.s (SV.str a), AV.s (SV.ro (Con.typ cV vs)), AV.s (SV.ro (Con.typ cN ns)), AV.s (SV.ro (Con.typ cF fs))] (34 : Nat), AObj.own [AV.s (SV.str a), AV.s (SV.ro (Con.typ cV vs)), AV.s (SV.ro (Con.typ cN ns)), AV.s (SV.ro (Con.typ cF fs))] (34 : Nat), AObj.own [AV.s (SV.str (nN (el ns i))), AV.s (SV.int IntKind.u8 (nK (el ns i))), AV.s (SV.int IntKind.i64 (nI (el ns i))), AV.s (SV.int IntKind.i64 (nO (el ns i))), AV.s (SV.int IntKind.u8 (nE (el ns i))), AV.s (SV.str (nY (el ns i))), AV.s (SV.str (nT (el ns i))), AV.s (SV.str (nS (el ns i))), AV.s (SV.bool (nB (el ns i))), AV.s (SV.ro (Con.typ cV (nV (el ns i)))), AV.s (SV.ro (Con.strs (nZ (el ns i))))] (37 : Nat), AObj.own [AV.s (SV.str (nN (el ns i))), AV.s (SV.int IntKind.u8 (nK (el ns i))), AV.s (SV.int IntKind.i64 (nI (el ns i))), AV.s (SV.int IntKind.i64 (nO (el ns i))), AV.s (SV.int IntKind.u8 (nE (el ns i))), AV.s (SV.str (nY (el ns i))), AV.s (SV.str (nT (el ns i))), AV.s (SV.str (nS (el ns i))), AV.s (SV.bool (nB (el ns i))), AV.s (SV.ro (Con.typ cV (nV (el ns i)))), AV.s (SV.ro (Con.strs (nZ (el ns i))))] (37 : Nat)] (AV.s (SV.blit false)))
                    (Tree.ite (!decide (nY (el ns i) = nY (el ns i))) (Tree.ret [AObj.own [AV.s (SV.str a), AV.s (SV.ro (Con.typ cV vs)), AV.s (SV.ro (Con.typ cN ns)), AV.s (SV.ro (Con.typ cF fs))] (34 : Nat), AObj.own [AV.s (SV.str a), AV.s (SV.ro (Con.typ cV vs)), AV.s (SV.ro (Con.typ cN ns)), AV.s (SV.ro (Con.typ cF fs))] (34 : Nat), AObj.own [AV.s (SV.str (nN (el ns i))), AV.s (SV.int IntKind.u8 (nK (el ns i))), AV.s (SV.int IntKind.i64 (nI (el ns i))), AV.s (SV.int IntKind.i64 (nO (el ns i))), AV.s (SV.int IntKind.u8 (nE (el ns i))), AV.s (SV.str (nY (el ns i))), AV.s (SV.str (nT (el ns i))), AV.s (SV.str (nS (el ns i))), AV.s (SV.bool (nB (el ns i))), AV.s (SV.ro (Con.typ cV (nV (el ns i)))), AV.s (SV.ro (Con.strs (nZ (el ns i))))] (37 : Nat), AObj.own [AV.s (SV.str (nN (el ns i))), AV.s (SV.int IntKind.u8 (nK (el ns i))), AV.s (SV.int IntKind.i64 (nI (el ns i))), AV.s (SV.int IntKind.i64 (nO (el ns i))), AV.s (SV.int IntKind.u8 (nE (el ns i))), AV.s (SV.str (nY (el ns i))), AV.s (SV.str (nT (el ns i))), AV.s (SV.str (nS (el ns i))), AV.s (SV.bool (nB (el ns i))), AV.s (SV.ro (Con.typ cV (nV (el ns i)))), AV.s (SV.ro (Con.strs (nZ (el ns i))))] (37 : Nat)] (AV.s (SV.blit false)))
                      (Tree.ite (!decide (nT (el ns i) = nT (el ns i))) (Tree.ret [AObj.own [AV.s (SV.str a), AV.s (SV.ro (Con.typ cV vs)), AV.s (SV.ro (Con.typ cN ns)), AV.s (SV.ro (Con.typ cF fs))] (34 : Nat), AObj.own [AV.s (SV.str a), AV.s (SV.ro (Con.typ cV vs)), AV.s (SV.ro (Con.typ cN ns)), AV.s (SV.ro (Con.typ cF fs))] (34 : Nat), AObj.own [AV.s (SV.str (nN (el ns i))), AV.s (SV.int IntKind.u8 (nK (el ns i))), AV.s (SV.int IntKind.i64 (nI (el ns i))), AV.s (SV.int IntKind.i64 (nO (el ns i))), AV.s (SV.int IntKind.u8 (nE (el ns i))), AV.s (SV.str (nY (el ns i))), AV.s (SV.str (nT (el ns i))), AV.s (SV.str (nS (el ns i))), AV.s (SV.bool (nB (el ns i))), AV.s (SV.ro (Con.typ cV (nV (el ns i)))), AV.s (SV.ro (Con.strs (nZ (el ns i))))] (37 : Nat), AObj.own [AV.s (SV.str (nN (el ns i))), AV.s (SV.int IntKind.u8 (nK (el ns i))), AV.s (SV.int IntKind.i64 (nI (el ns i))), AV.s (SV.int IntKind.i64 (nO (el ns i))), AV.s (SV.int IntKind.u8 (nE (el ns i))), AV.s (SV.str (nY (el ns i))), AV.s (SV.str (nT (el ns i))), AV.s (SV.str (nS (el ns i))), AV.s (SV.bool (nB (el ns i))), AV.s (SV.ro (Con.typ cV (nV (el ns i)))), AV.s (SV.ro (Con.strs (nZ (el ns i))))] (37 : Nat)] (AV.s (SV.blit false)))
                        (Tree.ite (!decide (nS (el ns i) = nS (el ns i))) (Tree.ret [AObj.own [AV.s (SV.str a), AV.s (SV.ro (Con.typ cV vs)), AV.s (SV.ro (Con.typ cN ns)), AV.s (SV.ro (Con.typ cF fs))] (34 : Nat), AObj.own [AV.s (SV.str a), AV.s (SV.ro (Con.typ cV vs)), AV.s (SV.ro (Con.typ cN ns)), AV.s (SV.ro (Con.typ cF fs))] (34 : Nat), AObj.own [AV.s (SV.str (nN (el ns i))), AV.s (SV.int IntKind.u8 (nK (el ns i))), AV.s (SV.int IntKind.i64 (nI (el ns i))), AV.s (SV.int IntKind.i64 (nO (el ns i))), AV.s (SV.int IntKind.u8 (nE (el ns i))), AV.s (SV.str (nY (el ns i))), AV.s (SV.str (nT (el ns i))), AV.s (SV.str (nS (el ns i))), AV.s (SV.bool (nB (el ns i))), AV.s (SV.ro (Con.typ cV (nV (el ns i)))), AV.s (SV.ro (Con.strs (nZ (el ns i))))] (37 : Nat), AObj.own [AV.s (SV.str (nN (el ns i))), AV.s (SV.int IntKind.u8 (nK (el ns i))), AV.s (SV.int IntKind.i64 (nI (el ns i))), AV.s (SV.int IntKind.i64 (nO (el ns i))), AV.s (SV.int IntKind.u8 (nE (el ns i))), AV.s (SV.str (nY (el ns i))), AV.s (SV.str (nT (el ns i))), AV.s (SV.str (nS (el ns i))), AV.s (SV.bool (nB (el ns i))), AV.s (SV.ro (Con.typ cV (nV (el ns i)))), AV.s (SV.ro (Con.strs (nZ (el ns i))))] (37 : Nat)] (AV.s (SV.blit false)))
                          (Tree.ite (!nB (el ns i) == nB (el ns i)) (Tree.ret [AObj.own [AV.s (SV.str a), AV.s (SV.ro (Con.typ cV vs)), AV.s (SV.ro (Con.typ cN ns)), AV.s (SV.ro (Con.typ cF fs))] (34 : Nat), AObj.own [AV.s (SV.str a), AV.s (SV.ro (Con.typ cV vs)), AV.s (SV.ro (Con.typ cN ns)), AV.s (SV.ro (Con.typ cF fs))] (34 : Nat), AObj.own [AV.s (SV.str (nN (el ns i))), AV.s (SV.int IntKind.u8 (nK (el ns i))), AV.s (SV.int IntKind.i64 (nI (el ns i))), AV.s (SV.int IntKind.i64 (nO (el ns i))), AV.s (SV.int IntKind.u8 (nE (el ns i))), AV.s (SV.str (nY (el ns i))), AV.s (SV.str (nT (el ns i))), AV.s (SV.str (nS (el ns i))), AV.s (SV.bool (nB (el ns i))), AV.s (SV.ro (Con.typ cV (nV (el ns i)))), AV.s (SV.ro (Con.strs (nZ (el ns i))))] (37 : Nat), AObj.own [AV.s (SV.str (nN (el ns i))), AV.s (SV.int IntKind.u8 (nK (el ns i))), AV.s (SV.int IntKind.i64 (nI (el ns i))), AV.s (SV.int IntKind.i64 (nO (el ns i))), AV.s (SV.int IntKind.u8 (nE (el ns i))), AV.s (SV.str (nY (el ns i))), AV.s (SV.str (nT (el ns i))), AV.s (SV.str (nS (el ns i))), AV.s (SV.bool (nB (el ns i))), AV.s (SV.ro (Con.typ cV (nV (el ns i)))), AV.s (SV.ro (Con.strs (nZ (el ns i))))] (37 : Nat)] (AV.s (SV.blit false)))
                            (Tree.need (nV (el ns i) = nV (el ns i)) (Tree.ite false (Tree.ret [AObj.own [AV.s (SV.str a), AV.s (SV.ro (Con.typ cV vs)), AV.s (SV.ro (Con.typ cN ns)), AV.s (SV.ro (Con.typ cF fs))] (34 : Nat), AObj.own [AV.s (SV.str a), AV.s (SV.ro (Con.typ cV vs)), AV.s (SV.ro (Con.typ cN ns)), AV.s (SV.ro (Con.typ cF fs))] (34 : Nat), AObj.own [AV.s (SV.str (nN (el ns i))), AV.s (SV.int IntKind.u8 (nK (el ns i))), AV.s (SV.int IntKind.i64 (nI (el ns i))), AV.s (SV.int IntKind.i64 (nO (el ns i))), AV.s (SV.int IntKind.u8 (nE (el ns i))), AV.s (SV.str (nY (el ns i))), AV.s (SV.str (nT (el ns i))), AV.s (SV.str (nS (el ns i))), AV.s (SV.bool (nB (el ns i))), AV.s (SV.ro (Con.typ cV (nV (el ns i)))), AV.s (SV.ro (Con.strs (nZ (el ns i))))] (37 : Nat), AObj.own [AV.s (SV.str (nN (el ns i))), AV.s (SV.int IntKind.u8 (nK (el ns i))), AV.s (SV.int IntKind.i64 (nI (el ns i))), AV.s (SV.int IntKind.i64 (nO (el ns i))), AV.s (SV.int IntKind.u8 (nE (el ns i))), AV.s (SV.str (nY (el ns i))), AV.s (SV.str (nT (el ns i))), AV.s (SV.str (nS (el ns i))), AV.s (SV.bool (nB (el ns i))), AV.s (SV.ro (Con.typ cV (nV (el ns i)))), AV.s (SV.ro (Con.strs (nZ (el ns i))))] (37 : Nat)] (AV.s (SV.blit false))) (Tree.need (nZ (el ns i) = nZ (el ns i)) (Tree.ite false (Tree.ret [AObj.own [AV.s (SV.str a), AV.s (SV.ro (Con.typ cV vs)), AV.s (SV.ro (Con.typ cN ns)), AV.s (SV.ro (Con.typ cF fs))] (34 : Nat), AObj.own [AV.s (SV.str a), AV.s (SV.ro (Con.typ cV vs)), AV.s (SV.ro (Con.typ cN ns)), AV.s (SV.ro (Con.typ cF fs))] (34 : Nat), AObj.own [AV.s (SV.str (nN (el ns i))), AV.s (SV.int IntKind.u8 (nK (el ns i))), AV.s (SV.int IntKind.i64 (nI (el ns i))), AV.s (SV.int IntKind.i64 (nO (el ns i))), AV.s (SV.int IntKind.u8 (nE (el ns i))), AV.s (SV.str (nY (el ns i))), AV.s (SV.str (nT (el ns i))), AV.s (SV.str (nS (el ns i))), AV.s (SV.bool (nB (el ns i))), AV.s (SV.ro (Con.typ cV (nV (el ns i)))), AV.s (SV.ro (Con.strs (nZ (el ns i))))] (37 : Nat), AObj.own [AV.s (SV.str (nN (el ns i))), AV.s (SV.int IntKind.u8 (nK (el ns i))), AV.s (SV.int IntKind.i64 (nI (el ns i))), AV.s (SV.int IntKind.i64 (nO (el ns i))), AV.s (SV.int IntKind.u8 (nE (el ns i))), AV.s (SV.str (nY (el ns i))), AV.s (SV.str (nT (el ns i))), AV.s (SV.str (nS (el ns i))), AV.s (SV.bool (nB (el ns i))), AV.s (SV.ro (Con.typ cV (nV (el ns i)))), AV.s (SV.ro (Con.strs (nZ (el ns i))))] (37 : Nat)] (AV.s (SV.blit false))) (Tree.need (inI64 (i + (1 : Int))) (Tree.at (Cfg.mk (sl (152 : Nat) [((2 : Nat), AV.ptr (0 : Nat) (0 : Nat)), ((3 : Nat), AV.ptr (1 : Nat) (0 : Nat)), ((5 : Nat), AV.s (SV.int IntKind.i64 (i + (1 : Int))))]) [AObj.own [AV.s (SV.str a), AV.s (SV.ro (Con.typ cV vs)), AV.s (SV.ro (Con.typ cN ns)), AV.s (SV.ro (Con.typ cF fs))] (34 : Nat), AObj.own [AV.s (SV.str a), AV.s (SV.ro (Con.typ cV vs)), AV.s (SV.ro (Con.typ cN ns)), AV.s (SV.ro (Con.typ cF fs))] (34 : Nat)] (hd Try.f58 (4 : Nat)) (Stk.mk none false (0 : Nat) [] (0 : Nat))))))))))))))))))))))
  (Tree.at (Cfg.mk (sl (152 : Nat) [((2 : Nat), AV.ptr (0 : Nat) (0 : Nat)), ((3 : Nat), AV.ptr (1 : Nat) (0 : Nat)), ((8 : Nat), AV.s (SV.int IntKind.i64 (0 : Int)))]) [AObj.own [AV.s (SV.str a), AV.s (SV.ro (Con.typ cV vs)), AV.s (SV.ro (Con.typ cN ns)), AV.s (SV.ro (Con.typ cF fs))] (34 : Nat), AObj.own [AV.s (SV.str a), AV.s (SV.ro (Con.typ cV vs)), AV.s (SV.ro (Con.typ cN ns)), AV.s (SV.ro (Con.typ cF fs))] (34 : Nat)] (hd Try.f58 (10 : Nat)) (Stk.mk none false (0 : Nat) [] (0 : Nat)))) := by kernel_rfl
noncomputable def cPr2 (a : ByteArray) (vs : List (CL cV)) (ns : List (CL cN)) (fs : List (CL cF)) (i : Int) : Cfg := ⟨sl 152 [(2, .ptr 0 0), (3, .ptr 1 0), (8, avI i)], [obPr a vs ns fs, obPr a vs ns fs], hd Try.f58 10, {}⟩
theorem loopPr2 (a : ByteArray) (vs : List (CL cV)) (ns : List (CL cN)) (fs : List (CL cF)) (i : Int) : run P tabPr.sum Try.f58 nsPr (cPr2 a vs ns fs i) =
  Tree.ite (decide (i < (↑fs.length : Int))) (Tree.need ((0 : Int) ≤ i) (Tree.need (i < (↑fs.length : Int)) (Tree.need ((0 : Int) ≤ i) (Tree.need (i < (↑fs.length : Int)) (Tree.ite (!(fA (el fs i) == fA (el fs i) && (fB (el fs i) == fB (el fs i) && (decide (fC (el fs i) = fC (el fs i)) && (fD (el fs i) == fD (el fs i) && true))))) (Tree.ret [AObj.own [AV.s (SV.str a), AV.s (SV.ro (Con.typ cV vs)), AV.s (SV.ro (Con.typ cN ns)), AV.s (SV.ro (Con.typ cF fs))] (34 : Nat), AObj.own [AV.s (SV.str a), AV.s (SV.ro (Con.typ cV vs)), AV.s (SV.ro (Con.typ cN ns)), AV.s (SV.ro (Con.typ cF fs))] (34 : Nat)] (AV.s (SV.blit false))) (Tree.need (inI64 (i + (1 : Int))) (Tree.at (Cfg.mk (sl (152 : Nat) [((2 : Nat), AV.ptr (0 : Nat) (0 : Nat)), ((3 : Nat), AV.ptr (1 : Nat) (0 : Nat)), ((8 : Nat), AV.s (SV.int IntKind.i64 (i + (1 : Int))))]) [AObj.own [AV.s (SV.str a), AV.s (SV.ro (Con.typ cV vs)), AV.s (SV.ro (Con.typ cN ns)), AV.s (SV.ro (Con.typ cF fs))] (34 : Nat), AObj.own [AV.s (SV.str a), AV.s (SV.ro (Con.typ cV vs)), AV.s (SV.ro (Con.typ cN ns)), AV.s (SV.ro (Con.typ cF fs))] (34 : Nat)] (hd Try.f58 (10 : Nat)) (Stk.mk none false (0 : Nat) [] (0 : Nat)))))))))) (Tree.ret [AObj.own [AV.s (SV.str a), AV.s (SV.ro (Con.typ cV vs)), AV.s (SV.ro (Con.typ cN ns)), AV.s (SV.ro (Con.typ cF fs))] (34 : Nat), AObj.own [AV.s (SV.str a), AV.s (SV.ro (Con.typ cV vs)), AV.s (SV.ro (Con.typ cN ns)), AV.s (SV.ro (Con.typ cF fs))] (34 : Nat)] (AV.s (SV.blit true))) := by kernel_rfl
abbrev sumPr := sumOf [tPr, tPr] [tBool] (fun (a, b, ()) => [a = b]) (fun _ => (true, ()))
def tabSa : Tab := [(58, sumPr)]
def nsSa : List (Nat × Norm) := [(4, ⟨[], [2, 3, 5], 0, []⟩), (9, ⟨[], [2, 3, 6], 0, []⟩), (14, ⟨[], [2, 3, 7], 0, []⟩), (19, ⟨[], [2, 3, 8], 0, []⟩)]
theorem trSa (ck nx : Int) (ps : Ps) (is : Is) (cs : Cs) (ws : Ws) : run P tabSa.sum Try.f26 nsSa (start Try.f26 [avSt ck nx ps is cs ws, avSt ck nx ps is cs ws] []) =
  Tree.ite (ck != ck) (Tree.ret [AObj.own [AV.s (SV.int IntKind.i64 ck), AV.s (SV.int IntKind.i64 nx), AV.s (SV.ro (Con.typ cP ps)), AV.s (SV.ro (Con.typ cI is)), AV.s (SV.ro (Con.typ cC cs)), AV.s (SV.ro (Con.typ cW ws))] (27 : Nat), AObj.own [AV.s (SV.int IntKind.i64 ck), AV.s (SV.int IntKind.i64 nx), AV.s (SV.ro (Con.typ cP ps)), AV.s (SV.ro (Con.typ cI is)), AV.s (SV.ro (Con.typ cC cs)), AV.s (SV.ro (Con.typ cW ws))] (27 : Nat)] (AV.s (SV.blit false))) (Tree.ite (nx != nx) (Tree.ret [AObj.own [AV.s (SV.int IntKind.i64 ck), AV.s (SV.int IntKind.i64 nx), AV.s (SV.ro (Con.typ cP ps)), AV.s (SV.ro (Con.typ cI is)), AV.s (SV.ro (Con.typ cC cs)), AV.s (SV.ro (Con.typ cW ws))] (27 : Nat), AObj.own [AV.s (SV.int IntKind.i64 ck), AV.s (SV.int IntKind.i64 nx), AV.s (SV.ro (Con.typ cP ps)), AV.s (SV.ro (Con.typ cI is)), AV.s (SV.ro (Con.typ cC cs)), AV.s (SV.ro (Con.typ cW ws))] (27 : Nat)] (AV.s (SV.blit false))) (Tree.ite ((↑(List.length ps) : Int) != (↑(List.length ps) : Int)) (Tree.ret [AObj.own [AV.s (SV.int IntKind.i64 ck), AV.s (SV.int IntKind.i64 nx), AV.s (SV.ro (Con.typ cP ps)), AV.s (SV.ro (Con.typ cI is)), AV.s (SV.ro (Con.typ cC cs)), AV.s (SV.ro (Con.typ cW ws))] (27 : Nat), AObj.own [AV.s (SV.int IntKind.i64 ck), AV.s (SV.int IntKind.i64 nx), AV.s (SV.ro (Con.typ cP ps)), AV.s (SV.ro (Con.typ cI is)), AV.s (SV.ro (Con.typ cC cs)), AV.s (SV.ro (Con.typ cW ws))] (27 : Nat)] (AV.s (SV.blit false))) (Tree.ite ((↑(List.length is) : Int) != (↑(List.length is) : Int)) (Tree.ret [AObj.own [AV.s (SV.int IntKind.i64 ck), AV.s (SV.int IntKind.i64 nx), AV.s (SV.ro (Con.typ cP ps)), AV.s (SV.ro (Con.typ cI is)), AV.s (SV.ro (Con.typ cC cs)), AV.s (SV.ro (Con.typ cW ws))] (27 : Nat), AObj.own [AV.s (SV.int IntKind.i64 ck), AV.s (SV.int IntKind.i64 nx), AV.s (SV.ro (Con.typ cP ps)), AV.s (SV.ro (Con.typ cI is)), AV.s (SV.ro (Con.typ cC cs)), AV.s (SV.ro (Con.typ cW ws))] (27 : Nat)] (AV.s (SV.blit false))) (Tree.ite ((↑(List.length cs) : Int) != (↑(List.length cs) : Int)) (Tree.ret [AObj.own [AV.s (SV.int IntKind.i64 ck), AV.s (SV.int IntKind.i64 nx), AV.s (SV.ro (Con.typ cP ps)), AV.s (SV.ro (Con.typ cI is)), AV.s (SV.ro (Con.typ cC cs)), AV.s (SV.ro (Con.typ cW ws))] (27 : Nat), AObj.own [AV.s (SV.int IntKind.i64 ck), AV.s (SV.int IntKind.i64 nx), AV.s (SV.ro (Con.typ cP ps)), AV.s (SV.ro (Con.typ cI is)), AV.s (SV.ro (Con.typ cC cs)), AV.s (SV.ro (Con.typ cW ws))] (27 : Nat)] (AV.s (SV.blit false))) (Tree.ite ((↑(List.length ws) : Int) != (↑(List.length ws) : Int)) (Tree.ret [AObj.own [AV.s (SV.int IntKind.i64 ck), AV.s (SV.int IntKind.i64 nx), AV.s (SV.ro (Con.typ cP ps)), AV.s (SV.ro (Con.typ cI is)), AV.s (SV.ro (Con.typ cC cs)), AV.s (SV.ro (Con.typ cW ws))] (27 : Nat), AObj.own [AV.s (SV.int IntKind.i64 ck), AV.s (SV.int IntKind.i64 nx), AV.s (SV.ro (Con.typ cP ps)), AV.s (SV.ro (Con.typ cI is)), AV.s (SV.ro (Con.typ cC cs)), AV.s (SV.ro (Con.typ cW ws))] (27 : Nat)] (AV.s (SV.blit false))) (Tree.at (Cfg.mk (sl (130 : Nat) [((2 : Nat), AV.ptr (0 : Nat) (0 : Nat)), ((3 : Nat), AV.ptr (1 : Nat) (0 : Nat)), ((5 : Nat), AV.s (SV.int IntKind.i64 (0 : Int)))]) [AObj.own [AV.s (SV.int IntKind.i64 ck), AV.s (SV.int IntKind.i64 nx), AV.s (SV.ro (Con.typ cP ps)), AV.s (SV.ro (Con.typ cI is)), AV.s (SV.ro (Con.typ cC cs)), AV.s (SV.ro (Con.typ cW ws))] (27 : Nat), AObj.own [AV.s (SV.int IntKind.i64 ck), AV.s (SV.int IntKind.i64 nx), AV.s (SV.ro (Con.typ cP ps)), AV.s (SV.ro (Con.typ cI is)), AV.s (SV.ro (Con.typ cC cs)), AV.s (SV.ro (Con.typ cW ws))] (27 : Nat)] (hd Try.f26 (4 : Nat)) (Stk.mk none false (0 : Nat) [] (0 : Nat))))))))) := by kernel_rfl
noncomputable def cSa (ck nx : Int) (ps : Ps) (is : Is) (cs : Cs) (ws : Ws) (k r : Nat) (i : Int) : Cfg := ⟨sl 130 [(2, .ptr 0 0), (3, .ptr 1 0), (k, avI i)], [obSt ck nx ps is cs ws, obSt ck nx ps is cs ws], hd Try.f26 r, {}⟩
theorem loopSa1 (ck nx : Int) (ps : Ps) (is : Is) (cs : Cs) (ws : Ws) (i : Int) : run P tabSa.sum Try.f26 nsSa (cSa ck nx ps is cs ws 5 4 i) =
  Tree.ite (decide (i < (↑(List.length ps) : Int))) (Tree.need ((0 : Int) ≤ i) (Tree.need (i < (↑(List.length ps) : Int)) (Tree.need ((0 : Int) ≤ i) (Tree.need (i < (↑(List.length ps) : Int)) (Tree.need ((pN (el ps i), pV (el ps i), pO (el ps i), pF (el ps i), ()) = (pN (el ps i), pV (el ps i), pO (el ps i), pF (el ps i), ())) (Tree.ite false (Tree.ret [AObj.own [AV.s (SV.int IntKind.i64 ck), AV.s (SV.int IntKind.i64 nx), AV.s (SV.ro (Con.typ cP ps)), AV.s (SV.ro (Con.typ cI is)), AV.s (SV.ro (Con.typ cC cs)), AV.s (SV.ro (Con.typ cW ws))] (27 : Nat), AObj.own [AV.s (SV.int IntKind.i64 ck), AV.s (SV.int IntKind.i64 nx), AV.s (SV.ro (Con.typ cP ps)), AV.s (SV.ro (Con.typ cI is)), AV.s (SV.ro (Con.typ cC cs)), AV.s (SV.ro (Con.typ cW ws))] (27 : Nat)] (AV.s (SV.blit false))) (Tree.need (inI64 (i + (1 : Int))) (Tree.at (Cfg.mk (sl (130 : Nat) [((2 : Nat), AV.ptr (0 : Nat) (0 : Nat)), ((3 : Nat), AV.ptr (1 : Nat) (0 : Nat)), ((5 : Nat), AV.s (SV.int IntKind.i64 (i + (1 : Int))))]) [AObj.own [AV.s (SV.int IntKind.i64 ck), AV.s (SV.int IntKind.i64 nx), AV.s (SV.ro (Con.typ cP ps)), AV.s (SV.ro (Con.typ cI is)), AV.s (SV.ro (Con.typ cC cs)), AV.s (SV.ro (Con.typ cW ws))] (27 : Nat), AObj.own [AV.s (SV.int IntKind.i64 ck), AV.s (SV.int IntKind.i64 nx), AV.s (SV.ro (Con.typ cP ps)), AV.s (SV.ro (Con.typ cI is)), AV.s (SV.ro (Con.typ cC cs)), AV.s (SV.ro (Con.typ cW ws))] (27 : Nat)] (hd Try.f26 (4 : Nat)) (Stk.mk none false (0 : Nat) [] (0 : Nat))))))))))) (Tree.at (Cfg.mk (sl (130 : Nat) [((2 : Nat), AV.ptr (0 : Nat) (0 : Nat)), ((3 : Nat), AV.ptr (1 : Nat) (0 : Nat)), ((6 : Nat), AV.s (SV.int IntKind.i64 (0 : Int)))]) [AObj.own [AV.s (SV.int IntKind.i64 ck), AV.s (SV.int IntKind.i64 nx), AV.s (SV.ro (Con.typ cP ps)), AV.s (SV.ro (Con.typ cI is)), AV.s (SV.ro (Con.typ cC cs)), AV.s (SV.ro (Con.typ cW ws))] (27 : Nat), AObj.own [AV.s (SV.int IntKind.i64 ck), AV.s (SV.int IntKind.i64 nx), AV.s (SV.ro (Con.typ cP ps)), AV.s (SV.ro (Con.typ cI is)), AV.s (SV.ro (Con.typ cC cs)), AV.s (SV.ro (Con.typ cW ws))] (27 : Nat)] (hd Try.f26 (9 : Nat)) (Stk.mk none false (0 : Nat) [] (0 : Nat)))) := by kernel_rfl
theorem loopSa2 (ck nx : Int) (ps : Ps) (is : Is) (cs : Cs) (ws : Ws) (i : Int) : run P tabSa.sum Try.f26 nsSa (cSa ck nx ps is cs ws 6 9 i) =
  Tree.ite (decide (i < (↑(List.length is) : Int))) (Tree.need ((0 : Int) ≤ i) (Tree.need (i < (↑(List.length is) : Int)) (Tree.need ((0 : Int) ≤ i) (Tree.need (i < (↑(List.length is) : Int)) (Tree.ite (!(iI (el is i) == iI (el is i) && (iU (el is i) == iU (el is i) && (iS (el is i) == iS (el is i) && (decide (iP (el is i) = iP (el is i)) && (iN (el is i) == iN (el is i) && (iF (el is i) == iF (el is i) && (iW (el is i) == iW (el is i) && (decide (iC (el is i) = iC (el is i)) && true))))))))) (Tree.ret [AObj.own [AV.s (SV.int IntKind.i64 ck), AV.s (SV.int IntKind.i64 nx), AV.s (SV.ro (Con.typ cP ps)), AV.s (SV.ro (Con.typ cI is)), AV.s (SV.ro (Con.typ cC cs)), AV.s (SV.ro (Con.typ cW ws))] (27 : Nat), AObj.own [AV.s (SV.int IntKind.i64 ck), AV.s (SV.int IntKind.i64 nx), AV.s (SV.ro (Con.typ cP ps)), AV.s (SV.ro (Con.typ cI is)), AV.s (SV.ro (Con.typ cC cs)), AV.s (SV.ro (Con.typ cW ws))] (27 : Nat)] (AV.s (SV.blit false))) (Tree.need (inI64 (i + (1 : Int))) (Tree.at (Cfg.mk (sl (130 : Nat) [((2 : Nat), AV.ptr (0 : Nat) (0 : Nat)), ((3 : Nat), AV.ptr (1 : Nat) (0 : Nat)), ((6 : Nat), AV.s (SV.int IntKind.i64 (i + (1 : Int))))]) [AObj.own [AV.s (SV.int IntKind.i64 ck), AV.s (SV.int IntKind.i64 nx), AV.s (SV.ro (Con.typ cP ps)), AV.s (SV.ro (Con.typ cI is)), AV.s (SV.ro (Con.typ cC cs)), AV.s (SV.ro (Con.typ cW ws))] (27 : Nat), AObj.own [AV.s (SV.int IntKind.i64 ck), AV.s (SV.int IntKind.i64 nx), AV.s (SV.ro (Con.typ cP ps)), AV.s (SV.ro (Con.typ cI is)), AV.s (SV.ro (Con.typ cC cs)), AV.s (SV.ro (Con.typ cW ws))] (27 : Nat)] (hd Try.f26 (9 : Nat)) (Stk.mk none false (0 : Nat) [] (0 : Nat)))))))))) (Tree.at (Cfg.mk (sl (130 : Nat) [((2 : Nat), AV.ptr (0 : Nat) (0 : Nat)), ((3 : Nat), AV.ptr (1 : Nat) (0 : Nat)), ((7 : Nat), AV.s (SV.int IntKind.i64 (0 : Int)))]) [AObj.own [AV.s (SV.int IntKind.i64 ck), AV.s (SV.int IntKind.i64 nx), AV.s (SV.ro (Con.typ cP ps)), AV.s (SV.ro (Con.typ cI is)), AV.s (SV.ro (Con.typ cC cs)), AV.s (SV.ro (Con.typ cW ws))] (27 : Nat), AObj.own [AV.s (SV.int IntKind.i64 ck), AV.s (SV.int IntKind.i64 nx), AV.s (SV.ro (Con.typ cP ps)), AV.s (SV.ro (Con.typ cI is)), AV.s (SV.ro (Con.typ cC cs)), AV.s (SV.ro (Con.typ cW ws))] (27 : Nat)] (hd Try.f26 (14 : Nat)) (Stk.mk none false (0 : Nat) [] (0 : Nat)))) := by kernel_rfl
theorem loopSa3 (ck nx : Int) (ps : Ps) (is : Is) (cs : Cs) (ws : Ws) (i : Int) : run P tabSa.sum Try.f26 nsSa (cSa ck nx ps is cs ws 7 14 i) =
  Tree.ite (decide (i < (↑(List.length cs) : Int))) (Tree.need ((0 : Int) ≤ i) (Tree.need (i < (↑(List.length cs) : Int)) (Tree.need ((0 : Int) ≤ i) (Tree.need (i < (↑(List.length cs) : Int)) (Tree.ite (!(lS (el cs i) == lS (el cs i) && (decide (lN (el cs i) = lN (el cs i)) && (lK (el cs i) == lK (el cs i) && (lV (el cs i) == lV (el cs i) && (decide (lT (el cs i) = lT (el cs i)) && true)) && true)))) (Tree.ret [AObj.own [AV.s (SV.int IntKind.i64 ck), AV.s (SV.int IntKind.i64 nx), AV.s (SV.ro (Con.typ cP ps)), AV.s (SV.ro (Con.typ cI is)), AV.s (SV.ro (Con.typ cC cs)), AV.s (SV.ro (Con.typ cW ws))] (27 : Nat), AObj.own [AV.s (SV.int IntKind.i64 ck), AV.s (SV.int IntKind.i64 nx), AV.s (SV.ro (Con.typ cP ps)), AV.s (SV.ro (Con.typ cI is)), AV.s (SV.ro (Con.typ cC cs)), AV.s (SV.ro (Con.typ cW ws))] (27 : Nat)] (AV.s (SV.blit false))) (Tree.need (inI64 (i + (1 : Int))) (Tree.at (Cfg.mk (sl (130 : Nat) [((2 : Nat), AV.ptr (0 : Nat) (0 : Nat)), ((3 : Nat), AV.ptr (1 : Nat) (0 : Nat)), ((7 : Nat), AV.s (SV.int IntKind.i64 (i + (1 : Int))))]) [AObj.own [AV.s (SV.int IntKind.i64 ck), AV.s (SV.int IntKind.i64 nx), AV.s (SV.ro (Con.typ cP ps)), AV.s (SV.ro (Con.typ cI is)), AV.s (SV.ro (Con.typ cC cs)), AV.s (SV.ro (Con.typ cW ws))] (27 : Nat), AObj.own [AV.s (SV.int IntKind.i64 ck), AV.s (SV.int IntKind.i64 nx), AV.s (SV.ro (Con.typ cP ps)), AV.s (SV.ro (Con.typ cI is)), AV.s (SV.ro (Con.typ cC cs)), AV.s (SV.ro (Con.typ cW ws))] (27 : Nat)] (hd Try.f26 (14 : Nat)) (Stk.mk none false (0 : Nat) [] (0 : Nat)))))))))) (Tree.at (Cfg.mk (sl (130 : Nat) [((2 : Nat), AV.ptr (0 : Nat) (0 : Nat)), ((3 : Nat), AV.ptr (1 : Nat) (0 : Nat)), ((8 : Nat), AV.s (SV.int IntKind.i64 (0 : Int)))]) [AObj.own [AV.s (SV.int IntKind.i64 ck), AV.s (SV.int IntKind.i64 nx), AV.s (SV.ro (Con.typ cP ps)), AV.s (SV.ro (Con.typ cI is)), AV.s (SV.ro (Con.typ cC cs)), AV.s (SV.ro (Con.typ cW ws))] (27 : Nat), AObj.own [AV.s (SV.int IntKind.i64 ck), AV.s (SV.int IntKind.i64 nx), AV.s (SV.ro (Con.typ cP ps)), AV.s (SV.ro (Con.typ cI is)), AV.s (SV.ro (Con.typ cC cs)), AV.s (SV.ro (Con.typ cW ws))] (27 : Nat)] (hd Try.f26 (19 : Nat)) (Stk.mk none false (0 : Nat) [] (0 : Nat)))) := by kernel_rfl
theorem loopSa4 (ck nx : Int) (ps : Ps) (is : Is) (cs : Cs) (ws : Ws) (i : Int) : run P tabSa.sum Try.f26 nsSa (cSa ck nx ps is cs ws 8 19 i) =
  Tree.ite (decide (i < (↑(List.length ws) : Int))) (Tree.need ((0 : Int) ≤ i) (Tree.need (i < (↑(List.length ws) : Int)) (Tree.need ((0 : Int) ≤ i) (Tree.need (i < (↑(List.length ws) : Int)) (Tree.ite (!(wI (el ws i) == wI (el ws i) && (wT (el ws i) == wT (el ws i) && (wN (el ws i) == wN (el ws i) && (wE (el ws i) == wE (el ws i) && (decide (wK (el ws i) = wK (el ws i)) && (wD (el ws i) == wD (el ws i) && (wA (el ws i) == wA (el ws i) && true)))))))) (Tree.ret [AObj.own [AV.s (SV.int IntKind.i64 ck), AV.s (SV.int IntKind.i64 nx), AV.s (SV.ro (Con.typ cP ps)), AV.s (SV.ro (Con.typ cI is)), AV.s (SV.ro (Con.typ cC cs)), AV.s (SV.ro (Con.typ cW ws))] (27 : Nat), AObj.own [AV.s (SV.int IntKind.i64 ck), AV.s (SV.int IntKind.i64 nx), AV.s (SV.ro (Con.typ cP ps)), AV.s (SV.ro (Con.typ cI is)), AV.s (SV.ro (Con.typ cC cs)), AV.s (SV.ro (Con.typ cW ws))] (27 : Nat)] (AV.s (SV.blit false))) (Tree.need (inI64 (i + (1 : Int))) (Tree.at (Cfg.mk (sl (130 : Nat) [((2 : Nat), AV.ptr (0 : Nat) (0 : Nat)), ((3 : Nat), AV.ptr (1 : Nat) (0 : Nat)), ((8 : Nat), AV.s (SV.int IntKind.i64 (i + (1 : Int))))]) [AObj.own [AV.s (SV.int IntKind.i64 ck), AV.s (SV.int IntKind.i64 nx), AV.s (SV.ro (Con.typ cP ps)), AV.s (SV.ro (Con.typ cI is)), AV.s (SV.ro (Con.typ cC cs)), AV.s (SV.ro (Con.typ cW ws))] (27 : Nat), AObj.own [AV.s (SV.int IntKind.i64 ck), AV.s (SV.int IntKind.i64 nx), AV.s (SV.ro (Con.typ cP ps)), AV.s (SV.ro (Con.typ cI is)), AV.s (SV.ro (Con.typ cC cs)), AV.s (SV.ro (Con.typ cW ws))] (27 : Nat)] (hd Try.f26 (19 : Nat)) (Stk.mk none false (0 : Nat) [] (0 : Nat)))))))))) (Tree.ret [AObj.own [AV.s (SV.int IntKind.i64 ck), AV.s (SV.int IntKind.i64 nx), AV.s (SV.ro (Con.typ cP ps)), AV.s (SV.ro (Con.typ cI is)), AV.s (SV.ro (Con.typ cC cs)), AV.s (SV.ro (Con.typ cW ws))] (27 : Nat), AObj.own [AV.s (SV.int IntKind.i64 ck), AV.s (SV.int IntKind.i64 nx), AV.s (SV.ro (Con.typ cP ps)), AV.s (SV.ro (Con.typ cI is)), AV.s (SV.ro (Con.typ cC cs)), AV.s (SV.ro (Con.typ cW ws))] (27 : Nat)] (AV.s (SV.blit true))) := by kernel_rfl
end Ds

namespace Ds
open Go Go.Sx Go.Proofs Lf
def nsIn : List (Nat × Norm) := [(2, ⟨[], [0, 1, 5], 0, []⟩)]
theorem trIn (l : List Int) (x : Int) : run P tab0.sum Try.f30 nsIn (start Try.f30 [avL l, avI x] []) =
  Tree.at (Cfg.mk (sl (18 : Nat) [((0 : Nat), AV.s (SV.ro (Con.ints IntKind.i64 l))), ((1 : Nat), AV.s (SV.int IntKind.i64 x)), ((5 : Nat), AV.s (SV.int IntKind.i64 (0 : Int)))]) [] (hd Try.f30 (2 : Nat)) (Stk.mk none false (0 : Nat) [] (0 : Nat))) := by kernel_rfl
noncomputable def cIn (l : List Int) (x i : Int) : Cfg := ⟨sl 18 [(0, avL l), (1, avI x), (5, avI i)], [], hd Try.f30 2, {}⟩
theorem loopIn (l : List Int) (x i : Int) : run P tab0.sum Try.f30 nsIn (cIn l x i) =
  Tree.ite (decide (i < (↑l.length : Int))) (Tree.need ((0 : Int) ≤ i) (Tree.need (i < (↑l.length : Int)) (Tree.ite (l.getD i.toNat (0 : Int) == x) (Tree.ret [] (AV.s (SV.blit true))) (Tree.need (inI64 (i + (1 : Int))) (Tree.at (Cfg.mk (sl (18 : Nat) [((0 : Nat), AV.s (SV.ro (Con.ints IntKind.i64 l))), ((1 : Nat), AV.s (SV.int IntKind.i64 x)), ((5 : Nat), AV.s (SV.int IntKind.i64 (i + (1 : Int))))]) [] (hd Try.f30 (2 : Nat)) (Stk.mk none false (0 : Nat) [] (0 : Nat)))))))) (Tree.ret [] (AV.s (SV.blit false))) := by kernel_rfl
theorem trEq (a b : List Int) : run P tab0.sum Try.f37 nsVs (start Try.f37 [avL a, avL b] []) =
  Tree.ite ((↑a.length : Int) != (↑b.length : Int)) (Tree.ret [] (AV.s (SV.blit false))) (Tree.at (Cfg.mk (sl (26 : Nat) [((0 : Nat), AV.s (SV.ro (Con.ints IntKind.i64 a))), ((1 : Nat), AV.s (SV.ro (Con.ints IntKind.i64 b))), ((5 : Nat), AV.s (SV.int IntKind.i64 (0 : Int)))]) [] (hd Try.f37 (4 : Nat)) (Stk.mk none false (0 : Nat) [] (0 : Nat)))) := by kernel_rfl
noncomputable def cEq (a b : List Int) (i : Int) : Cfg := ⟨sl 26 [(0, avL a), (1, avL b), (5, avI i)], [], hd Try.f37 4, {}⟩
theorem loopEq (a b : List Int) (i : Int) : run P tab0.sum Try.f37 nsVs (cEq a b i) =
  Tree.ite (decide (i < (↑a.length : Int))) (Tree.need ((0 : Int) ≤ i) (Tree.need (i < (↑a.length : Int)) (Tree.need ((0 : Int) ≤ i) (Tree.need (i < (↑b.length : Int)) (Tree.ite (a.getD i.toNat (0 : Int) != b.getD i.toNat (0 : Int)) (Tree.ret [] (AV.s (SV.blit false))) (Tree.need (inI64 (i + (1 : Int))) (Tree.at (Cfg.mk (sl (26 : Nat) [((0 : Nat), AV.s (SV.ro (Con.ints IntKind.i64 a))), ((1 : Nat), AV.s (SV.ro (Con.ints IntKind.i64 b))), ((5 : Nat), AV.s (SV.int IntKind.i64 (i + (1 : Int))))]) [] (hd Try.f37 (4 : Nat)) (Stk.mk none false (0 : Nat) [] (0 : Nat)))))))))) (Tree.ret [] (AV.s (SV.blit true))) := by kernel_rfl
def nsLe : List (Nat × Norm) := [(4, ⟨[], [1, 2, 5], 0, []⟩)]
theorem trLe (ck nx : Int) (ps : Ps) (is : Is) (cs : Cs) (ws : Ws) (l : List Int) : run P tab0.sum Try.f35 nsLe (start Try.f35 [avSt ck nx ps is cs ws, avL l] []) =
  Tree.ite ((↑(List.length is) : Int) != (↑l.length : Int)) (Tree.ret [AObj.own [AV.s (SV.int IntKind.i64 ck), AV.s (SV.int IntKind.i64 nx), AV.s (SV.ro (Con.typ cP ps)), AV.s (SV.ro (Con.typ cI is)), AV.s (SV.ro (Con.typ cC cs)), AV.s (SV.ro (Con.typ cW ws))] (27 : Nat)] (AV.s (SV.blit false))) (Tree.ite ((↑(List.length cs) : Int) != (↑l.length : Int)) (Tree.ret [AObj.own [AV.s (SV.int IntKind.i64 ck), AV.s (SV.int IntKind.i64 nx), AV.s (SV.ro (Con.typ cP ps)), AV.s (SV.ro (Con.typ cI is)), AV.s (SV.ro (Con.typ cC cs)), AV.s (SV.ro (Con.typ cW ws))] (27 : Nat)] (AV.s (SV.blit false))) (Tree.ite (ck != (7 : Int)) (Tree.ret [AObj.own [AV.s (SV.int IntKind.i64 ck), AV.s (SV.int IntKind.i64 nx), AV.s (SV.ro (Con.typ cP ps)), AV.s (SV.ro (Con.typ cI is)), AV.s (SV.ro (Con.typ cC cs)), AV.s (SV.ro (Con.typ cW ws))] (27 : Nat)] (AV.s (SV.blit false))) (Tree.ite (nx != (9 : Int)) (Tree.ret [AObj.own [AV.s (SV.int IntKind.i64 ck), AV.s (SV.int IntKind.i64 nx), AV.s (SV.ro (Con.typ cP ps)), AV.s (SV.ro (Con.typ cI is)), AV.s (SV.ro (Con.typ cC cs)), AV.s (SV.ro (Con.typ cW ws))] (27 : Nat)] (AV.s (SV.blit false))) (Tree.at (Cfg.mk (sl (60 : Nat) [((1 : Nat), AV.s (SV.ro (Con.ints IntKind.i64 l))), ((2 : Nat), AV.ptr (0 : Nat) (0 : Nat)), ((5 : Nat), AV.s (SV.int IntKind.i64 (0 : Int)))]) [AObj.own [AV.s (SV.int IntKind.i64 ck), AV.s (SV.int IntKind.i64 nx), AV.s (SV.ro (Con.typ cP ps)), AV.s (SV.ro (Con.typ cI is)), AV.s (SV.ro (Con.typ cC cs)), AV.s (SV.ro (Con.typ cW ws))] (27 : Nat)] (hd Try.f35 (4 : Nat)) (Stk.mk none false (0 : Nat) [] (0 : Nat))))))) := by kernel_rfl
noncomputable def cLe (ck nx : Int) (ps : Ps) (is : Is) (cs : Cs) (ws : Ws) (l : List Int) (i : Int) : Cfg := ⟨sl 60 [(1, avL l), (2, .ptr 0 0), (5, avI i)], [obSt ck nx ps is cs ws], hd Try.f35 4, {}⟩
theorem loopLe (ck nx : Int) (ps : Ps) (is : Is) (cs : Cs) (ws : Ws) (l : List Int) (i : Int) : run P tab0.sum Try.f35 nsLe (cLe ck nx ps is cs ws l i) =
  Tree.ite (decide (i < (↑l.length : Int))) (Tree.need ((0 : Int) ≤ i) (Tree.need (i < (↑(List.length is) : Int)) (Tree.need ((0 : Int) ≤ i) (Tree.need (i < (↑l.length : Int)) (Tree.ite (iI (el is i) != l.getD i.toNat (0 : Int)) (Tree.ret [AObj.own [AV.s (SV.int IntKind.i64 ck), AV.s (SV.int IntKind.i64 nx), AV.s (SV.ro (Con.typ cP ps)), AV.s (SV.ro (Con.typ cI is)), AV.s (SV.ro (Con.typ cC cs)), AV.s (SV.ro (Con.typ cW ws))] (27 : Nat)] (AV.s (SV.blit false))) (Tree.need ((0 : Int) ≤ i) (Tree.need (i < (↑(List.length cs) : Int)) (Tree.need ((0 : Int) ≤ i) (Tree.need (i < (↑l.length : Int)) (Tree.ite (lS (el cs i) != l.getD i.toNat (0 : Int)) (Tree.ret [AObj.own [AV.s (SV.int IntKind.i64 ck), AV.s (SV.int IntKind.i64 nx), AV.s (SV.ro (Con.typ cP ps)), AV.s (SV.ro (Con.typ cI is)), AV.s (SV.ro (Con.typ cC cs)), AV.s (SV.ro (Con.typ cW ws))] (27 : Nat)] (AV.s (SV.blit false))) (Tree.need (inI64 (i + (1 : Int))) (Tree.at (Cfg.mk (sl (60 : Nat) [((1 : Nat), AV.s (SV.ro (Con.ints IntKind.i64 l))), ((2 : Nat), AV.ptr (0 : Nat) (0 : Nat)), ((5 : Nat), AV.s (SV.int IntKind.i64 (i + (1 : Int))))]) [AObj.own [AV.s (SV.int IntKind.i64 ck), AV.s (SV.int IntKind.i64 nx), AV.s (SV.ro (Con.typ cP ps)), AV.s (SV.ro (Con.typ cI is)), AV.s (SV.ro (Con.typ cC cs)), AV.s (SV.ro (Con.typ cW ws))] (27 : Nat)] (hd Try.f35 (4 : Nat)) (Stk.mk none false (0 : Nat) [] (0 : Nat))))))))))))))) (Tree.ret [AObj.own [AV.s (SV.int IntKind.i64 ck), AV.s (SV.int IntKind.i64 nx), AV.s (SV.ro (Con.typ cP ps)), AV.s (SV.ro (Con.typ cI is)), AV.s (SV.ro (Con.typ cC cs)), AV.s (SV.ro (Con.typ cW ws))] (27 : Nat)] (AV.s (SV.blit true))) := by kernel_rfl
theorem trWd (ck nx : Int) (ps : Ps) (is : Is) (cs : Cs) (ws : Ws) (l : List Int) : run P tab0.sum Try.f33 nsLe (start Try.f33 [avSt ck nx ps is cs ws, avL l] []) =
  Tree.ite ((↑(List.length ws) : Int) != (↑l.length : Int)) (Tree.ret [AObj.own [AV.s (SV.int IntKind.i64 ck), AV.s (SV.int IntKind.i64 nx), AV.s (SV.ro (Con.typ cP ps)), AV.s (SV.ro (Con.typ cI is)), AV.s (SV.ro (Con.typ cC cs)), AV.s (SV.ro (Con.typ cW ws))] (27 : Nat)] (AV.s (SV.blit false))) (Tree.at (Cfg.mk (sl (29 : Nat) [((1 : Nat), AV.s (SV.ro (Con.ints IntKind.i64 l))), ((2 : Nat), AV.ptr (0 : Nat) (0 : Nat)), ((5 : Nat), AV.s (SV.int IntKind.i64 (0 : Int)))]) [AObj.own [AV.s (SV.int IntKind.i64 ck), AV.s (SV.int IntKind.i64 nx), AV.s (SV.ro (Con.typ cP ps)), AV.s (SV.ro (Con.typ cI is)), AV.s (SV.ro (Con.typ cC cs)), AV.s (SV.ro (Con.typ cW ws))] (27 : Nat)] (hd Try.f33 (4 : Nat)) (Stk.mk none false (0 : Nat) [] (0 : Nat)))) := by kernel_rfl
noncomputable def cWd (ck nx : Int) (ps : Ps) (is : Is) (cs : Cs) (ws : Ws) (l : List Int) (i : Int) : Cfg := ⟨sl 29 [(1, avL l), (2, .ptr 0 0), (5, avI i)], [obSt ck nx ps is cs ws], hd Try.f33 4, {}⟩
theorem loopWd (ck nx : Int) (ps : Ps) (is : Is) (cs : Cs) (ws : Ws) (l : List Int) (i : Int) : run P tab0.sum Try.f33 nsLe (cWd ck nx ps is cs ws l i) =
  Tree.ite (decide (i < (↑l.length : Int))) (Tree.need ((0 : Int) ≤ i) (Tree.need (i < (↑(List.length ws) : Int)) (Tree.need ((0 : Int) ≤ i) (Tree.need (i < (↑l.length : Int)) (Tree.ite (wT (el ws i) != l.getD i.toNat (0 : Int)) (Tree.ret [AObj.own [AV.s (SV.int IntKind.i64 ck), AV.s (SV.int IntKind.i64 nx), AV.s (SV.ro (Con.typ cP ps)), AV.s (SV.ro (Con.typ cI is)), AV.s (SV.ro (Con.typ cC cs)), AV.s (SV.ro (Con.typ cW ws))] (27 : Nat)] (AV.s (SV.blit false))) (Tree.need (inI64 (i + (1 : Int))) (Tree.at (Cfg.mk (sl (29 : Nat) [((1 : Nat), AV.s (SV.ro (Con.ints IntKind.i64 l))), ((2 : Nat), AV.ptr (0 : Nat) (0 : Nat)), ((5 : Nat), AV.s (SV.int IntKind.i64 (i + (1 : Int))))]) [AObj.own [AV.s (SV.int IntKind.i64 ck), AV.s (SV.int IntKind.i64 nx), AV.s (SV.ro (Con.typ cP ps)), AV.s (SV.ro (Con.typ cI is)), AV.s (SV.ro (Con.typ cC cs)), AV.s (SV.ro (Con.typ cW ws))] (27 : Nat)] (hd Try.f33 (4 : Nat)) (Stk.mk none false (0 : Nat) [] (0 : Nat)))))))))) (Tree.ret [AObj.own [AV.s (SV.int IntKind.i64 ck), AV.s (SV.int IntKind.i64 nx), AV.s (SV.ro (Con.typ cP ps)), AV.s (SV.ro (Con.typ cI is)), AV.s (SV.ro (Con.typ cC cs)), AV.s (SV.ro (Con.typ cW ws))] (27 : Nat)] (AV.s (SV.blit true))) := by kernel_rfl
theorem trLg (ck nx : Int) (ps : Ps) (is : Is) (cs : Cs) (ws : Ws) : run P tab0.sum Try.f24 [] (start Try.f24 [avSt ck nx ps is cs ws] []) =
  Tree.ite (decide ((↑(List.length is) : Int) > (170 : Int))) (Tree.ret [AObj.own [AV.s (SV.int IntKind.i64 ck), AV.s (SV.int IntKind.i64 nx), AV.s (SV.ro (Con.typ cP ps)), AV.s (SV.ro (Con.typ cI is)), AV.s (SV.ro (Con.typ cC cs)), AV.s (SV.ro (Con.typ cW ws))] (27 : Nat)] (AV.s (SV.blit true))) (Tree.ite (decide ((↑(List.length cs) : Int) > (300 : Int))) (Tree.ret [AObj.own [AV.s (SV.int IntKind.i64 ck), AV.s (SV.int IntKind.i64 nx), AV.s (SV.ro (Con.typ cP ps)), AV.s (SV.ro (Con.typ cI is)), AV.s (SV.ro (Con.typ cC cs)), AV.s (SV.ro (Con.typ cW ws))] (27 : Nat)] (AV.s (SV.blit true))) (Tree.ite (decide ((↑(List.length ws) : Int) > (300 : Int))) (Tree.ret [AObj.own [AV.s (SV.int IntKind.i64 ck), AV.s (SV.int IntKind.i64 nx), AV.s (SV.ro (Con.typ cP ps)), AV.s (SV.ro (Con.typ cI is)), AV.s (SV.ro (Con.typ cC cs)), AV.s (SV.ro (Con.typ cW ws))] (27 : Nat)] (AV.s (SV.blit true))) (Tree.ret [AObj.own [AV.s (SV.int IntKind.i64 ck), AV.s (SV.int IntKind.i64 nx), AV.s (SV.ro (Con.typ cP ps)), AV.s (SV.ro (Con.typ cI is)), AV.s (SV.ro (Con.typ cC cs)), AV.s (SV.ro (Con.typ cW ws))] (27 : Nat)] (AV.s (SV.bool (decide ((↑(List.length ps) : Int) > (12 : Int)))))))) := by kernel_rfl
def nsTo : List (Nat × Norm) := [(unrollKey + 3, ⟨[], [], 0, []⟩)]
theorem trTo  : run P tab0.sum Try.f32 nsTo (start Try.f32 [] []) =
  Tree.need ((1 : Nat) * (56 : Nat) ≤ (140737488355328 : Nat))
  (Tree.need ((1 : Nat) * (64 : Nat) ≤ (140737488355328 : Nat))
    (Tree.need (((1 : Nat) + (1 : Nat)) * (56 : Nat) ≤ (140737488355328 : Nat)) (Tree.need (((1 : Nat) + (1 : Nat)) * (64 : Nat) ≤ (140737488355328 : Nat)) (Tree.need (((2 : Nat) + (1 : Nat)) * (56 : Nat) ≤ (140737488355328 : Nat)) (Tree.need (((2 : Nat) + (1 : Nat)) * (64 : Nat) ≤ (140737488355328 : Nat)) (Tree.need (((3 : Nat) + (1 : Nat)) * (56 : Nat) ≤ (140737488355328 : Nat)) (Tree.need (((3 : Nat) + (1 : Nat)) * (64 : Nat) ≤ (140737488355328 : Nat)) (Tree.need (((4 : Nat) + (1 : Nat)) * (56 : Nat) ≤ (140737488355328 : Nat)) (Tree.need (((4 : Nat) + (1 : Nat)) * (64 : Nat) ≤ (140737488355328 : Nat)) (Tree.ret [AObj.own [AV.s (SV.ilit IntKind.i64 (7 : Int)), AV.s (SV.ilit IntKind.i64 (9 : Int)), AV.emp, AV.vec (1 : Nat), AV.vec (20 : Nat), AV.vec (22 : Nat)] (27 : Nat), AObj.vec (Con.typ cI [((1 : Int), (0 : Int), (1 : Int), ByteArray.empty, (-1 : Int), (0 : Int), (0 : Int), ByteArray.empty, ()), ((2 : Int), (1 : Int), (2 : Int), ByteArray.empty, (0 : Int), (0 : Int), (0 : Int), ByteArray.empty, ()), ((3 : Int), (2 : Int), (1 : Int), ByteArray.empty, (0 : Int), (0 : Int), (0 : Int), ByteArray.empty, ()), ((4 : Int), (3 : Int), (2 : Int), ByteArray.empty, (0 : Int), (0 : Int), (0 : Int), ByteArray.empty, ()), ((5 : Int), (1 : Int), (2 : Int), ByteArray.empty, (0 : Int), (0 : Int), (0 : Int), ByteArray.empty, ())]) (43 : Nat), AObj.own [AV.s (SV.ilit IntKind.i64 (7 : Int)), AV.s (SV.ilit IntKind.i64 (9 : Int)), AV.emp, AV.vec (1 : Nat), AV.vec (20 : Nat), AV.vec (22 : Nat)] (27 : Nat), AObj.vec (Con.typ cC [((1 : Int), ByteArray.mk #[(120 : UInt8)], (0 : Int), (0 : Int), ByteArray.empty, ())]) (90 : Nat), AObj.dead, AObj.vec (Con.typ cW [((11 : Int), (1 : Int), (0 : Int), (0 : Int), ByteArray.empty, (0 : Int), false, ())]) (93 : Nat), AObj.dead, AObj.vec (Con.typ cC [((2 : Int), ByteArray.mk #[(120 : UInt8)], (0 : Int), (0 : Int), ByteArray.empty, ())]) (90 : Nat), AObj.dead, AObj.vec (Con.typ cW [((12 : Int), (2 : Int), (0 : Int), (0 : Int), ByteArray.empty, (0 : Int), false, ())]) (93 : Nat), AObj.dead, AObj.vec (Con.typ cC [((3 : Int), ByteArray.mk #[(120 : UInt8)], (0 : Int), (0 : Int), ByteArray.empty, ())]) (90 : Nat), AObj.dead, AObj.vec (Con.typ cW [((13 : Int), (3 : Int), (0 : Int), (0 : Int), ByteArray.empty, (0 : Int), false, ())]) (93 : Nat), AObj.dead, AObj.vec (Con.typ cC [((4 : Int), ByteArray.mk #[(120 : UInt8)], (0 : Int), (0 : Int), ByteArray.empty, ())]) (90 : Nat), AObj.dead, AObj.vec (Con.typ cW [((14 : Int), (4 : Int), (0 : Int), (0 : Int), ByteArray.empty, (0 : Int), false, ())]) (93 : Nat), AObj.dead, AObj.vec (Con.typ cC [((5 : Int), ByteArray.mk #[(120 : UInt8)], (0 : Int), (0 : Int), ByteArray.empty, ())]) (90 : Nat), AObj.vec (Con.typ cC ([((1 : Int), ByteArray.mk #[(120 : UInt8)], (0 : Int), (0 : Int), ByteArray.empty, ())] ++ [((2 : Int), ByteArray.mk #[(120 : UInt8)], (0 : Int), (0 : Int), ByteArray.empty, ())] ++ [((3 : Int), ByteArray.mk #[(120 : UInt8)], (0 : Int), (0 : Int), ByteArray.empty, ())] ++ [((4 : Int), ByteArray.mk #[(120 : UInt8)], (0 : Int), (0 : Int), ByteArray.empty, ())] ++ [((5 : Int), ByteArray.mk #[(120 : UInt8)], (0 : Int), (0 : Int), ByteArray.empty, ())])) (90 : Nat), AObj.vec (Con.typ cW [((15 : Int), (5 : Int), (0 : Int), (0 : Int), ByteArray.empty, (0 : Int), false, ())]) (93 : Nat), AObj.vec (Con.typ cW ([((11 : Int), (1 : Int), (0 : Int), (0 : Int), ByteArray.empty, (0 : Int), false, ())] ++ [((12 : Int), (2 : Int), (0 : Int), (0 : Int), ByteArray.empty, (0 : Int), false, ())] ++ [((13 : Int), (3 : Int), (0 : Int), (0 : Int), ByteArray.empty, (0 : Int), false, ())] ++ [((14 : Int), (4 : Int), (0 : Int), (0 : Int), ByteArray.empty, (0 : Int), false, ())] ++ [((15 : Int), (5 : Int), (0 : Int), (0 : Int), ByteArray.empty, (0 : Int), false, ())])) (93 : Nat)] (AV.agg [AV.s (SV.ilit IntKind.i64 (7 : Int)), AV.s (SV.ilit IntKind.i64 (9 : Int)), AV.emp, AV.vec (1 : Nat), AV.vec (20 : Nat), AV.vec (22 : Nat)]))))))))))) := by kernel_rfl
theorem vars_ok {Z : Glob} : FnOk P Z 86 [tVs, tVs] [tBool] (fun (a, b, ()) => [(a : List (CL cV)) = b]) (fun _ => (true, ())) := by
  refine fnOk_of_safe Try.func86 (by kernel_rfl) (by kernel_rfl) ?_
  rintro ⟨(l : List (CL cV)), (l2 : List (CL cV)), ⟨⟩⟩ ⟨(hl : l.length ≤ maxLen), _⟩ ⟨(rfl : l = l2), _⟩ X hX hz
  have hl2 : l.length ≤ 9223372036854775807 := by unfold maxLen at hl; omega
  show Safe P 86 X (Ends [tBool] (true, ())) _
  have loop : ∀ (n k : Nat), k + n = l.length → Safe P 86 X (Ends [tBool] (true, ())) (cVs l (k : Int)) := by
    intro n
    induction n with
    | zero => exact fun k hk => go hz hX Tab.Ok.nil Try.func86 (loopVs l k) (no_and (decide_eq_false (by omega)) (ends_eq _ rfl (by kernel_rfl)))
    | succ n ih => exact fun k hk => go hz hX Tab.Ok.nil Try.func86 (loopVs l k) (yes_and (decide_eq_true (by omega)) ⟨by omega, by omega, by omega, by omega, no_and (by simp) ⟨⟨by omega, by omega⟩, ih (k + 1) (by omega)⟩⟩)
  exact go hz hX Tab.Ok.nil Try.func86 (trVs l) (no_and (by simp) (loop l.length 0 (by omega)))
theorem texts_ok {Z : Glob} : FnOk P Z 87 [tTx, tTx] [tBool] (fun (a, b, ()) => [(a : List ByteArray) = b]) (fun _ => (true, ())) := by
  refine fnOk_of_safe Try.func87 (by kernel_rfl) (by kernel_rfl) ?_
  rintro ⟨(l : List ByteArray), (l2 : List ByteArray), ⟨⟩⟩ ⟨(hl : l.length ≤ maxLen), _⟩ ⟨(rfl : l = l2), _⟩ X hX hz
  have hl2 : l.length ≤ 9223372036854775807 := by unfold maxLen at hl; omega
  show Safe P 87 X (Ends [tBool] (true, ())) _
  have loop : ∀ (n k : Nat), k + n = l.length → Safe P 87 X (Ends [tBool] (true, ())) (cTx l (k : Int)) := by
    intro n
    induction n with
    | zero => exact fun k hk => go hz hX Tab.Ok.nil Try.func87 (loopTx l k) (no_and (decide_eq_false (by omega)) (ends_eq _ rfl (by kernel_rfl)))
    | succ n ih => exact fun k hk => go hz hX Tab.Ok.nil Try.func87 (loopTx l k) (yes_and (decide_eq_true (by omega)) ⟨by omega, by omega, by omega, by omega, no_and (by simp) ⟨⟨by omega, by omega⟩, ih (k + 1) (by omega)⟩⟩)
  exact go hz hX Tab.Ok.nil Try.func87 (trTx l) (no_and (by simp) (loop l.length 0 (by omega)))
theorem tabPr_ok {Z : Glob} : tabPr.Ok P Z := Tab.Ok.cons vars_ok.sum (Tab.Ok.cons texts_ok.sum Tab.Ok.nil)
theorem proc_ok {Z : Glob} : FnOk P Z 58 [tPr, tPr] [tBool] (fun (a, b, ()) => [a = b]) (fun _ => (true, ())) := by
  refine fnOk_of_safe Try.func58 (by kernel_rfl) (by kernel_rfl) ?_
  rintro ⟨⟨(a : ByteArray), (vs : List (CL cV)), (ns : List (CL cN)), (fs : List (CL cF)), ⟨⟩⟩, p2, ⟨⟩⟩ ⟨⟨_, _, (hn : ns.length ≤ maxLen), (hf : fs.length ≤ maxLen), _⟩, _⟩ ⟨rfl, _⟩ X hX hz
  have hn2 : ns.length ≤ 9223372036854775807 := by unfold maxLen at hn; omega
  have hf2 : fs.length ≤ 9223372036854775807 := by unfold maxLen at hf; omega
  show Safe P 58 X (Ends [tBool] (true, ())) _
  have loop2 : ∀ (n k : Nat), k + n = fs.length → Safe P 58 X (Ends [tBool] (true, ())) (cPr2 a vs ns fs (k : Int)) := by
    intro n
    induction n with
    | zero => exact fun k hk => go hz hX tabPr_ok Try.func58 (loopPr2 a vs ns fs k) (no_and (decide_eq_false (by omega)) (ends_eq _ rfl (by kernel_rfl)))
    | succ n ih => exact fun k hk => go hz hX tabPr_ok Try.func58 (loopPr2 a vs ns fs k) (yes_and (decide_eq_true (by omega)) ⟨by omega, by omega, by omega, by omega, no_and (by simp) ⟨⟨by omega, by omega⟩, ih (k + 1) (by omega)⟩⟩)
  have loop : ∀ (n k : Nat), k + n = ns.length → Safe P 58 X (Ends [tBool] (true, ())) (cPr a vs ns fs (k : Int)) := by
    intro n
    induction n with
    | zero => exact fun k hk => go hz hX tabPr_ok Try.func58 (loopPr a vs ns fs k) (no_and (decide_eq_false (by omega)) (loop2 fs.length 0 (by omega)))
    | succ n ih =>
      exact fun k hk => go hz hX tabPr_ok Try.func58 (loopPr a vs ns fs k) (yes_and (decide_eq_true (by omega)) ⟨by omega, by omega, by omega, by omega,
        no_and (by simp) (no_and (by simp) (no_and (by simp) (no_and (by simp) (no_and (by simp) (no_and (by simp) (no_and (by simp) (no_and (by simp) (no_and (by simp) ⟨rfl, no_and rfl ⟨rfl, no_and rfl ⟨⟨by omega, by omega⟩, ih (k + 1) (by omega)⟩⟩⟩))))))))⟩)
  exact go hz hX tabPr_ok Try.func58 (trPr a vs ns fs) (no_and (by simp) ⟨rfl, no_and rfl (no_and (by simp) (no_and (by simp) (loop ns.length 0 (by omega))))⟩)
theorem tabSa_ok {Z : Glob} : tabSa.Ok P Z := Tab.Ok.cons proc_ok.sum Tab.Ok.nil
theorem same_ok {Z : Glob} : FnOk P Z 26 [tSt, tSt] [tBool] preSa (fun _ => (true, ())) := by
  refine fnOk_of_safe Try.func26 (by kernel_rfl) (by kernel_rfl) ?_
  rintro ⟨⟨(ck : Int), (nx : Int), (ps : Ps), (is : Is), (cs : Cs), (ws : Ws), ⟨⟩⟩, ⟨(ck' : Int), (nx' : Int), (ps' : Ps), (is' : Is), (cs' : Cs), (ws' : Ws), ⟨⟩⟩, ⟨⟩⟩ ⟨⟨_, _, (h1 : ps.length ≤ maxLen), (h2 : is.length ≤ maxLen), (h3 : cs.length ≤ maxLen), (h4 : ws.length ≤ maxLen), _⟩, _⟩ ⟨⟨rfl, rfl, rfl, rfl, rfl, rfl⟩, _⟩ X hX hz
  have hm : maxLen ≤ 9223372036854775807 := by unfold maxLen; omega
  show Safe P 26 X (Ends [tBool] (true, ())) _
  have loop4 : ∀ (n k : Nat), k + n = ws.length → Safe P 26 X (Ends [tBool] (true, ())) (cSa ck nx ps is cs ws 8 19 (k : Int)) := by
    intro n
    induction n with
    | zero => exact fun k hk => go hz hX tabSa_ok Try.func26 (loopSa4 ck nx ps is cs ws k) (no_and (decide_eq_false (by omega)) (ends_eq _ rfl (by kernel_rfl)))
    | succ n ih => exact fun k hk => go hz hX tabSa_ok Try.func26 (loopSa4 ck nx ps is cs ws k) (yes_and (decide_eq_true (by omega)) ⟨by omega, by omega, by omega, by omega, no_and (by simp) ⟨⟨by omega, by omega⟩, ih (k + 1) (by omega)⟩⟩)
  have loop3 : ∀ (n k : Nat), k + n = cs.length → Safe P 26 X (Ends [tBool] (true, ())) (cSa ck nx ps is cs ws 7 14 (k : Int)) := by
    intro n
    induction n with
    | zero => exact fun k hk => go hz hX tabSa_ok Try.func26 (loopSa3 ck nx ps is cs ws k) (no_and (decide_eq_false (by omega)) (loop4 ws.length 0 (by omega)))
    | succ n ih => exact fun k hk => go hz hX tabSa_ok Try.func26 (loopSa3 ck nx ps is cs ws k) (yes_and (decide_eq_true (by omega)) ⟨by omega, by omega, by omega, by omega, no_and (by simp) ⟨⟨by omega, by omega⟩, ih (k + 1) (by omega)⟩⟩)
  have loop2 : ∀ (n k : Nat), k + n = is.length → Safe P 26 X (Ends [tBool] (true, ())) (cSa ck nx ps is cs ws 6 9 (k : Int)) := by
    intro n
    induction n with
    | zero => exact fun k hk => go hz hX tabSa_ok Try.func26 (loopSa2 ck nx ps is cs ws k) (no_and (decide_eq_false (by omega)) (loop3 cs.length 0 (by omega)))
    | succ n ih => exact fun k hk => go hz hX tabSa_ok Try.func26 (loopSa2 ck nx ps is cs ws k) (yes_and (decide_eq_true (by omega)) ⟨by omega, by omega, by omega, by omega, no_and (by simp) ⟨⟨by omega, by omega⟩, ih (k + 1) (by omega)⟩⟩)
  have loop1 : ∀ (n k : Nat), k + n = ps.length → Safe P 26 X (Ends [tBool] (true, ())) (cSa ck nx ps is cs ws 5 4 (k : Int)) := by
    intro n
    induction n with
    | zero => exact fun k hk => go hz hX tabSa_ok Try.func26 (loopSa1 ck nx ps is cs ws k) (no_and (decide_eq_false (by omega)) (loop2 is.length 0 (by omega)))
    | succ n ih => exact fun k hk => go hz hX tabSa_ok Try.func26 (loopSa1 ck nx ps is cs ws k) (yes_and (decide_eq_true (by omega)) ⟨by omega, by omega, by omega, by omega, rfl, no_and rfl ⟨⟨by omega, by omega⟩, ih (k + 1) (by omega)⟩⟩)
  exact go hz hX tabSa_ok Try.func26 (trSa ck nx ps is cs ws) (no_and (by simp) (no_and (by simp) (no_and (by simp) (no_and (by simp) (no_and (by simp) (no_and (by simp) (loop1 ps.length 0 (by omega))))))))
end Ds

namespace Ds
open Go Go.Sx Go.Proofs Lf
/-! processes and nodes: what is found -/
abbrev tNoR : Ty := .st [.str, .int .u8, .int .i64, .int .i64, .int .u8, .str, .str, .str, .bool, .rrow (.typ cV) eV, .rrow .strs 9]
abbrev tPrr : Ty := .st [.str, .rrow (.typ cV) eV, .rrow (.typ cN) eN, .rrow (.typ cF) eF]
abbrev tTx1 : Ty := .b .str
abbrev avNo (x : CL cN) : AV := .agg [.s (.str (nN x)), .s (.int .u8 (nK x)), avI (nI x), avI (nO x), .s (.int .u8 (nE x)), .s (.str (nY x)), .s (.str (nT x)), .s (.str (nS x)), .s (.bool (nB x)), .s (.ro (.typ cV (nV x))), .s (.ro (.strs (nZ x)))]
abbrev obNo (x : CL cN) : AObj := .own [.s (.str (nN x)), .s (.int .u8 (nK x)), avI (nI x), avI (nO x), .s (.int .u8 (nE x)), .s (.str (nY x)), .s (.str (nT x)), .s (.str (nS x)), .s (.bool (nB x)), .s (.ro (.typ cV (nV x))), .s (.ro (.strs (nZ x)))] eN
/-! Def -/
abbrev fIp : FuncId := 46
def nsDf : List (Nat × Norm) := [((fIp + 1) * 100000 + 2, ⟨[], [0, 1, 7, 8, 21, 23, 24], 2, []⟩)]
abbrev inDf : List FuncId := [fIp, 47]
theorem trDf (ck nx : Int) (ps : Ps) (is : Is) (cs : Cs) (ws : Ws) (id : ByteArray) : run P tab0.sum Try.f15 nsDf (start Try.f15 [avSt ck nx ps is cs ws, .s (.str id)] []) inDf =
  Tree.at (Cfg.mk (sl (38 : Nat) [((0 : Nat), AV.s (SV.ro (Con.typ cP ps))), ((1 : Nat), AV.fn (47 : Nat) [AV.ptr (1 : Nat) (0 : Nat)]), ((7 : Nat), AV.s (SV.int IntKind.i64 (↑(List.length ps) : Int))), ((8 : Nat), AV.s (SV.int IntKind.i64 (0 : Int))), ((21 : Nat), AV.ptr (0 : Nat) (0 : Nat)), ((23 : Nat), AV.ptr (2 : Nat) (0 : Nat)), ((24 : Nat), AV.s (SV.bool false))]) [AObj.own [AV.s (SV.int IntKind.i64 ck), AV.s (SV.int IntKind.i64 nx), AV.s (SV.ro (Con.typ cP ps)), AV.s (SV.ro (Con.typ cI is)), AV.s (SV.ro (Con.typ cC cs)), AV.s (SV.ro (Con.typ cW ws))] (27 : Nat), AObj.own [AV.s (SV.str id)] (9 : Nat), AObj.own [AV.s (SV.str ByteArray.empty), AV.emp, AV.emp, AV.emp] (34 : Nat)] (hd Try.f46 (2 : Nat)) (Stk.mk (some (46 : Nat)) false (0 : Nat) [inCall Try.f15 none (1 : Nat) (3 : Nat) false (0 : Nat)] (0 : Nat))) := by kernel_rfl
/-! Choose -/
abbrev fIn2 : FuncId := 73
abbrev inCh : List FuncId := [fIn2, 74]
def nsCh : List (Nat × Norm) := [(unrollKey + 2, ⟨[], [], 0, []⟩), ((fIn2 + 1) * 100000 + 2, ⟨[], [0, 1, 7, 8, 20, 23, 25, 30, 33, 34], 0, []⟩)]
theorem trCh (a : ByteArray) (vs : List (CL cV)) (ns : List (CL cN)) (fs : List (CL cF)) (l : List Int) (ev : Int) (key : ByteArray) : run P tab0.sum Try.f44 nsCh (start Try.f44 [avPr a vs ns fs, avL l, .s (.int .u8 ev), .s (.str key)] []) inCh =
  Tree.need ((0 : Int) ≤ (0 : Int)) (Tree.need ((0 : Int) < (↑(2 : Nat) : Int)) (Tree.at (Cfg.mk (sl (47 : Nat) [((0 : Nat), AV.s (SV.ro (Con.ints IntKind.i64 l))), ((1 : Nat), AV.fn (74 : Nat) [AV.ptr (0 : Nat) (0 : Nat), AV.ptr (1 : Nat) (0 : Nat), AV.ptr (2 : Nat) (0 : Nat)]), ((7 : Nat), AV.s (SV.int IntKind.i64 (↑l.length : Int))), ((8 : Nat), AV.s (SV.int IntKind.i64 (0 : Int))), ((20 : Nat), AV.s (SV.ro (Con.ints IntKind.i64 l))), ((23 : Nat), AV.ptr (0 : Nat) (0 : Nat)), ((25 : Nat), AV.ptr (1 : Nat) (0 : Nat)), ((30 : Nat), AV.ptr (2 : Nat) (0 : Nat)), ((33 : Nat), AV.agg [AV.s (SV.str key), AV.s (SV.str ByteArray.empty)]), ((34 : Nat), AV.s (SV.int IntKind.i64 (0 : Int)))]) [AObj.own [AV.s (SV.str a), AV.s (SV.ro (Con.typ cV vs)), AV.s (SV.ro (Con.typ cN ns)), AV.s (SV.ro (Con.typ cF fs))] (34 : Nat), AObj.own [AV.s (SV.int IntKind.u8 ev)] (5 : Nat), AObj.own [AV.s (SV.str key)] (9 : Nat)] (hd Try.f73 (2 : Nat)) (Stk.mk (some (73 : Nat)) false (0 : Nat) [inCall Try.f44 none (4 : Nat) (2 : Nat) false (0 : Nat)] (0 : Nat))))) := by kernel_rfl
/-! nodes -/
abbrev fNs : FuncId := 122
abbrev inBo : List FuncId := [fNs, 123]
def nsBo : List (Nat × Norm) := [((fNs + 1) * 100000 + 3, ⟨[(5, .ints .i64 [], 3)], [1, 5, 9, 10, 11], 0, []⟩)]
theorem trBo (a : ByteArray) (vs : List (CL cV)) (ns : List (CL cN)) (fs : List (CL cF)) (id : Int) : run P tab0.sum Try.f99 nsBo (start Try.f99 [avPr a vs ns fs, avI id] []) inBo =
  Tree.at (Cfg.mk (sl (33 : Nat) [((1 : Nat), AV.fn (123 : Nat) [AV.ptr (0 : Nat) (0 : Nat)]), ((5 : Nat), AV.vec (1 : Nat)), ((9 : Nat), AV.s (SV.ro (Con.typ cN ns))), ((10 : Nat), AV.s (SV.int IntKind.i64 (↑ns.length : Int))), ((11 : Nat), AV.s (SV.int IntKind.i64 (0 : Int)))]) [AObj.own [AV.s (SV.int IntKind.i64 id)] (3 : Nat), AObj.vec (Con.ints IntKind.i64 []) (3 : Nat)] (hd Try.f122 (3 : Nat)) (Stk.mk (some (122 : Nat)) false (0 : Nat) [inCall Try.f99 none (1 : Nat) (2 : Nat) false (0 : Nat)] (0 : Nat))) := by kernel_rfl
abbrev inAs : List FuncId := [fNs, 124]
theorem trAs (a : ByteArray) (vs : List (CL cV)) (ns : List (CL cN)) (fs : List (CL cF)) (id : Int) : run P tab0.sum Try.f100 nsBo (start Try.f100 [avPr a vs ns fs, avI id] []) inAs =
  Tree.at (Cfg.mk (sl (33 : Nat) [((1 : Nat), AV.fn (124 : Nat) [AV.ptr (0 : Nat) (0 : Nat)]), ((5 : Nat), AV.vec (1 : Nat)), ((9 : Nat), AV.s (SV.ro (Con.typ cN ns))), ((10 : Nat), AV.s (SV.int IntKind.i64 (↑ns.length : Int))), ((11 : Nat), AV.s (SV.int IntKind.i64 (0 : Int)))]) [AObj.own [AV.s (SV.int IntKind.i64 id)] (3 : Nat), AObj.vec (Con.ints IntKind.i64 []) (3 : Nat)] (hd Try.f122 (3 : Nat)) (Stk.mk (some (122 : Nat)) false (0 : Nat) [inCall Try.f100 none (1 : Nat) (2 : Nat) false (0 : Nat)] (0 : Nat))) := by kernel_rfl
abbrev inSo : List FuncId := [fNs, 127, 125, 126]
theorem trSo (a : ByteArray) (vs : List (CL cV)) (ns : List (CL cN)) (fs : List (CL cF)) (id : Int) : run P tab0.sum Try.f101 nsBo (start Try.f101 [avPr a vs ns fs, avI id] []) inSo =
  Tree.ite (decide (id < (0 : Int))) (Tree.at (Cfg.mk (sl (45 : Nat) [((1 : Nat), AV.fn (127 : Nat) [AV.ptr (0 : Nat) (0 : Nat), AV.ptr (1 : Nat) (0 : Nat)]), ((5 : Nat), AV.vec (2 : Nat)), ((9 : Nat), AV.s (SV.ro (Con.typ cN ns))), ((10 : Nat), AV.s (SV.int IntKind.i64 (↑ns.length : Int))), ((11 : Nat), AV.s (SV.int IntKind.i64 (0 : Int)))]) [AObj.own [AV.s (SV.int IntKind.i64 id)] (3 : Nat), AObj.own [AV.s (SV.str ByteArray.empty), AV.s (SV.int IntKind.u8 (0 : Int)), AV.s (SV.int IntKind.i64 (0 : Int)), AV.s (SV.int IntKind.i64 (0 : Int)), AV.s (SV.int IntKind.u8 (0 : Int)), AV.s (SV.str ByteArray.empty), AV.s (SV.str ByteArray.empty), AV.s (SV.str ByteArray.empty), AV.s (SV.bool false), AV.emp, AV.emp] (37 : Nat), AObj.vec (Con.ints IntKind.i64 []) (3 : Nat)] (hd Try.f122 (3 : Nat)) (Stk.mk (some (122 : Nat)) false (0 : Nat) [inCall Try.f101 none (2 : Nat) (2 : Nat) false (0 : Nat)] (0 : Nat)))) (Tree.ite (decide (id ≥ (↑ns.length : Int))) (Tree.at (Cfg.mk (sl (45 : Nat) [((1 : Nat), AV.fn (127 : Nat) [AV.ptr (0 : Nat) (0 : Nat), AV.ptr (1 : Nat) (0 : Nat)]), ((5 : Nat), AV.vec (2 : Nat)), ((9 : Nat), AV.s (SV.ro (Con.typ cN ns))), ((10 : Nat), AV.s (SV.int IntKind.i64 (↑ns.length : Int))), ((11 : Nat), AV.s (SV.int IntKind.i64 (0 : Int)))]) [AObj.own [AV.s (SV.int IntKind.i64 id)] (3 : Nat), AObj.own [AV.s (SV.str ByteArray.empty), AV.s (SV.int IntKind.u8 (0 : Int)), AV.s (SV.int IntKind.i64 (0 : Int)), AV.s (SV.int IntKind.i64 (0 : Int)), AV.s (SV.int IntKind.u8 (0 : Int)), AV.s (SV.str ByteArray.empty), AV.s (SV.str ByteArray.empty), AV.s (SV.str ByteArray.empty), AV.s (SV.bool false), AV.emp, AV.emp] (37 : Nat), AObj.vec (Con.ints IntKind.i64 []) (3 : Nat)] (hd Try.f122 (3 : Nat)) (Stk.mk (some (122 : Nat)) false (0 : Nat) [inCall Try.f101 none (2 : Nat) (2 : Nat) false (0 : Nat)] (0 : Nat)))) (Tree.need ((0 : Int) ≤ id) (Tree.need (id < (↑ns.length : Int)) (Tree.at (Cfg.mk (sl (45 : Nat) [((1 : Nat), AV.fn (127 : Nat) [AV.ptr (0 : Nat) (0 : Nat), AV.ptr (1 : Nat) (0 : Nat)]), ((5 : Nat), AV.vec (2 : Nat)), ((9 : Nat), AV.s (SV.ro (Con.typ cN ns))), ((10 : Nat), AV.s (SV.int IntKind.i64 (↑ns.length : Int))), ((11 : Nat), AV.s (SV.int IntKind.i64 (0 : Int)))]) [AObj.own [AV.s (SV.int IntKind.i64 id)] (3 : Nat), AObj.own [AV.s (SV.str (nN (el ns id))), AV.s (SV.int IntKind.u8 (nK (el ns id))), AV.s (SV.int IntKind.i64 (nI (el ns id))), AV.s (SV.int IntKind.i64 (nO (el ns id))), AV.s (SV.int IntKind.u8 (nE (el ns id))), AV.s (SV.str (nY (el ns id))), AV.s (SV.str (nT (el ns id))), AV.s (SV.str (nS (el ns id))), AV.s (SV.bool (nB (el ns id))), AV.s (SV.ro (Con.typ cV (nV (el ns id)))), AV.s (SV.ro (Con.strs (nZ (el ns id))))] (37 : Nat), AObj.vec (Con.ints IntKind.i64 []) (3 : Nat)] (hd Try.f122 (3 : Nat)) (Stk.mk (some (122 : Nat)) false (0 : Nat) [inCall Try.f101 none (2 : Nat) (2 : Nat) false (0 : Nat)] (0 : Nat))))))) := by kernel_rfl
end Ds

namespace Ds
open Go Go.Sx Go.Proofs Lf
noncomputable def cDf (ck nx : Int) (ps : Ps) (is : Is) (cs : Cs) (ws : Ws) (id : ByteArray) (i : Int) : Cfg := ⟨sl 38 [(0, .s (.ro (.typ cP ps))), (1, .fn 47 [.ptr 1 0]), (7, avI (ps.length : Int)), (8, avI i), (21, .ptr 0 0), (23, .ptr 2 0), (24, .s (.bool false))], [obSt ck nx ps is cs ws, .own [.s (.str id)] 9, .own [.s (.str ByteArray.empty), .emp, .emp, .emp] eP], hd Try.f46 2, ⟨some fIp, false, 0, [inCall Try.f15 none 1 3 false 0], 0⟩⟩
theorem loopDf (ck nx : Int) (ps : Ps) (is : Is) (cs : Cs) (ws : Ws) (id : ByteArray) (i : Int) : run P tab0.sum Try.f15 nsDf (cDf ck nx ps is cs ws id i) inDf =
  Tree.ite (decide (i < (↑(List.length ps) : Int))) (Tree.need ((0 : Int) ≤ i) (Tree.need (i < (↑(List.length ps) : Int)) (Tree.ite (decide (pN (el ps i) = id)) (Tree.ite (decide (i < (0 : Int))) (Tree.ret [AObj.own [AV.s (SV.int IntKind.i64 ck), AV.s (SV.int IntKind.i64 nx), AV.s (SV.ro (Con.typ cP ps)), AV.s (SV.ro (Con.typ cI is)), AV.s (SV.ro (Con.typ cC cs)), AV.s (SV.ro (Con.typ cW ws))] (27 : Nat), AObj.own [AV.s (SV.str id)] (9 : Nat), AObj.own [AV.s (SV.str ByteArray.empty), AV.emp, AV.emp, AV.emp] (34 : Nat), AObj.own [AV.s (SV.str (pN (el ps i))), AV.s (SV.ro (Con.typ cV (pV (el ps i)))), AV.s (SV.ro (Con.typ cN (pO (el ps i)))), AV.s (SV.ro (Con.typ cF (pF (el ps i))))] (34 : Nat)] (AV.tup [AV.agg [AV.s (SV.str ByteArray.empty), AV.emp, AV.emp, AV.emp], AV.s (SV.blit false)])) (Tree.need ((0 : Int) ≤ i) (Tree.need (i < (↑(List.length ps) : Int)) (Tree.ret [AObj.own [AV.s (SV.int IntKind.i64 ck), AV.s (SV.int IntKind.i64 nx), AV.s (SV.ro (Con.typ cP ps)), AV.s (SV.ro (Con.typ cI is)), AV.s (SV.ro (Con.typ cC cs)), AV.s (SV.ro (Con.typ cW ws))] (27 : Nat), AObj.own [AV.s (SV.str id)] (9 : Nat), AObj.own [AV.s (SV.str (pN (el ps i))), AV.s (SV.ro (Con.typ cV (pV (el ps i)))), AV.s (SV.ro (Con.typ cN (pO (el ps i)))), AV.s (SV.ro (Con.typ cF (pF (el ps i))))] (34 : Nat), AObj.own [AV.s (SV.str (pN (el ps i))), AV.s (SV.ro (Con.typ cV (pV (el ps i)))), AV.s (SV.ro (Con.typ cN (pO (el ps i)))), AV.s (SV.ro (Con.typ cF (pF (el ps i))))] (34 : Nat)] (AV.tup [AV.agg [AV.s (SV.str (pN (el ps i))), AV.s (SV.ro (Con.typ cV (pV (el ps i)))), AV.s (SV.ro (Con.typ cN (pO (el ps i)))), AV.s (SV.ro (Con.typ cF (pF (el ps i))))], AV.s (SV.blit true)]))))) (Tree.need (inI64 (i + (1 : Int))) (Tree.at (Cfg.mk (sl (38 : Nat) [((0 : Nat), AV.s (SV.ro (Con.typ cP ps))), ((1 : Nat), AV.fn (47 : Nat) [AV.ptr (1 : Nat) (0 : Nat)]), ((7 : Nat), AV.s (SV.int IntKind.i64 (↑(List.length ps) : Int))), ((8 : Nat), AV.s (SV.int IntKind.i64 (i + (1 : Int)))), ((21 : Nat), AV.ptr (0 : Nat) (0 : Nat)), ((23 : Nat), AV.ptr (2 : Nat) (0 : Nat)), ((24 : Nat), AV.s (SV.bool false))]) [AObj.own [AV.s (SV.int IntKind.i64 ck), AV.s (SV.int IntKind.i64 nx), AV.s (SV.ro (Con.typ cP ps)), AV.s (SV.ro (Con.typ cI is)), AV.s (SV.ro (Con.typ cC cs)), AV.s (SV.ro (Con.typ cW ws))] (27 : Nat), AObj.own [AV.s (SV.str id)] (9 : Nat), AObj.own [AV.s (SV.str ByteArray.empty), AV.emp, AV.emp, AV.emp] (34 : Nat)] (hd Try.f46 (2 : Nat)) (Stk.mk (some (46 : Nat)) false (0 : Nat) [inCall Try.f15 none (1 : Nat) (3 : Nat) false (0 : Nat)] (0 : Nat)))))))) (Tree.ret [AObj.own [AV.s (SV.int IntKind.i64 ck), AV.s (SV.int IntKind.i64 nx), AV.s (SV.ro (Con.typ cP ps)), AV.s (SV.ro (Con.typ cI is)), AV.s (SV.ro (Con.typ cC cs)), AV.s (SV.ro (Con.typ cW ws))] (27 : Nat), AObj.own [AV.s (SV.str id)] (9 : Nat), AObj.own [AV.s (SV.str ByteArray.empty), AV.emp, AV.emp, AV.emp] (34 : Nat)] (AV.tup [AV.agg [AV.s (SV.str ByteArray.empty), AV.emp, AV.emp, AV.emp], AV.s (SV.blit false)])) := by kernel_rfl
noncomputable def cCh (a : ByteArray) (vs : List (CL cV)) (ns : List (CL cN)) (fs : List (CL cF)) (l : List Int) (ev : Int) (key k : ByteArray) (j i : Int) : Cfg := ⟨sl 47 [(0, avL l), (1, .fn 74 [.ptr 0 0, .ptr 1 0, .ptr 2 0]), (7, avI (l.length : Int)), (8, avI i), (20, avL l), (23, .ptr 0 0), (25, .ptr 1 0), (30, .ptr 2 0), (33, .agg [.s (.str key), .s (.str ByteArray.empty)]), (34, avI j)], [obPr a vs ns fs, .own [.s (.int .u8 ev)] 5, .own [.s (.str k)] 9], hd Try.f73 2, ⟨some fIn2, false, 0, [inCall Try.f44 none 4 2 false 0], 0⟩⟩
noncomputable def cNd (b : FuncId) (fn : Func) (r j : Nat) (id : Int) (ns : List (CL cN)) (l : List Int) (i : Int) : Cfg := ⟨sl 33 [(1, .fn b [.ptr 0 0]), (5, .vec 1), (9, .s (.ro (.typ cN ns))), (10, avI (ns.length : Int)), (11, avI i)], [.own [avI id] 3, .vec (.ints .i64 l) 3], hd Try.f122 3, ⟨some fNs, false, 0, [inCall fn none r j false 0], 0⟩⟩
theorem loopBo (id : Int) (ns : List (CL cN)) (l : List Int) (i : Int) : run P tab0.sum Try.f99 nsBo (cNd 123 Try.f99 1 2 id ns l i) inBo =
  Tree.ite (decide (i < (↑ns.length : Int))) (Tree.need ((0 : Int) ≤ i) (Tree.need (i < (↑ns.length : Int)) (Tree.ite (nK (el ns i) == (15 : Int)) (Tree.ite (nO (el ns i) == id) (Tree.need ((l.length + (1 : Nat)) * (8 : Nat) ≤ (140737488355328 : Nat)) (Tree.need (inI64 (i + (1 : Int))) (Tree.at (Cfg.mk (sl (33 : Nat) [((1 : Nat), AV.fn (123 : Nat) [AV.ptr (0 : Nat) (0 : Nat)]), ((5 : Nat), AV.vec (1 : Nat)), ((9 : Nat), AV.s (SV.ro (Con.typ cN ns))), ((10 : Nat), AV.s (SV.int IntKind.i64 (↑ns.length : Int))), ((11 : Nat), AV.s (SV.int IntKind.i64 (i + (1 : Int))))]) [AObj.own [AV.s (SV.int IntKind.i64 id)] (3 : Nat), AObj.vec (Con.ints IntKind.i64 (l ++ [i])) (3 : Nat)] (hd Try.f122 (3 : Nat)) (Stk.mk (some (122 : Nat)) false (0 : Nat) [inCall Try.f99 none (1 : Nat) (2 : Nat) false (0 : Nat)] (0 : Nat)))))) (Tree.need (inI64 (i + (1 : Int))) (Tree.at (Cfg.mk (sl (33 : Nat) [((1 : Nat), AV.fn (123 : Nat) [AV.ptr (0 : Nat) (0 : Nat)]), ((5 : Nat), AV.vec (1 : Nat)), ((9 : Nat), AV.s (SV.ro (Con.typ cN ns))), ((10 : Nat), AV.s (SV.int IntKind.i64 (↑ns.length : Int))), ((11 : Nat), AV.s (SV.int IntKind.i64 (i + (1 : Int))))]) [AObj.own [AV.s (SV.int IntKind.i64 id)] (3 : Nat), AObj.vec (Con.ints IntKind.i64 l) (3 : Nat)] (hd Try.f122 (3 : Nat)) (Stk.mk (some (122 : Nat)) false (0 : Nat) [inCall Try.f99 none (1 : Nat) (2 : Nat) false (0 : Nat)] (0 : Nat)))))) (Tree.need (inI64 (i + (1 : Int))) (Tree.at (Cfg.mk (sl (33 : Nat) [((1 : Nat), AV.fn (123 : Nat) [AV.ptr (0 : Nat) (0 : Nat)]), ((5 : Nat), AV.vec (1 : Nat)), ((9 : Nat), AV.s (SV.ro (Con.typ cN ns))), ((10 : Nat), AV.s (SV.int IntKind.i64 (↑ns.length : Int))), ((11 : Nat), AV.s (SV.int IntKind.i64 (i + (1 : Int))))]) [AObj.own [AV.s (SV.int IntKind.i64 id)] (3 : Nat), AObj.vec (Con.ints IntKind.i64 l) (3 : Nat)] (hd Try.f122 (3 : Nat)) (Stk.mk (some (122 : Nat)) false (0 : Nat) [inCall Try.f99 none (1 : Nat) (2 : Nat) false (0 : Nat)] (0 : Nat)))))))) (Tree.ret [AObj.own [AV.s (SV.int IntKind.i64 id)] (3 : Nat), AObj.vec (Con.ints IntKind.i64 l) (3 : Nat)] (AV.vec (1 : Nat))) := by kernel_rfl
theorem loopAs (id : Int) (ns : List (CL cN)) (l : List Int) (i : Int) : run P tab0.sum Try.f100 nsBo (cNd 124 Try.f100 1 2 id ns l i) inAs =
  Tree.ite (decide (i < (↑ns.length : Int))) (Tree.need ((0 : Int) ≤ i) (Tree.need (i < (↑ns.length : Int)) (Tree.ite (nK (el ns i) == (13 : Int)) (Tree.ite (nI (el ns i) == id) (Tree.need ((l.length + (1 : Nat)) * (8 : Nat) ≤ (140737488355328 : Nat)) (Tree.need (inI64 (i + (1 : Int))) (Tree.at (Cfg.mk (sl (33 : Nat) [((1 : Nat), AV.fn (124 : Nat) [AV.ptr (0 : Nat) (0 : Nat)]), ((5 : Nat), AV.vec (1 : Nat)), ((9 : Nat), AV.s (SV.ro (Con.typ cN ns))), ((10 : Nat), AV.s (SV.int IntKind.i64 (↑ns.length : Int))), ((11 : Nat), AV.s (SV.int IntKind.i64 (i + (1 : Int))))]) [AObj.own [AV.s (SV.int IntKind.i64 id)] (3 : Nat), AObj.vec (Con.ints IntKind.i64 (l ++ [i])) (3 : Nat)] (hd Try.f122 (3 : Nat)) (Stk.mk (some (122 : Nat)) false (0 : Nat) [inCall Try.f100 none (1 : Nat) (2 : Nat) false (0 : Nat)] (0 : Nat)))))) (Tree.need (inI64 (i + (1 : Int))) (Tree.at (Cfg.mk (sl (33 : Nat) [((1 : Nat), AV.fn (124 : Nat) [AV.ptr (0 : Nat) (0 : Nat)]), ((5 : Nat), AV.vec (1 : Nat)), ((9 : Nat), AV.s (SV.ro (Con.typ cN ns))), ((10 : Nat), AV.s (SV.int IntKind.i64 (↑ns.length : Int))), ((11 : Nat), AV.s (SV.int IntKind.i64 (i + (1 : Int))))]) [AObj.own [AV.s (SV.int IntKind.i64 id)] (3 : Nat), AObj.vec (Con.ints IntKind.i64 l) (3 : Nat)] (hd Try.f122 (3 : Nat)) (Stk.mk (some (122 : Nat)) false (0 : Nat) [inCall Try.f100 none (1 : Nat) (2 : Nat) false (0 : Nat)] (0 : Nat)))))) (Tree.need (inI64 (i + (1 : Int))) (Tree.at (Cfg.mk (sl (33 : Nat) [((1 : Nat), AV.fn (124 : Nat) [AV.ptr (0 : Nat) (0 : Nat)]), ((5 : Nat), AV.vec (1 : Nat)), ((9 : Nat), AV.s (SV.ro (Con.typ cN ns))), ((10 : Nat), AV.s (SV.int IntKind.i64 (↑ns.length : Int))), ((11 : Nat), AV.s (SV.int IntKind.i64 (i + (1 : Int))))]) [AObj.own [AV.s (SV.int IntKind.i64 id)] (3 : Nat), AObj.vec (Con.ints IntKind.i64 l) (3 : Nat)] (hd Try.f122 (3 : Nat)) (Stk.mk (some (122 : Nat)) false (0 : Nat) [inCall Try.f100 none (1 : Nat) (2 : Nat) false (0 : Nat)] (0 : Nat)))))))) (Tree.ret [AObj.own [AV.s (SV.int IntKind.i64 id)] (3 : Nat), AObj.vec (Con.ints IntKind.i64 l) (3 : Nat)] (AV.vec (1 : Nat))) := by kernel_rfl
def nsSo : List (Nat × Norm) := [((fNs + 1) * 100000 + 3, ⟨[(5, .ints .i64 [], 3)], [1, 5, 9, 10, 11], 0, [(1, 9, true, .typ cV [], eV), (1, 10, true, .strs [], 9)]⟩)]
theorem trSo2 (a : ByteArray) (vs : List (CL cV)) (ns : List (CL cN)) (fs : List (CL cF)) (id : Int) : run P tab0.sum Try.f101 nsSo (start Try.f101 [avPr a vs ns fs, avI id] []) inSo =
  Tree.ite (decide (id < (0 : Int))) (Tree.at (Cfg.mk (sl (45 : Nat) [((1 : Nat), AV.fn (127 : Nat) [AV.ptr (0 : Nat) (0 : Nat), AV.ptr (1 : Nat) (0 : Nat)]), ((5 : Nat), AV.vec (2 : Nat)), ((9 : Nat), AV.s (SV.ro (Con.typ cN ns))), ((10 : Nat), AV.s (SV.int IntKind.i64 (↑ns.length : Int))), ((11 : Nat), AV.s (SV.int IntKind.i64 (0 : Int)))]) [AObj.own [AV.s (SV.int IntKind.i64 id)] (3 : Nat), AObj.own [AV.s (SV.str ByteArray.empty), AV.s (SV.int IntKind.u8 (0 : Int)), AV.s (SV.int IntKind.i64 (0 : Int)), AV.s (SV.int IntKind.i64 (0 : Int)), AV.s (SV.int IntKind.u8 (0 : Int)), AV.s (SV.str ByteArray.empty), AV.s (SV.str ByteArray.empty), AV.s (SV.str ByteArray.empty), AV.s (SV.bool false), AV.s (SV.ro (Con.typ cV [])), AV.s (SV.ro (Con.strs []))] (37 : Nat), AObj.vec (Con.ints IntKind.i64 []) (3 : Nat)] (hd Try.f122 (3 : Nat)) (Stk.mk (some (122 : Nat)) false (0 : Nat) [inCall Try.f101 none (2 : Nat) (2 : Nat) false (0 : Nat)] (0 : Nat)))) (Tree.ite (decide (id ≥ (↑ns.length : Int))) (Tree.at (Cfg.mk (sl (45 : Nat) [((1 : Nat), AV.fn (127 : Nat) [AV.ptr (0 : Nat) (0 : Nat), AV.ptr (1 : Nat) (0 : Nat)]), ((5 : Nat), AV.vec (2 : Nat)), ((9 : Nat), AV.s (SV.ro (Con.typ cN ns))), ((10 : Nat), AV.s (SV.int IntKind.i64 (↑ns.length : Int))), ((11 : Nat), AV.s (SV.int IntKind.i64 (0 : Int)))]) [AObj.own [AV.s (SV.int IntKind.i64 id)] (3 : Nat), AObj.own [AV.s (SV.str ByteArray.empty), AV.s (SV.int IntKind.u8 (0 : Int)), AV.s (SV.int IntKind.i64 (0 : Int)), AV.s (SV.int IntKind.i64 (0 : Int)), AV.s (SV.int IntKind.u8 (0 : Int)), AV.s (SV.str ByteArray.empty), AV.s (SV.str ByteArray.empty), AV.s (SV.str ByteArray.empty), AV.s (SV.bool false), AV.s (SV.ro (Con.typ cV [])), AV.s (SV.ro (Con.strs []))] (37 : Nat), AObj.vec (Con.ints IntKind.i64 []) (3 : Nat)] (hd Try.f122 (3 : Nat)) (Stk.mk (some (122 : Nat)) false (0 : Nat) [inCall Try.f101 none (2 : Nat) (2 : Nat) false (0 : Nat)] (0 : Nat)))) (Tree.need ((0 : Int) ≤ id) (Tree.need (id < (↑ns.length : Int)) (Tree.at (Cfg.mk (sl (45 : Nat) [((1 : Nat), AV.fn (127 : Nat) [AV.ptr (0 : Nat) (0 : Nat), AV.ptr (1 : Nat) (0 : Nat)]), ((5 : Nat), AV.vec (2 : Nat)), ((9 : Nat), AV.s (SV.ro (Con.typ cN ns))), ((10 : Nat), AV.s (SV.int IntKind.i64 (↑ns.length : Int))), ((11 : Nat), AV.s (SV.int IntKind.i64 (0 : Int)))]) [AObj.own [AV.s (SV.int IntKind.i64 id)] (3 : Nat), AObj.own [AV.s (SV.str (nN (el ns id))), AV.s (SV.int IntKind.u8 (nK (el ns id))), AV.s (SV.int IntKind.i64 (nI (el ns id))), AV.s (SV.int IntKind.i64 (nO (el ns id))), AV.s (SV.int IntKind.u8 (nE (el ns id))), AV.s (SV.str (nY (el ns id))), AV.s (SV.str (nT (el ns id))), AV.s (SV.str (nS (el ns id))), AV.s (SV.bool (nB (el ns id))), AV.s (SV.ro (Con.typ cV (nV (el ns id)))), AV.s (SV.ro (Con.strs (nZ (el ns id))))] (37 : Nat), AObj.vec (Con.ints IntKind.i64 []) (3 : Nat)] (hd Try.f122 (3 : Nat)) (Stk.mk (some (122 : Nat)) false (0 : Nat) [inCall Try.f101 none (2 : Nat) (2 : Nat) false (0 : Nat)] (0 : Nat))))))) := by kernel_rfl
noncomputable def cSo (id : Int) (x : CL cN) (ns : List (CL cN)) (l : List Int) (i : Int) : Cfg := ⟨sl 45 [(1, .fn 127 [.ptr 0 0, .ptr 1 0]), (5, .vec 2), (9, .s (.ro (.typ cN ns))), (10, avI (ns.length : Int)), (11, avI i)], [.own [avI id] 3, obNo x, .vec (.ints .i64 l) 3], hd Try.f122 3, ⟨some fNs, false, 0, [inCall Try.f101 none 2 2 false 0], 0⟩⟩
theorem loopSo (id : Int) (x : CL cN) (ns : List (CL cN)) (l : List Int) (i : Int) : run P tab0.sum Try.f101 nsSo (cSo id x ns l i) inSo =
  Tree.ite (decide (i < (↑ns.length : Int)))
  (Tree.need ((0 : Int) ≤ i)
    (Tree.need (i < (↑ns.length : Int))
      (Tree.ite (nK (el ns i) == (1 : Int)) (Tree.ite (nI (el ns i) == id) (Tree.ite (nE (el ns i) == (0 : Int)) (Tree.need ((l.length + (1 : Nat)) * (8 : Nat) ≤ (140737488355328 : Nat)) (Tree.need (inI64 (i + (1 : Int))) (Tree.at (Cfg.mk (sl (45 : Nat) [((1 : Nat), AV.fn (127 : Nat) [AV.ptr (0 : Nat) (0 : Nat), AV.ptr (1 : Nat) (0 : Nat)]), ((5 : Nat), AV.vec (2 : Nat)), ((9 : Nat), AV.s (SV.ro (Con.typ cN ns))), ((10 : Nat), AV.s (SV.int IntKind.i64 (↑ns.length : Int))), ((11 : Nat), AV.s (SV.int IntKind.i64 (i + (1 : Int))))]) [AObj.own [AV.s (SV.int IntKind.i64 id)] (3 : Nat), AObj.own [AV.s (SV.str (nN x)), AV.s (SV.int IntKind.u8 (nK x)), AV.s (SV.int IntKind.i64 (nI x)), AV.s (SV.int IntKind.i64 (nO x)), AV.s (SV.int IntKind.u8 (nE x)), AV.s (SV.str (nY x)), AV.s (SV.str (nT x)), AV.s (SV.str (nS x)), AV.s (SV.bool (nB x)), AV.s (SV.ro (Con.typ cV (nV x))), AV.s (SV.ro (Con.strs (nZ x)))] (37 : Nat), AObj.vec (Con.ints IntKind.i64 (l ++ [i])) (3 : Nat)] (hd Try.f122 (3 : Nat)) (Stk.mk (some (122 : Nat)) false (0 : Nat) [inCall Try.f101 none (2 : Nat) (2 : Nat) false (0 : Nat)] (0 : Nat)))))) (Tree.ite (nK x == (13 : Int)) (Tree.need ((l.length + (1 : Nat)) * (8 : Nat) ≤ (140737488355328 : Nat)) (Tree.need (inI64 (i + (1 : Int))) (Tree.at (Cfg.mk (sl (45 : Nat) [((1 : Nat), AV.fn (127 : Nat) [AV.ptr (0 : Nat) (0 : Nat), AV.ptr (1 : Nat) (0 : Nat)]), ((5 : Nat), AV.vec (2 : Nat)), ((9 : Nat), AV.s (SV.ro (Con.typ cN ns))), ((10 : Nat), AV.s (SV.int IntKind.i64 (↑ns.length : Int))), ((11 : Nat), AV.s (SV.int IntKind.i64 (i + (1 : Int))))]) [AObj.own [AV.s (SV.int IntKind.i64 id)] (3 : Nat), AObj.own [AV.s (SV.str (nN x)), AV.s (SV.int IntKind.u8 (nK x)), AV.s (SV.int IntKind.i64 (nI x)), AV.s (SV.int IntKind.i64 (nO x)), AV.s (SV.int IntKind.u8 (nE x)), AV.s (SV.str (nY x)), AV.s (SV.str (nT x)), AV.s (SV.str (nS x)), AV.s (SV.bool (nB x)), AV.s (SV.ro (Con.typ cV (nV x))), AV.s (SV.ro (Con.strs (nZ x)))] (37 : Nat), AObj.vec (Con.ints IntKind.i64 (l ++ [i])) (3 : Nat)] (hd Try.f122 (3 : Nat)) (Stk.mk (some (122 : Nat)) false (0 : Nat) [inCall Try.f101 none (2 : Nat) (2 : Nat) false (0 : Nat)] (0 : Nat)))))) (Tree.need (inI64 (i + (1 : Int))) (Tree.at (Cfg.mk (sl (45 : Nat) [((1 : Nat), AV.fn (127 : Nat) [AV.ptr (0 : Nat) (0 : Nat), AV.ptr (1 : Nat) (0 : Nat)]), ((5 : Nat), AV.vec (2 : Nat)), ((9 : Nat), AV.s (SV.ro (Con.typ cN ns))), ((10 : Nat), AV.s (SV.int IntKind.i64 (↑ns.length : Int))), ((11 : Nat), AV.s (SV.int IntKind.i64 (i + (1 : Int))))]) [AObj.own [AV.s (SV.int IntKind.i64 id)] (3 : Nat), AObj.own [AV.s (SV.str (nN x)), AV.s (SV.int IntKind.u8 (nK x)), AV.s (SV.int IntKind.i64 (nI x)), AV.s (SV.int IntKind.i64 (nO x)), AV.s (SV.int IntKind.u8 (nE x)), AV.s (SV.str (nY x)), AV.s (SV.str (nT x)), AV.s (SV.str (nS x)), AV.s (SV.bool (nB x)), AV.s (SV.ro (Con.typ cV (nV x))), AV.s (SV.ro (Con.strs (nZ x)))] (37 : Nat), AObj.vec (Con.ints IntKind.i64 l) (3 : Nat)] (hd Try.f122 (3 : Nat)) (Stk.mk (some (122 : Nat)) false (0 : Nat) [inCall Try.f101 none (2 : Nat) (2 : Nat) false (0 : Nat)] (0 : Nat))))))) (Tree.need (inI64 (i + (1 : Int))) (Tree.at (Cfg.mk (sl (45 : Nat) [((1 : Nat), AV.fn (127 : Nat) [AV.ptr (0 : Nat) (0 : Nat), AV.ptr (1 : Nat) (0 : Nat)]), ((5 : Nat), AV.vec (2 : Nat)), ((9 : Nat), AV.s (SV.ro (Con.typ cN ns))), ((10 : Nat), AV.s (SV.int IntKind.i64 (↑ns.length : Int))), ((11 : Nat), AV.s (SV.int IntKind.i64 (i + (1 : Int))))]) [AObj.own [AV.s (SV.int IntKind.i64 id)] (3 : Nat), AObj.own [AV.s (SV.str (nN x)), AV.s (SV.int IntKind.u8 (nK x)), AV.s (SV.int IntKind.i64 (nI x)), AV.s (SV.int IntKind.i64 (nO x)), AV.s (SV.int IntKind.u8 (nE x)), AV.s (SV.str (nY x)), AV.s (SV.str (nT x)), AV.s (SV.str (nS x)), AV.s (SV.bool (nB x)), AV.s (SV.ro (Con.typ cV (nV x))), AV.s (SV.ro (Con.strs (nZ x)))] (37 : Nat), AObj.vec (Con.ints IntKind.i64 l) (3 : Nat)] (hd Try.f122 (3 : Nat)) (Stk.mk (some (122 : Nat)) false (0 : Nat) [inCall Try.f101 none (2 : Nat) (2 : Nat) false (0 : Nat)] (0 : Nat))))))
        (Tree.need (inI64 (i + (1 : Int))) (Tree.at (Cfg.mk (sl (45 : Nat) [((1 : Nat), AV.fn (127 : Nat) [AV.ptr (0 : Nat) (0 : Nat), AV.ptr (1 : Nat) (0 : Nat)]), ((5 : Nat), AV.vec (2 : Nat)), ((9 : Nat), AV.s (SV.ro (Con.typ cN ns))), ((10 : Nat), AV.s (SV.int IntKind.i64 (↑ns.length : Int))), ((11 : Nat), AV.s (SV.int IntKind.i64 (i + (1 : Int))))]) [AObj.own [AV.s (SV.int IntKind.i64 id)] (3 : Nat), AObj.own [AV.s (SV.str (nN x)), AV.s (SV.int IntKind.u8 (nK x)), AV.s (SV.int IntKind.i64 (nI x)), AV.s (SV.int IntKind.i64 (nO x)), AV.s (SV.int IntKind.u8 (nE x)), AV.s (SV.str (nY x)), AV.s (SV.str (nT x)), AV.s (SV.str (nS x)), AV.s (SV.bool (nB x)), AV.s (SV.ro (Con.typ cV (nV x))), AV.s (SV.ro (Con.strs (nZ x)))] (37 : Nat), AObj.vec (Con.ints IntKind.i64 l) (3 : Nat)] (hd Try.f122 (3 : Nat)) (Stk.mk (some (122 : Nat)) false (0 : Nat) [inCall Try.f101 none (2 : Nat) (2 : Nat) false (0 : Nat)] (0 : Nat))))))))
  (Tree.ite ((↑l.length : Int) == (0 : Int)) (Tree.ret [AObj.own [AV.s (SV.int IntKind.i64 id)] (3 : Nat), AObj.own [AV.s (SV.str (nN x)), AV.s (SV.int IntKind.u8 (nK x)), AV.s (SV.int IntKind.i64 (nI x)), AV.s (SV.int IntKind.i64 (nO x)), AV.s (SV.int IntKind.u8 (nE x)), AV.s (SV.str (nY x)), AV.s (SV.str (nT x)), AV.s (SV.str (nS x)), AV.s (SV.bool (nB x)), AV.s (SV.ro (Con.typ cV (nV x))), AV.s (SV.ro (Con.strs (nZ x)))] (37 : Nat), AObj.vec (Con.ints IntKind.i64 l) (3 : Nat)] (AV.tup [AV.s (SV.ilit IntKind.i64 (0 : Int)), AV.s (SV.blit false)])) (Tree.need ((0 : Int) ≤ (0 : Int)) (Tree.need ((0 : Int) < (↑l.length : Int)) (Tree.ret [AObj.own [AV.s (SV.int IntKind.i64 id)] (3 : Nat), AObj.own [AV.s (SV.str (nN x)), AV.s (SV.int IntKind.u8 (nK x)), AV.s (SV.int IntKind.i64 (nI x)), AV.s (SV.int IntKind.i64 (nO x)), AV.s (SV.int IntKind.u8 (nE x)), AV.s (SV.str (nY x)), AV.s (SV.str (nT x)), AV.s (SV.str (nS x)), AV.s (SV.bool (nB x)), AV.s (SV.ro (Con.typ cV (nV x))), AV.s (SV.ro (Con.strs (nZ x)))] (37 : Nat), AObj.vec (Con.ints IntKind.i64 l) (3 : Nat)] (AV.tup [AV.s (SV.int IntKind.i64 (l.getD (0 : Nat) (0 : Int))), AV.s (SV.blit true)]))))) := by kernel_rfl
end Ds

namespace Ds
open Go Go.Sx Go.Proofs Lf
abbrev tU8 : Ty := .b (.int .u8)

def pDf (name : ByteArray) (p : CL cP) : Bool := decide (pN p = name)
def defP (ps : Ps) (name : ByteArray) : Int := idxF (pDf name) ps
def hasP (ps : Ps) (name : ByteArray) : Bool := decide (0 ≤ defP ps name)
def whereP (ps : Ps) (name : ByteArray) : Int := if 0 ≤ defP ps name then defP ps name else ps.length
def getP (ps : Ps) (name : ByteArray) : CL cP := el ps (whereP ps name)
def pCh (ns : List (CL cN)) (ev : Int) (k : ByteArray) (n : Int) : Bool := decide (0 ≤ n) && decide (n < (ns.length : Int)) && (nE (el ns n) == ev) && decide (nY (el ns n) = k)
def chooseF (ns : List (CL cN)) (l : List Int) (ev : Int) (key : ByteArray) : Int × Bool :=
  if 0 ≤ idxF (pCh ns ev key) l then (l.getD (idxF (pCh ns ev key) l).toNat 0, true)
  else if 0 ≤ idxF (pCh ns ev ByteArray.empty) l then (l.getD (idxF (pCh ns ev ByteArray.empty) l).toNat 0, true)
  else (0, false)
noncomputable def cChL (a : ByteArray) (vs : List (CL cV)) (ns : List (CL cN)) (fs : List (CL cF)) (l : List Int) (ev : Int) (key k : ByteArray) (j i : Int) : Cfg := ⟨sl 47 [(0, avL l), (1, .fn 74 [.ptr 0 0, .ptr 1 0, .ptr 2 0]), (7, avI (l.length : Int)), (8, avI i), (20, avL l), (23, .ptr 0 0), (25, .ptr 1 0), (30, .ptr 2 0), (33, .agg [.s (.str key), .s (.str ByteArray.empty)]), (34, .s (.ilit .i64 j))], [obPr a vs ns fs, .own [.s (.int .u8 ev)] 5, .own [.s (.str k)] 9], hd Try.f73 2, ⟨some fIn2, false, 0, [inCall Try.f44 none 4 2 false 0], 0⟩⟩
theorem lopCh (a : ByteArray) (vs : List (CL cV)) (ns : List (CL cN)) (fs : List (CL cF)) (l : List Int) (ev : Int) (key k : ByteArray) (i : Int) : run P tab0.sum Try.f44 nsCh (cChL a vs ns fs l ev key k 0 i) inCh =
  Tree.ite (decide (i < (↑l.length : Int)))
  (Tree.need ((0 : Int) ≤ i)
    (Tree.need (i < (↑l.length : Int))
      (Tree.ite (decide (l.getD i.toNat (0 : Int) ≥ (0 : Int)))
        (Tree.ite (decide (l.getD i.toNat (0 : Int) < (↑ns.length : Int))) (Tree.need ((0 : Int) ≤ l.getD i.toNat (0 : Int)) (Tree.need (l.getD i.toNat (0 : Int) < (↑ns.length : Int)) (Tree.ite (nE (el ns (l.getD i.toNat (0 : Int))) == ev) (Tree.need ((0 : Int) ≤ l.getD i.toNat (0 : Int)) (Tree.need (l.getD i.toNat (0 : Int) < (↑ns.length : Int)) (Tree.ite (decide (nY (el ns (l.getD i.toNat (0 : Int))) = k)) (Tree.ite (decide (i ≥ (0 : Int))) (Tree.need ((0 : Int) ≤ i) (Tree.need (i < (↑l.length : Int)) (Tree.ret [AObj.own [AV.s (SV.str a), AV.s (SV.ro (Con.typ cV vs)), AV.s (SV.ro (Con.typ cN ns)), AV.s (SV.ro (Con.typ cF fs))] (34 : Nat), AObj.own [AV.s (SV.int IntKind.u8 ev)] (5 : Nat), AObj.own [AV.s (SV.str k)] (9 : Nat)] (AV.tup [AV.s (SV.int IntKind.i64 (l.getD i.toNat (0 : Int))), AV.s (SV.blit true)])))) (Tree.need ((0 : Int) ≤ (1 : Int)) (Tree.need ((1 : Int) < (↑(2 : Nat) : Int)) (Tree.at (Cfg.mk (sl (47 : Nat) [((0 : Nat), AV.s (SV.ro (Con.ints IntKind.i64 l))), ((1 : Nat), AV.fn (74 : Nat) [AV.ptr (0 : Nat) (0 : Nat), AV.ptr (1 : Nat) (0 : Nat), AV.ptr (2 : Nat) (0 : Nat)]), ((7 : Nat), AV.s (SV.int IntKind.i64 (↑l.length : Int))), ((8 : Nat), AV.s (SV.int IntKind.i64 (0 : Int))), ((20 : Nat), AV.s (SV.ro (Con.ints IntKind.i64 l))), ((23 : Nat), AV.ptr (0 : Nat) (0 : Nat)), ((25 : Nat), AV.ptr (1 : Nat) (0 : Nat)), ((30 : Nat), AV.ptr (2 : Nat) (0 : Nat)), ((33 : Nat), AV.agg [AV.s (SV.str key), AV.s (SV.str ByteArray.empty)]), ((34 : Nat), AV.s (SV.int IntKind.i64 (1 : Int)))]) [AObj.own [AV.s (SV.str a), AV.s (SV.ro (Con.typ cV vs)), AV.s (SV.ro (Con.typ cN ns)), AV.s (SV.ro (Con.typ cF fs))] (34 : Nat), AObj.own [AV.s (SV.int IntKind.u8 ev)] (5 : Nat), AObj.own [AV.s (SV.str ByteArray.empty)] (9 : Nat)] (hd Try.f73 (2 : Nat)) (Stk.mk (some (73 : Nat)) false (0 : Nat) [inCall Try.f44 none (4 : Nat) (2 : Nat) false (0 : Nat)] (0 : Nat))))))) (Tree.need (inI64 (i + (1 : Int))) (Tree.at (Cfg.mk (sl (47 : Nat) [((0 : Nat), AV.s (SV.ro (Con.ints IntKind.i64 l))), ((1 : Nat), AV.fn (74 : Nat) [AV.ptr (0 : Nat) (0 : Nat), AV.ptr (1 : Nat) (0 : Nat), AV.ptr (2 : Nat) (0 : Nat)]), ((7 : Nat), AV.s (SV.int IntKind.i64 (↑l.length : Int))), ((8 : Nat), AV.s (SV.int IntKind.i64 (i + (1 : Int)))), ((20 : Nat), AV.s (SV.ro (Con.ints IntKind.i64 l))), ((23 : Nat), AV.ptr (0 : Nat) (0 : Nat)), ((25 : Nat), AV.ptr (1 : Nat) (0 : Nat)), ((30 : Nat), AV.ptr (2 : Nat) (0 : Nat)), ((33 : Nat), AV.agg [AV.s (SV.str key), AV.s (SV.str ByteArray.empty)]), ((34 : Nat), AV.s (SV.int IntKind.i64 (0 : Int)))]) [AObj.own [AV.s (SV.str a), AV.s (SV.ro (Con.typ cV vs)), AV.s (SV.ro (Con.typ cN ns)), AV.s (SV.ro (Con.typ cF fs))] (34 : Nat), AObj.own [AV.s (SV.int IntKind.u8 ev)] (5 : Nat), AObj.own [AV.s (SV.str k)] (9 : Nat)] (hd Try.f73 (2 : Nat)) (Stk.mk (some (73 : Nat)) false (0 : Nat) [inCall Try.f44 none (4 : Nat) (2 : Nat) false (0 : Nat)] (0 : Nat)))))))) (Tree.need (inI64 (i + (1 : Int))) (Tree.at (Cfg.mk (sl (47 : Nat) [((0 : Nat), AV.s (SV.ro (Con.ints IntKind.i64 l))), ((1 : Nat), AV.fn (74 : Nat) [AV.ptr (0 : Nat) (0 : Nat), AV.ptr (1 : Nat) (0 : Nat), AV.ptr (2 : Nat) (0 : Nat)]), ((7 : Nat), AV.s (SV.int IntKind.i64 (↑l.length : Int))), ((8 : Nat), AV.s (SV.int IntKind.i64 (i + (1 : Int)))), ((20 : Nat), AV.s (SV.ro (Con.ints IntKind.i64 l))), ((23 : Nat), AV.ptr (0 : Nat) (0 : Nat)), ((25 : Nat), AV.ptr (1 : Nat) (0 : Nat)), ((30 : Nat), AV.ptr (2 : Nat) (0 : Nat)), ((33 : Nat), AV.agg [AV.s (SV.str key), AV.s (SV.str ByteArray.empty)]), ((34 : Nat), AV.s (SV.int IntKind.i64 (0 : Int)))]) [AObj.own [AV.s (SV.str a), AV.s (SV.ro (Con.typ cV vs)), AV.s (SV.ro (Con.typ cN ns)), AV.s (SV.ro (Con.typ cF fs))] (34 : Nat), AObj.own [AV.s (SV.int IntKind.u8 ev)] (5 : Nat), AObj.own [AV.s (SV.str k)] (9 : Nat)] (hd Try.f73 (2 : Nat)) (Stk.mk (some (73 : Nat)) false (0 : Nat) [inCall Try.f44 none (4 : Nat) (2 : Nat) false (0 : Nat)] (0 : Nat))))))))
          (Tree.need (inI64 (i + (1 : Int))) (Tree.at (Cfg.mk (sl (47 : Nat) [((0 : Nat), AV.s (SV.ro (Con.ints IntKind.i64 l))), ((1 : Nat), AV.fn (74 : Nat) [AV.ptr (0 : Nat) (0 : Nat), AV.ptr (1 : Nat) (0 : Nat), AV.ptr (2 : Nat) (0 : Nat)]), ((7 : Nat), AV.s (SV.int IntKind.i64 (↑l.length : Int))), ((8 : Nat), AV.s (SV.int IntKind.i64 (i + (1 : Int)))), ((20 : Nat), AV.s (SV.ro (Con.ints IntKind.i64 l))), ((23 : Nat), AV.ptr (0 : Nat) (0 : Nat)), ((25 : Nat), AV.ptr (1 : Nat) (0 : Nat)), ((30 : Nat), AV.ptr (2 : Nat) (0 : Nat)), ((33 : Nat), AV.agg [AV.s (SV.str key), AV.s (SV.str ByteArray.empty)]), ((34 : Nat), AV.s (SV.int IntKind.i64 (0 : Int)))]) [AObj.own [AV.s (SV.str a), AV.s (SV.ro (Con.typ cV vs)), AV.s (SV.ro (Con.typ cN ns)), AV.s (SV.ro (Con.typ cF fs))] (34 : Nat), AObj.own [AV.s (SV.int IntKind.u8 ev)] (5 : Nat), AObj.own [AV.s (SV.str k)] (9 : Nat)] (hd Try.f73 (2 : Nat)) (Stk.mk (some (73 : Nat)) false (0 : Nat) [inCall Try.f44 none (4 : Nat) (2 : Nat) false (0 : Nat)] (0 : Nat))))))
        (Tree.need (inI64 (i + (1 : Int))) (Tree.at (Cfg.mk (sl (47 : Nat) [((0 : Nat), AV.s (SV.ro (Con.ints IntKind.i64 l))), ((1 : Nat), AV.fn (74 : Nat) [AV.ptr (0 : Nat) (0 : Nat), AV.ptr (1 : Nat) (0 : Nat), AV.ptr (2 : Nat) (0 : Nat)]), ((7 : Nat), AV.s (SV.int IntKind.i64 (↑l.length : Int))), ((8 : Nat), AV.s (SV.int IntKind.i64 (i + (1 : Int)))), ((20 : Nat), AV.s (SV.ro (Con.ints IntKind.i64 l))), ((23 : Nat), AV.ptr (0 : Nat) (0 : Nat)), ((25 : Nat), AV.ptr (1 : Nat) (0 : Nat)), ((30 : Nat), AV.ptr (2 : Nat) (0 : Nat)), ((33 : Nat), AV.agg [AV.s (SV.str key), AV.s (SV.str ByteArray.empty)]), ((34 : Nat), AV.s (SV.int IntKind.i64 (0 : Int)))]) [AObj.own [AV.s (SV.str a), AV.s (SV.ro (Con.typ cV vs)), AV.s (SV.ro (Con.typ cN ns)), AV.s (SV.ro (Con.typ cF fs))] (34 : Nat), AObj.own [AV.s (SV.int IntKind.u8 ev)] (5 : Nat), AObj.own [AV.s (SV.str k)] (9 : Nat)] (hd Try.f73 (2 : Nat)) (Stk.mk (some (73 : Nat)) false (0 : Nat) [inCall Try.f44 none (4 : Nat) (2 : Nat) false (0 : Nat)] (0 : Nat))))))))
  (Tree.need ((0 : Int) ≤ (1 : Int)) (Tree.need ((1 : Int) < (↑(2 : Nat) : Int)) (Tree.at (Cfg.mk (sl (47 : Nat) [((0 : Nat), AV.s (SV.ro (Con.ints IntKind.i64 l))), ((1 : Nat), AV.fn (74 : Nat) [AV.ptr (0 : Nat) (0 : Nat), AV.ptr (1 : Nat) (0 : Nat), AV.ptr (2 : Nat) (0 : Nat)]), ((7 : Nat), AV.s (SV.int IntKind.i64 (↑l.length : Int))), ((8 : Nat), AV.s (SV.int IntKind.i64 (0 : Int))), ((20 : Nat), AV.s (SV.ro (Con.ints IntKind.i64 l))), ((23 : Nat), AV.ptr (0 : Nat) (0 : Nat)), ((25 : Nat), AV.ptr (1 : Nat) (0 : Nat)), ((30 : Nat), AV.ptr (2 : Nat) (0 : Nat)), ((33 : Nat), AV.agg [AV.s (SV.str key), AV.s (SV.str ByteArray.empty)]), ((34 : Nat), AV.s (SV.int IntKind.i64 (1 : Int)))]) [AObj.own [AV.s (SV.str a), AV.s (SV.ro (Con.typ cV vs)), AV.s (SV.ro (Con.typ cN ns)), AV.s (SV.ro (Con.typ cF fs))] (34 : Nat), AObj.own [AV.s (SV.int IntKind.u8 ev)] (5 : Nat), AObj.own [AV.s (SV.str ByteArray.empty)] (9 : Nat)] (hd Try.f73 (2 : Nat)) (Stk.mk (some (73 : Nat)) false (0 : Nat) [inCall Try.f44 none (4 : Nat) (2 : Nat) false (0 : Nat)] (0 : Nat)))))) := by kernel_rfl
theorem lopCh1 (a : ByteArray) (vs : List (CL cV)) (ns : List (CL cN)) (fs : List (CL cF)) (l : List Int) (ev : Int) (key k : ByteArray) (i : Int) : run P tab0.sum Try.f44 nsCh (cChL a vs ns fs l ev key k 1 i) inCh =
  Tree.ite (decide (i < (↑l.length : Int)))
  (Tree.need ((0 : Int) ≤ i)
    (Tree.need (i < (↑l.length : Int))
      (Tree.ite (decide (l.getD i.toNat (0 : Int) ≥ (0 : Int)))
        (Tree.ite (decide (l.getD i.toNat (0 : Int) < (↑ns.length : Int))) (Tree.need ((0 : Int) ≤ l.getD i.toNat (0 : Int)) (Tree.need (l.getD i.toNat (0 : Int) < (↑ns.length : Int)) (Tree.ite (nE (el ns (l.getD i.toNat (0 : Int))) == ev) (Tree.need ((0 : Int) ≤ l.getD i.toNat (0 : Int)) (Tree.need (l.getD i.toNat (0 : Int) < (↑ns.length : Int)) (Tree.ite (decide (nY (el ns (l.getD i.toNat (0 : Int))) = k)) (Tree.ite (decide (i ≥ (0 : Int))) (Tree.need ((0 : Int) ≤ i) (Tree.need (i < (↑l.length : Int)) (Tree.ret [AObj.own [AV.s (SV.str a), AV.s (SV.ro (Con.typ cV vs)), AV.s (SV.ro (Con.typ cN ns)), AV.s (SV.ro (Con.typ cF fs))] (34 : Nat), AObj.own [AV.s (SV.int IntKind.u8 ev)] (5 : Nat), AObj.own [AV.s (SV.str k)] (9 : Nat)] (AV.tup [AV.s (SV.int IntKind.i64 (l.getD i.toNat (0 : Int))), AV.s (SV.blit true)])))) (Tree.ret [AObj.own [AV.s (SV.str a), AV.s (SV.ro (Con.typ cV vs)), AV.s (SV.ro (Con.typ cN ns)), AV.s (SV.ro (Con.typ cF fs))] (34 : Nat), AObj.own [AV.s (SV.int IntKind.u8 ev)] (5 : Nat), AObj.own [AV.s (SV.str k)] (9 : Nat)] (AV.tup [AV.s (SV.ilit IntKind.i64 (0 : Int)), AV.s (SV.blit false)]))) (Tree.need (inI64 (i + (1 : Int))) (Tree.at (Cfg.mk (sl (47 : Nat) [((0 : Nat), AV.s (SV.ro (Con.ints IntKind.i64 l))), ((1 : Nat), AV.fn (74 : Nat) [AV.ptr (0 : Nat) (0 : Nat), AV.ptr (1 : Nat) (0 : Nat), AV.ptr (2 : Nat) (0 : Nat)]), ((7 : Nat), AV.s (SV.int IntKind.i64 (↑l.length : Int))), ((8 : Nat), AV.s (SV.int IntKind.i64 (i + (1 : Int)))), ((20 : Nat), AV.s (SV.ro (Con.ints IntKind.i64 l))), ((23 : Nat), AV.ptr (0 : Nat) (0 : Nat)), ((25 : Nat), AV.ptr (1 : Nat) (0 : Nat)), ((30 : Nat), AV.ptr (2 : Nat) (0 : Nat)), ((33 : Nat), AV.agg [AV.s (SV.str key), AV.s (SV.str ByteArray.empty)]), ((34 : Nat), AV.s (SV.int IntKind.i64 (1 : Int)))]) [AObj.own [AV.s (SV.str a), AV.s (SV.ro (Con.typ cV vs)), AV.s (SV.ro (Con.typ cN ns)), AV.s (SV.ro (Con.typ cF fs))] (34 : Nat), AObj.own [AV.s (SV.int IntKind.u8 ev)] (5 : Nat), AObj.own [AV.s (SV.str k)] (9 : Nat)] (hd Try.f73 (2 : Nat)) (Stk.mk (some (73 : Nat)) false (0 : Nat) [inCall Try.f44 none (4 : Nat) (2 : Nat) false (0 : Nat)] (0 : Nat)))))))) (Tree.need (inI64 (i + (1 : Int))) (Tree.at (Cfg.mk (sl (47 : Nat) [((0 : Nat), AV.s (SV.ro (Con.ints IntKind.i64 l))), ((1 : Nat), AV.fn (74 : Nat) [AV.ptr (0 : Nat) (0 : Nat), AV.ptr (1 : Nat) (0 : Nat), AV.ptr (2 : Nat) (0 : Nat)]), ((7 : Nat), AV.s (SV.int IntKind.i64 (↑l.length : Int))), ((8 : Nat), AV.s (SV.int IntKind.i64 (i + (1 : Int)))), ((20 : Nat), AV.s (SV.ro (Con.ints IntKind.i64 l))), ((23 : Nat), AV.ptr (0 : Nat) (0 : Nat)), ((25 : Nat), AV.ptr (1 : Nat) (0 : Nat)), ((30 : Nat), AV.ptr (2 : Nat) (0 : Nat)), ((33 : Nat), AV.agg [AV.s (SV.str key), AV.s (SV.str ByteArray.empty)]), ((34 : Nat), AV.s (SV.int IntKind.i64 (1 : Int)))]) [AObj.own [AV.s (SV.str a), AV.s (SV.ro (Con.typ cV vs)), AV.s (SV.ro (Con.typ cN ns)), AV.s (SV.ro (Con.typ cF fs))] (34 : Nat), AObj.own [AV.s (SV.int IntKind.u8 ev)] (5 : Nat), AObj.own [AV.s (SV.str k)] (9 : Nat)] (hd Try.f73 (2 : Nat)) (Stk.mk (some (73 : Nat)) false (0 : Nat) [inCall Try.f44 none (4 : Nat) (2 : Nat) false (0 : Nat)] (0 : Nat))))))))
          (Tree.need (inI64 (i + (1 : Int))) (Tree.at (Cfg.mk (sl (47 : Nat) [((0 : Nat), AV.s (SV.ro (Con.ints IntKind.i64 l))), ((1 : Nat), AV.fn (74 : Nat) [AV.ptr (0 : Nat) (0 : Nat), AV.ptr (1 : Nat) (0 : Nat), AV.ptr (2 : Nat) (0 : Nat)]), ((7 : Nat), AV.s (SV.int IntKind.i64 (↑l.length : Int))), ((8 : Nat), AV.s (SV.int IntKind.i64 (i + (1 : Int)))), ((20 : Nat), AV.s (SV.ro (Con.ints IntKind.i64 l))), ((23 : Nat), AV.ptr (0 : Nat) (0 : Nat)), ((25 : Nat), AV.ptr (1 : Nat) (0 : Nat)), ((30 : Nat), AV.ptr (2 : Nat) (0 : Nat)), ((33 : Nat), AV.agg [AV.s (SV.str key), AV.s (SV.str ByteArray.empty)]), ((34 : Nat), AV.s (SV.int IntKind.i64 (1 : Int)))]) [AObj.own [AV.s (SV.str a), AV.s (SV.ro (Con.typ cV vs)), AV.s (SV.ro (Con.typ cN ns)), AV.s (SV.ro (Con.typ cF fs))] (34 : Nat), AObj.own [AV.s (SV.int IntKind.u8 ev)] (5 : Nat), AObj.own [AV.s (SV.str k)] (9 : Nat)] (hd Try.f73 (2 : Nat)) (Stk.mk (some (73 : Nat)) false (0 : Nat) [inCall Try.f44 none (4 : Nat) (2 : Nat) false (0 : Nat)] (0 : Nat))))))
        (Tree.need (inI64 (i + (1 : Int))) (Tree.at (Cfg.mk (sl (47 : Nat) [((0 : Nat), AV.s (SV.ro (Con.ints IntKind.i64 l))), ((1 : Nat), AV.fn (74 : Nat) [AV.ptr (0 : Nat) (0 : Nat), AV.ptr (1 : Nat) (0 : Nat), AV.ptr (2 : Nat) (0 : Nat)]), ((7 : Nat), AV.s (SV.int IntKind.i64 (↑l.length : Int))), ((8 : Nat), AV.s (SV.int IntKind.i64 (i + (1 : Int)))), ((20 : Nat), AV.s (SV.ro (Con.ints IntKind.i64 l))), ((23 : Nat), AV.ptr (0 : Nat) (0 : Nat)), ((25 : Nat), AV.ptr (1 : Nat) (0 : Nat)), ((30 : Nat), AV.ptr (2 : Nat) (0 : Nat)), ((33 : Nat), AV.agg [AV.s (SV.str key), AV.s (SV.str ByteArray.empty)]), ((34 : Nat), AV.s (SV.int IntKind.i64 (1 : Int)))]) [AObj.own [AV.s (SV.str a), AV.s (SV.ro (Con.typ cV vs)), AV.s (SV.ro (Con.typ cN ns)), AV.s (SV.ro (Con.typ cF fs))] (34 : Nat), AObj.own [AV.s (SV.int IntKind.u8 ev)] (5 : Nat), AObj.own [AV.s (SV.str k)] (9 : Nat)] (hd Try.f73 (2 : Nat)) (Stk.mk (some (73 : Nat)) false (0 : Nat) [inCall Try.f44 none (4 : Nat) (2 : Nat) false (0 : Nat)] (0 : Nat))))))))
  (Tree.ret [AObj.own [AV.s (SV.str a), AV.s (SV.ro (Con.typ cV vs)), AV.s (SV.ro (Con.typ cN ns)), AV.s (SV.ro (Con.typ cF fs))] (34 : Nat), AObj.own [AV.s (SV.int IntKind.u8 ev)] (5 : Nat), AObj.own [AV.s (SV.str k)] (9 : Nat)] (AV.tup [AV.s (SV.ilit IntKind.i64 (0 : Int)), AV.s (SV.blit false)])) := by kernel_rfl
theorem df_end {ps : Ps} {name : ByteArray} (h : defP ps name = -1) : getP ps name = CL.d cP ∧ hasP ps name = false := by
  refine ⟨?_, by unfold hasP; rw [h]; rfl⟩
  show el ps (whereP ps name) = _
  unfold whereP
  rw [if_neg (by omega)]
  show ps.getD (ps.length : Int).toNat (CL.d cP) = _
  simp [List.getD]
theorem def_ok {Z : Glob} : FnOk P Z 15 [tSt, tStr] [tPrr, tBool] (fun _ => []) (fun ((_, _, ps, _, _, _, ()), name, ()) => ((pN (getP ps name), pV (getP ps name), pO (getP ps name), pF (getP ps name), ()), hasP ps name, ())) := by
  refine fnOk_of_safe Try.func15 (by kernel_rfl) (by kernel_rfl) ?_
  rintro ⟨⟨(ck : Int), (nx : Int), (ps : Ps), (is : Is), (cs : Cs), (ws : Ws), ⟨⟩⟩, (name : ByteArray), ⟨⟩⟩ ⟨⟨_, _, (hl : ps.length ≤ maxLen), _⟩, _⟩ _ X hX hz
  have hl2 : ps.length ≤ 9223372036854775807 := by unfold maxLen at hl; omega
  show Safe P 15 X (Ends [tPrr, tBool] ((pN (getP ps name), pV (getP ps name), pO (getP ps name), pF (getP ps name), ()), hasP ps name, ())) _
  have loop : ∀ (j k : Nat), k + j = ps.length → (∀ i (hi : i < k) (h2 : i < ps.length), pDf name ps[i] = false) → Safe P 15 X (Ends [tPrr, tBool] ((pN (getP ps name), pV (getP ps name), pO (getP ps name), pF (getP ps name), ()), hasP ps name, ())) (cDf ck nx ps is cs ws name (k : Int)) := by
    intro j
    induction j with
    | zero =>
      intro k hk hi
      have e : defP ps name = -1 := idxF_none fun j hj => hi j (by omega) hj
      obtain ⟨e1, e2⟩ := df_end e
      refine go hz hX Tab.Ok.nil Try.func15 (loopDf ck nx ps is cs ws name k) ⟨fun h => absurd (of_decide_eq_true h) (by omega), fun _ => ?_⟩
      rw [e1, e2]; exact ends_eq _ rfl (by kernel_rfl)
    | succ j ih =>
      intro k hk hi
      have hlt : k < ps.length := by omega
      refine go hz hX Tab.Ok.nil Try.func15 (loopDf ck nx ps is cs ws name k) (yes_and (decide_eq_true (by omega)) ⟨by omega, by omega, ?_⟩)
      have next := fun h : pDf name ps[k] = false => ih (k + 1) (by omega) fun i h1 h2 => by
        by_cases e : i = k
        · subst e; exact h
        · exact hi i (by omega) h2
      have fin := fun h : pDf name ps[k] = true => idxF_at (p := pDf name) hlt h fun j hj => hi j hj (by omega)
      cases hp : pDf name ps[k] with
      | true =>
        have e : defP ps name = (k : Int) := fin hp
        have e1 : getP ps name = el ps (k : Int) := by
          show el ps (whereP ps name) = _
          unfold whereP
          rw [if_pos (by omega), e]
        have e2 : hasP ps name = true := by unfold hasP; rw [decide_eq_true (by omega)]
        have hp' : pN (el ps (k : Int)) = name := by rw [el_lt hlt]; exact of_decide_eq_true hp
        refine yes_and (decide_eq_true hp') (no_and (decide_eq_false (by omega)) ⟨by omega, by omega, ?_⟩)
        rw [e1, e2]
        generalize el ps (k : Int) = x
        exact ends_eq _ rfl (by kernel_rfl)
      | false =>
        have hp' : ¬ pN (el ps (k : Int)) = name := by rw [el_lt hlt]; exact of_decide_eq_false hp
        exact no_and (decide_eq_false hp') ⟨⟨by omega, by omega⟩, next hp⟩
  exact go hz hX Tab.Ok.nil Try.func15 (trDf ck nx ps is cs ws name) (loop ps.length 0 (by omega) fun i hi => absurd hi (Nat.not_lt_zero _))
theorem pCh_iff {ns : List (CL cN)} {ev : Int} {k : ByteArray} {n : Int} : pCh ns ev k n = true ↔ 0 ≤ n ∧ n < (ns.length : Int) ∧ nE (el ns n) = ev ∧ nY (el ns n) = k := by
  unfold pCh
  rw [Bool.and_eq_true, Bool.and_eq_true, Bool.and_eq_true, decide_eq_true_iff, decide_eq_true_iff, decide_eq_true_iff, beq_iff_eq, and_assoc, and_assoc]
theorem pCh_no {ns : List (CL cN)} {ev : Int} {k : ByteArray} {n : Int} (h : ¬ (0 ≤ n ∧ n < (ns.length : Int) ∧ nE (el ns n) = ev ∧ nY (el ns n) = k)) : pCh ns ev k n = false := by
  cases hb : pCh ns ev k n with
  | false => rfl
  | true => exact absurd (pCh_iff.1 hb) h
theorem choose_ok {Z : Glob} : FnOk P Z 44 [tPr, tNs, tU8, tStr] [tInt, tBool] (fun _ => []) (fun ((_, _, ns, _, ()), l, ev, key, ()) => ((chooseF ns l ev key).1, (chooseF ns l ev key).2, ())) := by
  refine fnOk_of_safe Try.func44 (by kernel_rfl) (by kernel_rfl) ?_
  rintro ⟨⟨(a : ByteArray), (vs : List (CL cV)), (ns : List (CL cN)), (fs : List (CL cF)), ⟨⟩⟩, (l : List Int), (ev : Int), (key : ByteArray), ⟨⟩⟩ ⟨_, (hl : l.length ≤ maxLen), _⟩ _ X hX hz
  have hl2 : l.length ≤ 9223372036854775807 := by unfold maxLen at hl; omega
  show Safe P 44 X (Ends [tInt, tBool] ((chooseF ns l ev key).1, (chooseF ns l ev key).2, ())) _
  have loop1 : idxF (pCh ns ev key) l = -1 → ∀ (j i : Nat), i + j = l.length → (∀ k (hk : k < i) (h2 : k < l.length), pCh ns ev ByteArray.empty l[k] = false) → Safe P 44 X (Ends [tInt, tBool] ((chooseF ns l ev key).1, (chooseF ns l ev key).2, ())) (cCh a vs ns fs l ev key ByteArray.empty 1 (i : Int)) := by
    intro hno j
    induction j with
    | zero =>
      intro i hi hn
      have e : idxF (pCh ns ev ByteArray.empty) l = -1 := idxF_none fun j hj => hn j (by omega) hj
      have e2 : chooseF ns l ev key = (0, false) := by unfold chooseF; rw [if_neg (by omega), if_neg (by omega)]
      refine slot_lit_safe (t := 34) (k := .i64) (n := 1) rfl ?_
      refine go hz hX Tab.Ok.nil Try.func44 (lopCh1 a vs ns fs l ev key _ i) (no_and (decide_eq_false (by omega)) ?_)
      rw [e2]; exact ends_eq _ rfl (by kernel_rfl)
    | succ j ih =>
      intro i hi hn
      have hlt : i < l.length := by omega
      refine slot_lit_safe (t := 34) (k := .i64) (n := 1) rfl ?_
      refine go hz hX Tab.Ok.nil Try.func44 (lopCh1 a vs ns fs l ev key _ i) (yes_and (decide_eq_true (by omega)) ⟨by omega, by omega, ?_⟩)
      have next := fun h : pCh ns ev ByteArray.empty l[i] = false => ih (i + 1) (by omega) fun k h1 h2 => by
        by_cases e : k = i
        · subst e; exact h
        · exact hn k (by omega) h2
      have fin := fun h : pCh ns ev ByteArray.empty l[i] = true => idxF_at (p := pCh ns ev ByteArray.empty) hlt h fun j hj => hn j hj (by omega)
      rw [Int.toNat_natCast, getD_lt hlt]
      generalize hx : l[i] = x at *
      repeat' (with_reducible (first | refine h_eq ?_ | refine h_need ?_ ?_ | refine h_dec (fun _ => ?_) (fun _ => ?_) | refine h_beq (fun _ => ?_) (fun _ => ?_) | refine h_bne (fun _ => ?_) (fun _ => ?_) | refine h_tt ?_ | refine h_ff ?_ | refine h_not ?_ | refine h_ite (fun _ => ?_) (fun _ => ?_) | refine h_both (fun _ => ?_) (fun _ => ?_) | refine h_ret ?_ | refine h_at ?_))
      all_goals first | omega | exact ⟨by omega, by omega⟩ | exact next (pCh_no fun h => by obtain ⟨h1, h2, h3, h4⟩ := h; first | omega | contradiction) | skip
      all_goals
        have e : idxF (pCh ns ev ByteArray.empty) l = (i : Int) := fin (pCh_iff.2 ⟨by omega, by omega, by assumption, by assumption⟩)
        have e2 : chooseF ns l ev key = (x, true) := by unfold chooseF; rw [if_neg (by omega), if_pos (by omega), e, Int.toNat_natCast, getD_lt hlt, hx]
        rw [e2]; exact ends_eq _ rfl (by kernel_rfl)
  have loop0 : ∀ (j i : Nat), i + j = l.length → (∀ k (hk : k < i) (h2 : k < l.length), pCh ns ev key l[k] = false) → Safe P 44 X (Ends [tInt, tBool] ((chooseF ns l ev key).1, (chooseF ns l ev key).2, ())) (cCh a vs ns fs l ev key key 0 (i : Int)) := by
    intro j
    induction j with
    | zero =>
      intro i hi hn
      have e : idxF (pCh ns ev key) l = -1 := idxF_none fun j hj => hn j (by omega) hj
      refine slot_lit_safe (t := 34) (k := .i64) (n := 0) rfl ?_
      exact go hz hX Tab.Ok.nil Try.func44 (lopCh a vs ns fs l ev key _ i) (no_and (decide_eq_false (by omega)) ⟨by omega, by omega, loop1 e l.length 0 (by omega) (fun k hk => absurd hk (Nat.not_lt_zero _))⟩)
    | succ j ih =>
      intro i hi hn
      have hlt : i < l.length := by omega
      refine slot_lit_safe (t := 34) (k := .i64) (n := 0) rfl ?_
      refine go hz hX Tab.Ok.nil Try.func44 (lopCh a vs ns fs l ev key _ i) (yes_and (decide_eq_true (by omega)) ⟨by omega, by omega, ?_⟩)
      have next := fun h : pCh ns ev key l[i] = false => ih (i + 1) (by omega) fun k h1 h2 => by
        by_cases e : k = i
        · subst e; exact h
        · exact hn k (by omega) h2
      have fin := fun h : pCh ns ev key l[i] = true => idxF_at (p := pCh ns ev key) hlt h fun j hj => hn j hj (by omega)
      rw [Int.toNat_natCast, getD_lt hlt]
      generalize hx : l[i] = x at *
      repeat' (with_reducible (first | refine h_eq ?_ | refine h_need ?_ ?_ | refine h_dec (fun _ => ?_) (fun _ => ?_) | refine h_beq (fun _ => ?_) (fun _ => ?_) | refine h_bne (fun _ => ?_) (fun _ => ?_) | refine h_tt ?_ | refine h_ff ?_ | refine h_not ?_ | refine h_ite (fun _ => ?_) (fun _ => ?_) | refine h_both (fun _ => ?_) (fun _ => ?_) | refine h_ret ?_ | refine h_at ?_))
      all_goals first | omega | exact ⟨by omega, by omega⟩ | exact next (pCh_no fun h => by obtain ⟨h1, h2, h3, h4⟩ := h; first | omega | contradiction) | skip
      all_goals
        have e : idxF (pCh ns ev key) l = (i : Int) := fin (pCh_iff.2 ⟨by omega, by omega, by assumption, by assumption⟩)
        have e2 : chooseF ns l ev key = (x, true) := by unfold chooseF; rw [if_pos (by omega), e, Int.toNat_natCast, getD_lt hlt, hx]
        rw [e2]; exact ends_eq _ rfl (by kernel_rfl)
  refine go hz hX Tab.Ok.nil Try.func44 (trCh a vs ns fs l ev key) ⟨by omega, by omega, ?_⟩
  exact loop0 l.length 0 (by omega) (fun k hk => absurd hk (Nat.not_lt_zero _))
end Ds

namespace Ds
open Go Go.Sx Go.Proofs Lf
/-! Activity: does a row have a byte -/
abbrev tBs : Ty := .b (.row (.ints .u8) 5)
abbrev avU (n : Int) : AV := .s (.int .u8 n)
abbrev avLu (l : List Int) : AV := .s (.ro (.ints .u8 l))
abbrev fIj8 : FuncId := 136
abbrev inH8 : List FuncId := [fIj8]
def nsH8 : List (Nat × Norm) := [((fIj8 + 1) * 100000 + 2, ⟨[], [0, 1, 7, 8], 0, []⟩)]
theorem trH8 (l : List Int) (x : Int) : run P tab0.sum Try.f121 nsH8 (start Try.f121 [avLu l, avU x] []) inH8 =
  Tree.at (Cfg.mk (sl (28 : Nat) [((0 : Nat), AV.s (SV.ro (Con.ints IntKind.u8 l))), ((1 : Nat), AV.s (SV.int IntKind.u8 x)), ((7 : Nat), AV.s (SV.int IntKind.i64 (↑l.length : Int))), ((8 : Nat), AV.s (SV.int IntKind.i64 (0 : Int)))]) [] (hd Try.f136 (2 : Nat)) (Stk.mk (some (136 : Nat)) false (0 : Nat) [inCall Try.f121 none (1 : Nat) (2 : Nat) false (0 : Nat)] (0 : Nat))) := by kernel_rfl
noncomputable def cH8 (l : List Int) (x i : Int) : Cfg := ⟨sl 28 [(0, avLu l), (1, avU x), (7, avI (l.length : Int)), (8, avI i)], [], hd Try.f136 2, ⟨some fIj8, false, 0, [inCall Try.f121 none 1 2 false 0], 0⟩⟩
theorem loopH8 (l : List Int) (x i : Int) : run P tab0.sum Try.f121 nsH8 (cH8 l x i) inH8 =
  Tree.ite (decide (i < (↑l.length : Int))) (Tree.need ((0 : Int) ≤ i) (Tree.need (i < (↑l.length : Int)) (Tree.ite (x == l.getD i.toNat (0 : Int)) (Tree.ret [] (AV.s (SV.bool (decide (i ≥ (0 : Int)))))) (Tree.need (inI64 (i + (1 : Int))) (Tree.at (Cfg.mk (sl (28 : Nat) [((0 : Nat), AV.s (SV.ro (Con.ints IntKind.u8 l))), ((1 : Nat), AV.s (SV.int IntKind.u8 x)), ((7 : Nat), AV.s (SV.int IntKind.i64 (↑l.length : Int))), ((8 : Nat), AV.s (SV.int IntKind.i64 (i + (1 : Int))))]) [] (hd Try.f136 (2 : Nat)) (Stk.mk (some (136 : Nat)) false (0 : Nat) [inCall Try.f121 none (1 : Nat) (2 : Nat) false (0 : Nat)] (0 : Nat)))))))) (Tree.ret [] (AV.s (SV.blit false))) := by kernel_rfl
abbrev sumH8 := sumOf [tBs, tU8] [tBool] (fun _ => []) (fun (l, x, ()) => ((l : List Int).contains x, ()))
def tabAc : Tab := [(121, sumH8)]
theorem trAc (x : Int) : run P tabAc.sum Try.f98 [] (start Try.f98 [avU x] []) =
  Tree.ret [AObj.vec (Con.ints IntKind.u8 [(3 : Int), (11 : Int), (12 : Int), (14 : Int)]) (5 : Nat)] (AV.s (SV.bool ([(3 : Int), (11 : Int), (12 : Int), (14 : Int)].contains x))) := by kernel_rfl
def actF (k : Int) : Bool := [(3 : Int), 11, 12, 14].contains k
/-! NodeOf, bounds, asides -/
abbrev sumDf := sumR [tSt, tStr] [tPrr, tBool] (fun _ => []) (fun ((_, _, ps, _, _, _, ()), name, ()) => ((pN (getP ps name), pV (getP ps name), pO (getP ps name), pF (getP ps name), ()), hasP ps name, ()))
def tabNo : Tab := [(15, sumDf)]
theorem trNo (ck nx : Int) (ps : Ps) (is : Is) (cs : Cs) (ws : Ws) (x : CL cI) : run P tabNo.sum Try.f97 [] (start Try.f97 [avSt ck nx ps is cs ws, avIt x] []) =
  Tree.ite (!hasP ps (iP x)) (Tree.ret [AObj.own [AV.s (SV.int IntKind.i64 ck), AV.s (SV.int IntKind.i64 nx), AV.s (SV.ro (Con.typ cP ps)), AV.s (SV.ro (Con.typ cI is)), AV.s (SV.ro (Con.typ cC cs)), AV.s (SV.ro (Con.typ cW ws))] (27 : Nat), AObj.own [AV.s (SV.int IntKind.i64 (iI x)), AV.s (SV.int IntKind.i64 (iU x)), AV.s (SV.int IntKind.u8 (iS x)), AV.s (SV.str (iP x)), AV.s (SV.int IntKind.i64 (iN x)), AV.s (SV.int IntKind.i64 (iF x)), AV.s (SV.int IntKind.u8 (iW x)), AV.s (SV.str (iC x))] (43 : Nat), AObj.own [AV.s (SV.str ByteArray.empty), AV.s (SV.ilit IntKind.u8 (0 : Int)), AV.s (SV.ilit IntKind.i64 (0 : Int)), AV.s (SV.ilit IntKind.i64 (0 : Int)), AV.s (SV.ilit IntKind.u8 (0 : Int)), AV.s (SV.str ByteArray.empty), AV.s (SV.str ByteArray.empty), AV.s (SV.str ByteArray.empty), AV.s (SV.blit false), AV.emp, AV.emp] (37 : Nat), AObj.own [AV.s (SV.str (pN (getP ps (iP x)))), AV.s (SV.ro (Con.typ cV (pV (getP ps (iP x))))), AV.s (SV.ro (Con.typ cN (pO (getP ps (iP x))))), AV.s (SV.ro (Con.typ cF (pF (getP ps (iP x)))))] (34 : Nat)] (AV.tup [AV.agg [AV.s (SV.str ByteArray.empty), AV.s (SV.ilit IntKind.u8 (0 : Int)), AV.s (SV.ilit IntKind.i64 (0 : Int)), AV.s (SV.ilit IntKind.i64 (0 : Int)), AV.s (SV.ilit IntKind.u8 (0 : Int)), AV.s (SV.str ByteArray.empty), AV.s (SV.str ByteArray.empty), AV.s (SV.str ByteArray.empty), AV.s (SV.blit false), AV.emp, AV.emp], AV.s (SV.blit false)]))
  (Tree.ite (decide (iN x < (0 : Int))) (Tree.ret [AObj.own [AV.s (SV.int IntKind.i64 ck), AV.s (SV.int IntKind.i64 nx), AV.s (SV.ro (Con.typ cP ps)), AV.s (SV.ro (Con.typ cI is)), AV.s (SV.ro (Con.typ cC cs)), AV.s (SV.ro (Con.typ cW ws))] (27 : Nat), AObj.own [AV.s (SV.int IntKind.i64 (iI x)), AV.s (SV.int IntKind.i64 (iU x)), AV.s (SV.int IntKind.u8 (iS x)), AV.s (SV.str (iP x)), AV.s (SV.int IntKind.i64 (iN x)), AV.s (SV.int IntKind.i64 (iF x)), AV.s (SV.int IntKind.u8 (iW x)), AV.s (SV.str (iC x))] (43 : Nat), AObj.own [AV.s (SV.str ByteArray.empty), AV.s (SV.ilit IntKind.u8 (0 : Int)), AV.s (SV.ilit IntKind.i64 (0 : Int)), AV.s (SV.ilit IntKind.i64 (0 : Int)), AV.s (SV.ilit IntKind.u8 (0 : Int)), AV.s (SV.str ByteArray.empty), AV.s (SV.str ByteArray.empty), AV.s (SV.str ByteArray.empty), AV.s (SV.blit false), AV.emp, AV.emp] (37 : Nat), AObj.own [AV.s (SV.str (pN (getP ps (iP x)))), AV.s (SV.ro (Con.typ cV (pV (getP ps (iP x))))), AV.s (SV.ro (Con.typ cN (pO (getP ps (iP x))))), AV.s (SV.ro (Con.typ cF (pF (getP ps (iP x)))))] (34 : Nat)] (AV.tup [AV.agg [AV.s (SV.str ByteArray.empty), AV.s (SV.ilit IntKind.u8 (0 : Int)), AV.s (SV.ilit IntKind.i64 (0 : Int)), AV.s (SV.ilit IntKind.i64 (0 : Int)), AV.s (SV.ilit IntKind.u8 (0 : Int)), AV.s (SV.str ByteArray.empty), AV.s (SV.str ByteArray.empty), AV.s (SV.str ByteArray.empty), AV.s (SV.blit false), AV.emp, AV.emp], AV.s (SV.blit false)]))
    (Tree.ite (decide (iN x ≥ (↑(pO (getP ps (iP x))).length : Int))) (Tree.ret [AObj.own [AV.s (SV.int IntKind.i64 ck), AV.s (SV.int IntKind.i64 nx), AV.s (SV.ro (Con.typ cP ps)), AV.s (SV.ro (Con.typ cI is)), AV.s (SV.ro (Con.typ cC cs)), AV.s (SV.ro (Con.typ cW ws))] (27 : Nat), AObj.own [AV.s (SV.int IntKind.i64 (iI x)), AV.s (SV.int IntKind.i64 (iU x)), AV.s (SV.int IntKind.u8 (iS x)), AV.s (SV.str (iP x)), AV.s (SV.int IntKind.i64 (iN x)), AV.s (SV.int IntKind.i64 (iF x)), AV.s (SV.int IntKind.u8 (iW x)), AV.s (SV.str (iC x))] (43 : Nat), AObj.own [AV.s (SV.str ByteArray.empty), AV.s (SV.ilit IntKind.u8 (0 : Int)), AV.s (SV.ilit IntKind.i64 (0 : Int)), AV.s (SV.ilit IntKind.i64 (0 : Int)), AV.s (SV.ilit IntKind.u8 (0 : Int)), AV.s (SV.str ByteArray.empty), AV.s (SV.str ByteArray.empty), AV.s (SV.str ByteArray.empty), AV.s (SV.blit false), AV.emp, AV.emp] (37 : Nat), AObj.own [AV.s (SV.str (pN (getP ps (iP x)))), AV.s (SV.ro (Con.typ cV (pV (getP ps (iP x))))), AV.s (SV.ro (Con.typ cN (pO (getP ps (iP x))))), AV.s (SV.ro (Con.typ cF (pF (getP ps (iP x)))))] (34 : Nat)] (AV.tup [AV.agg [AV.s (SV.str ByteArray.empty), AV.s (SV.ilit IntKind.u8 (0 : Int)), AV.s (SV.ilit IntKind.i64 (0 : Int)), AV.s (SV.ilit IntKind.i64 (0 : Int)), AV.s (SV.ilit IntKind.u8 (0 : Int)), AV.s (SV.str ByteArray.empty), AV.s (SV.str ByteArray.empty), AV.s (SV.str ByteArray.empty), AV.s (SV.blit false), AV.emp, AV.emp], AV.s (SV.blit false)])) (Tree.need ((0 : Int) ≤ iN x) (Tree.need (iN x < (↑(pO (getP ps (iP x))).length : Int)) (Tree.ret [AObj.own [AV.s (SV.int IntKind.i64 ck), AV.s (SV.int IntKind.i64 nx), AV.s (SV.ro (Con.typ cP ps)), AV.s (SV.ro (Con.typ cI is)), AV.s (SV.ro (Con.typ cC cs)), AV.s (SV.ro (Con.typ cW ws))] (27 : Nat), AObj.own [AV.s (SV.int IntKind.i64 (iI x)), AV.s (SV.int IntKind.i64 (iU x)), AV.s (SV.int IntKind.u8 (iS x)), AV.s (SV.str (iP x)), AV.s (SV.int IntKind.i64 (iN x)), AV.s (SV.int IntKind.i64 (iF x)), AV.s (SV.int IntKind.u8 (iW x)), AV.s (SV.str (iC x))] (43 : Nat), AObj.own [AV.s (SV.str (nN (el (pO (getP ps (iP x))) (iN x)))), AV.s (SV.int IntKind.u8 (nK (el (pO (getP ps (iP x))) (iN x)))), AV.s (SV.int IntKind.i64 (nI (el (pO (getP ps (iP x))) (iN x)))), AV.s (SV.int IntKind.i64 (nO (el (pO (getP ps (iP x))) (iN x)))), AV.s (SV.int IntKind.u8 (nE (el (pO (getP ps (iP x))) (iN x)))), AV.s (SV.str (nY (el (pO (getP ps (iP x))) (iN x)))), AV.s (SV.str (nT (el (pO (getP ps (iP x))) (iN x)))), AV.s (SV.str (nS (el (pO (getP ps (iP x))) (iN x)))), AV.s (SV.bool (nB (el (pO (getP ps (iP x))) (iN x)))), AV.s (SV.ro (Con.typ cV (nV (el (pO (getP ps (iP x))) (iN x))))), AV.s (SV.ro (Con.strs (nZ (el (pO (getP ps (iP x))) (iN x)))))] (37 : Nat), AObj.own [AV.s (SV.str (pN (getP ps (iP x)))), AV.s (SV.ro (Con.typ cV (pV (getP ps (iP x))))), AV.s (SV.ro (Con.typ cN (pO (getP ps (iP x))))), AV.s (SV.ro (Con.typ cF (pF (getP ps (iP x)))))] (34 : Nat)] (AV.tup [AV.agg [AV.s (SV.str (nN (el (pO (getP ps (iP x))) (iN x)))), AV.s (SV.int IntKind.u8 (nK (el (pO (getP ps (iP x))) (iN x)))), AV.s (SV.int IntKind.i64 (nI (el (pO (getP ps (iP x))) (iN x)))), AV.s (SV.int IntKind.i64 (nO (el (pO (getP ps (iP x))) (iN x)))), AV.s (SV.int IntKind.u8 (nE (el (pO (getP ps (iP x))) (iN x)))), AV.s (SV.str (nY (el (pO (getP ps (iP x))) (iN x)))), AV.s (SV.str (nT (el (pO (getP ps (iP x))) (iN x)))), AV.s (SV.str (nS (el (pO (getP ps (iP x))) (iN x)))), AV.s (SV.bool (nB (el (pO (getP ps (iP x))) (iN x)))), AV.s (SV.ro (Con.typ cV (nV (el (pO (getP ps (iP x))) (iN x))))), AV.s (SV.ro (Con.strs (nZ (el (pO (getP ps (iP x))) (iN x)))))], AV.s (SV.blit true)])))))) := by kernel_rfl
def idxsF {α : Type} (p : α → Bool) : List α → Int → List Int
  | [], _ => []
  | x :: l, i => (if p x then [i] else []) ++ idxsF p l (i + 1)
def nodeAt (ns : List (CL cN)) (n : Int) : CL cN := if 0 ≤ n ∧ n < (ns.length : Int) then el ns n else CL.d cN
def pBo (n : Int) (x : CL cN) : Bool := (nK x == 15) && (nO x == n)
def pAs (n : Int) (x : CL cN) : Bool := (nK x == 13) && (nI x == n)
def pSo (n : Int) (sc : CL cN) (x : CL cN) : Bool := (nK x == 1) && (nI x == n) && ((nE x == 0) || (nK sc == 13))
def boundsF (ns : List (CL cN)) (n : Int) : List Int := idxsF (pBo n) ns 0
def asidesF (ns : List (CL cN)) (n : Int) : List Int := idxsF (pAs n) ns 0
def startsF (ns : List (CL cN)) (n : Int) : List Int := idxsF (pSo n (nodeAt ns n)) ns 0
def startF (ns : List (CL cN)) (n : Int) : Int := (startsF ns n).getD 0 0
def hasSt (ns : List (CL cN)) (n : Int) : Bool := decide (0 < (startsF ns n).length)
theorem h8_ok {Z : Glob} : FnOk P Z 121 [tBs, tU8] [tBool] (fun _ => []) (fun (l, x, ()) => ((l : List Int).contains x, ())) := by
  refine fnOk_of_safe Try.func121 (by kernel_rfl) (by kernel_rfl) ?_
  rintro ⟨(l : List Int), (x : Int), ⟨⟩⟩ ⟨(hl : l.length ≤ maxLen), _⟩ _ X hX hz
  have hl2 : l.length ≤ 9223372036854775807 := by unfold maxLen at hl; omega
  show Safe P 121 X (Ends [tBool] (l.contains x, ())) _
  have loop : ∀ (j k : Nat), k + j = l.length → (∀ i (hi : i < k) (h2 : i < l.length), l[i] ≠ x) → Safe P 121 X (Ends [tBool] (l.contains x, ())) (cH8 l x (k : Int)) := by
    intro j
    induction j with
    | zero =>
      intro k hk hi
      have e : l.contains x = false := by
        rw [List.contains_eq_mem, decide_eq_false_iff_not]
        intro h
        obtain ⟨i, h1, h2⟩ := List.mem_iff_getElem.1 h
        exact hi i (by omega) h1 h2
      refine go hz hX Tab.Ok.nil Try.func121 (loopH8 l x k) ⟨fun h => absurd (of_decide_eq_true h) (by omega), fun _ => ?_⟩
      rw [e]; exact ends_eq _ rfl (by kernel_rfl)
    | succ j ih =>
      intro k hk hi
      have hlt : k < l.length := by omega
      refine go hz hX Tab.Ok.nil Try.func121 (loopH8 l x k) ?_
      rw [Int.toNat_natCast, getD_lt hlt]
      have next := fun h : l[k] ≠ x => ih (k + 1) (by omega) fun i h1 h2 => by
        by_cases e : i = k
        · subst e; exact h
        · exact hi i (by omega) h2
      have hit : x = l[k] → l.contains x = true := fun h => by rw [List.contains_eq_mem, decide_eq_true_iff, h]; exact List.getElem_mem hlt
      repeat' (with_reducible (first | refine h_eq ?_ | refine h_need ?_ ?_ | refine h_dec (fun _ => ?_) (fun _ => ?_) | refine h_beq (fun _ => ?_) (fun _ => ?_) | refine h_bne (fun _ => ?_) (fun _ => ?_) | refine h_tt ?_ | refine h_ff ?_ | refine h_not ?_ | refine h_ite (fun _ => ?_) (fun _ => ?_) | refine h_both (fun _ => ?_) (fun _ => ?_) | refine h_ret ?_ | refine h_at ?_))
      all_goals first | omega | exact ⟨by omega, by omega⟩ | skip
      · rename_i h
        have e1 : decide ((k : Int) ≥ 0) = true := decide_eq_true (by omega)
        rw [hit (by simpa using h), e1]; exact ends_eq _ rfl (by kernel_rfl)
      · rename_i h; exact next (fun e => by simp [e] at h)
  refine go hz hX Tab.Ok.nil Try.func121 (trH8 l x) ?_
  exact loop l.length 0 (by omega) fun i hi => absurd hi (Nat.not_lt_zero _)
theorem tabAc_ok {Z : Glob} : tabAc.Ok P Z := Tab.Ok.cons h8_ok.sum Tab.Ok.nil
theorem act_ok {Z : Glob} : FnOk P Z 98 [tU8] [tBool] (fun _ => []) (fun (k, ()) => (actF k, ())) := by
  refine fnOk_of_safe Try.func98 (by kernel_rfl) (by kernel_rfl) ?_
  rintro ⟨(k : Int), ⟨⟩⟩ _ _ X hX hz
  show Safe P 98 X (Ends [tBool] (actF k, ())) _
  refine go hz hX tabAc_ok Try.func98 (trAc k) ?_
  exact ends_eq _ rfl (by kernel_rfl)
theorem idxs_snoc {α : Type} {p : α → Bool} : ∀ (l : List α) (x : α) (i : Int), idxsF p (l ++ [x]) i = idxsF p l i ++ (if p x then [i + l.length] else [])
  | [], x, i => by simp [idxsF]
  | y :: l, x, i => by
    simp only [List.cons_append, idxsF, idxs_snoc l x (i + 1), List.append_assoc, List.length_cons]
    congr 2
    split
    · congr 1; push_cast; omega
    · rfl
theorem idxs_len {α : Type} {p : α → Bool} : ∀ (l : List α) (i : Int), (idxsF p l i).length ≤ l.length
  | [], i => Nat.le_refl _
  | y :: l, i => by
    have := idxs_len (p := p) l (i + 1)
    simp only [idxsF, List.length_append, List.length_cons]
    split <;> simp <;> omega
theorem idxs_take {cs : List CK} {p : CL cs → Bool} {l : List (CL cs)} {k : Nat} (h : k < l.length) : idxsF p (l.take (k + 1)) 0 = idxsF p (l.take k) 0 ++ (if p l[k] then [(k : Int)] else []) := by
  rw [List.take_add_one, List.getElem?_eq_getElem h, Option.toList_some, idxs_snoc, List.length_take, Nat.min_eq_left (by omega), Int.zero_add]
theorem idxs_tlen {cs : List CK} {p : CL cs → Bool} {l : List (CL cs)} {k : Nat} : (idxsF p (l.take k) 0).length ≤ k := Nat.le_trans (idxs_len _ _) (by rw [List.length_take]; omega)
theorem bo_ok {Z : Glob} : FnOk P Z 99 [tPr, tInt] [tNs] (fun ((_, _, ns, _, ()), _, ()) => [(ns : List (CL cN)).length ≤ 1000000]) (fun ((_, _, ns, _, ()), n, ()) => (boundsF ns n, ())) := by
  refine fnOk_of_safe Try.func99 (by kernel_rfl) (by kernel_rfl) ?_
  rintro ⟨⟨(a : ByteArray), (vs : List (CL cV)), (ns : List (CL cN)), (fs : List (CL cF)), ⟨⟩⟩, (n : Int), ⟨⟩⟩ _ ⟨(hl : ns.length ≤ 1000000), _⟩ X hX hz
  show Safe P 99 X (Ends [tNs] (boundsF ns n, ())) _
  have loop : ∀ (j k : Nat), k + j = ns.length → Safe P 99 X (Ends [tNs] (boundsF ns n, ())) (cNd 123 Try.f99 1 2 n ns (idxsF (pBo n) (ns.take k) 0) (k : Int)) := by
    intro j
    induction j with
    | zero =>
      intro k hk
      rw [List.take_of_length_le (by omega)]
      exact go hz hX Tab.Ok.nil Try.func99 (loopBo n ns _ k) (no_and (decide_eq_false (by omega)) (ends_eq _ rfl (by kernel_rfl)))
    | succ j ih =>
      intro k hk
      have hlt : k < ns.length := by omega
      have next := ih (k + 1) (by omega)
      rw [idxs_take hlt] at next
      have htl := idxs_tlen (p := pBo n) (l := ns) (k := k)
      refine go hz hX Tab.Ok.nil Try.func99 (loopBo n ns _ k) (yes_and (decide_eq_true (by omega)) ⟨by omega, by omega, ?_⟩)
      rw [el_lt hlt]
      generalize idxsF (pBo n) (ns.take k) 0 = acc at *
      cases h1 : nK ns[k] == 15 with
      | false =>
        have e : pBo n ns[k] = false := by unfold pBo; rw [h1]; rfl
        rw [e, if_neg (by simp), List.append_nil] at next
        exact no_and rfl ⟨⟨by omega, by omega⟩, next⟩
      | true =>
        refine yes_and rfl ?_
        cases h2 : nO ns[k] == n with
        | false =>
          have e : pBo n ns[k] = false := by unfold pBo; rw [h1, h2]; rfl
          rw [e, if_neg (by simp), List.append_nil] at next
          exact no_and rfl ⟨⟨by omega, by omega⟩, next⟩
        | true =>
          have e : pBo n ns[k] = true := by unfold pBo; rw [h1, h2]; rfl
          rw [e, if_pos rfl] at next
          exact yes_and rfl ⟨by omega, ⟨by omega, by omega⟩, next⟩
  exact go hz hX Tab.Ok.nil Try.func99 (trBo a vs ns fs n) (loop ns.length 0 (by omega))
theorem as_ok {Z : Glob} : FnOk P Z 100 [tPr, tInt] [tNs] (fun ((_, _, ns, _, ()), _, ()) => [(ns : List (CL cN)).length ≤ 1000000]) (fun ((_, _, ns, _, ()), n, ()) => (asidesF ns n, ())) := by
  refine fnOk_of_safe Try.func100 (by kernel_rfl) (by kernel_rfl) ?_
  rintro ⟨⟨(a : ByteArray), (vs : List (CL cV)), (ns : List (CL cN)), (fs : List (CL cF)), ⟨⟩⟩, (n : Int), ⟨⟩⟩ _ ⟨(hl : ns.length ≤ 1000000), _⟩ X hX hz
  show Safe P 100 X (Ends [tNs] (asidesF ns n, ())) _
  have loop : ∀ (j k : Nat), k + j = ns.length → Safe P 100 X (Ends [tNs] (asidesF ns n, ())) (cNd 124 Try.f100 1 2 n ns (idxsF (pAs n) (ns.take k) 0) (k : Int)) := by
    intro j
    induction j with
    | zero =>
      intro k hk
      rw [List.take_of_length_le (by omega)]
      exact go hz hX Tab.Ok.nil Try.func100 (loopAs n ns _ k) (no_and (decide_eq_false (by omega)) (ends_eq _ rfl (by kernel_rfl)))
    | succ j ih =>
      intro k hk
      have hlt : k < ns.length := by omega
      have next := ih (k + 1) (by omega)
      rw [idxs_take hlt] at next
      have htl := idxs_tlen (p := pAs n) (l := ns) (k := k)
      refine go hz hX Tab.Ok.nil Try.func100 (loopAs n ns _ k) (yes_and (decide_eq_true (by omega)) ⟨by omega, by omega, ?_⟩)
      rw [el_lt hlt]
      generalize idxsF (pAs n) (ns.take k) 0 = acc at *
      cases h1 : nK ns[k] == 13 with
      | false =>
        have e : pAs n ns[k] = false := by unfold pAs; rw [h1]; rfl
        rw [e, if_neg (by simp), List.append_nil] at next
        exact no_and rfl ⟨⟨by omega, by omega⟩, next⟩
      | true =>
        refine yes_and rfl ?_
        cases h2 : nI ns[k] == n with
        | false =>
          have e : pAs n ns[k] = false := by unfold pAs; rw [h1, h2]; rfl
          rw [e, if_neg (by simp), List.append_nil] at next
          exact no_and rfl ⟨⟨by omega, by omega⟩, next⟩
        | true =>
          have e : pAs n ns[k] = true := by unfold pAs; rw [h1, h2]; rfl
          rw [e, if_pos rfl] at next
          exact yes_and rfl ⟨by omega, ⟨by omega, by omega⟩, next⟩
  exact go hz hX Tab.Ok.nil Try.func100 (trAs a vs ns fs n) (loop ns.length 0 (by omega))
theorem so_ok {Z : Glob} : FnOk P Z 101 [tPr, tInt] [tInt, tBool] (fun ((_, _, ns, _, ()), _, ()) => [(ns : List (CL cN)).length ≤ 1000000]) (fun ((_, _, ns, _, ()), n, ()) => (startF ns n, hasSt ns n, ())) := by
  refine fnOk_of_safe Try.func101 (by kernel_rfl) (by kernel_rfl) ?_
  rintro ⟨⟨(a : ByteArray), (vs : List (CL cV)), (ns : List (CL cN)), (fs : List (CL cF)), ⟨⟩⟩, (n : Int), ⟨⟩⟩ _ ⟨(hl : ns.length ≤ 1000000), _⟩ X hX hz
  show Safe P 101 X (Ends [tInt, tBool] (startF ns n, hasSt ns n, ())) _
  have loop : ∀ (j k : Nat), k + j = ns.length → Safe P 101 X (Ends [tInt, tBool] (startF ns n, hasSt ns n, ())) (cSo n (nodeAt ns n) ns (idxsF (pSo n (nodeAt ns n)) (ns.take k) 0) (k : Int)) := by
    intro j
    induction j with
    | zero =>
      intro k hk
      rw [List.take_of_length_le (by omega)]
      refine go hz hX Tab.Ok.nil Try.func101 (loopSo n (nodeAt ns n) ns _ k) (no_and (decide_eq_false (by omega)) ?_)
      show Tree.Holds (Ends [tInt, tBool] ((startsF ns n).getD 0 0, decide (0 < (startsF ns n).length), ())) _ _
      rw [show idxsF (pSo n (nodeAt ns n)) ns 0 = startsF ns n from rfl]
      generalize startsF ns n = l
      generalize nodeAt ns n = x
      cases l with
      | nil => exact yes_and rfl (ends_eq _ rfl (by kernel_rfl))
      | cons y l =>
        refine no_and ?_ ⟨by omega, by simp only [List.length_cons]; omega, ?_⟩
        · rw [beq_eq_false_iff_ne, List.length_cons]; omega
        · rw [decide_eq_true (show 0 < (y :: l).length by simp)]
          exact ends_eq _ rfl (by kernel_rfl)
    | succ j ih =>
      intro k hk
      have hlt : k < ns.length := by omega
      have next := ih (k + 1) (by omega)
      rw [idxs_take hlt] at next
      have htl := idxs_tlen (p := pSo n (nodeAt ns n)) (l := ns) (k := k)
      refine go hz hX Tab.Ok.nil Try.func101 (loopSo n (nodeAt ns n) ns _ k) (yes_and (decide_eq_true (by omega)) ⟨by omega, by omega, ?_⟩)
      rw [el_lt hlt]
      generalize idxsF (pSo n (nodeAt ns n)) (ns.take k) 0 = acc at *
      have no : pSo n (nodeAt ns n) ns[k] = false → Safe P 101 X (Ends [tInt, tBool] (startF ns n, hasSt ns n, ())) (cSo n (nodeAt ns n) ns acc ((k + 1 : Nat) : Int)) := fun e => by
        rw [e, if_neg (by simp), List.append_nil] at next; exact next
      have yes : pSo n (nodeAt ns n) ns[k] = true → Safe P 101 X (Ends [tInt, tBool] (startF ns n, hasSt ns n, ())) (cSo n (nodeAt ns n) ns (acc ++ [(k : Int)]) ((k + 1 : Nat) : Int)) := fun e => by
        rw [e, if_pos rfl] at next; exact next
      clear next
      generalize nodeAt ns n = sc at *
      cases h1 : nK ns[k] == 1 with
      | false => exact no_and rfl ⟨⟨by omega, by omega⟩, no (by unfold pSo; rw [h1]; rfl)⟩
      | true =>
        refine yes_and rfl ?_
        cases h2 : nI ns[k] == n with
        | false => exact no_and rfl ⟨⟨by omega, by omega⟩, no (by unfold pSo; rw [h1, h2]; rfl)⟩
        | true =>
          refine yes_and rfl ?_
          cases h3 : nE ns[k] == 0 with
          | true => exact yes_and rfl ⟨by omega, ⟨by omega, by omega⟩, yes (by unfold pSo; rw [h1, h2, h3]; rfl)⟩
          | false =>
            refine no_and rfl ?_
            cases h4 : nK sc == 13 with
            | true => exact yes_and rfl ⟨by omega, ⟨by omega, by omega⟩, yes (by unfold pSo; rw [h1, h2, h3, h4]; rfl)⟩
            | false => exact no_and rfl ⟨⟨by omega, by omega⟩, no (by unfold pSo; rw [h1, h2, h3, h4]; rfl)⟩
  have first := loop ns.length 0 (by omega)
  refine go hz hX Tab.Ok.nil Try.func101 (trSo2 a vs ns fs n) ⟨fun h => ?_, fun h => ⟨fun h2 => ?_, fun h2 => ⟨by have := of_decide_eq_false h; omega, by have := of_decide_eq_false h2; omega, ?_⟩⟩⟩
  · have e : nodeAt ns n = CL.d cN := by unfold nodeAt; rw [if_neg (by have := of_decide_eq_true h; omega)]
    rw [e] at first
    exact first
  · have e : nodeAt ns n = CL.d cN := by unfold nodeAt; rw [if_neg (by have := of_decide_eq_true h2; omega)]
    rw [e] at first
    exact first
  · have e : nodeAt ns n = el ns n := by unfold nodeAt; rw [if_pos (by have := of_decide_eq_false h; have := of_decide_eq_false h2; omega)]
    rw [e] at first
    exact first
end Ds
