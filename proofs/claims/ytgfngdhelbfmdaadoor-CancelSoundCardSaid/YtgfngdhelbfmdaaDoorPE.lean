/- Lemmas: A6, A7, A8, A9, Q1, Q2, Q3, Q4, Q5, Q6, Q7, Q8, Q9, Q10, U1, U2, U3, V1, V2, V3, W1, W2, W3, SxGlob, S1, S2, S3, S4, S5, S6, S7, T1, T2, T4, T5, T6, T7, T8. -/
import Derived.Test.YtgfngdhelbfmdaaDoorPD

namespace Ds
open Go Go.Sx Go.Proofs Lf
/-! without -/
def mUw : List AV → RM ((Int × Int × Ps × Is × Cs × Ws × Mp) × List Nat)
  | [.agg [ck, nx, ps, is, cs, ws], .mapv id] => .look id fun o => match o, avInt .i64 ck, avInt .i64 nx, avRow (.typ cP) ps, avRow (.typ cI) is, avRow (.typ cC) cs, avRow (.typ cW) ws with
    | some (.map (.int .i64) m), some ck, some nx, some ps, some is, some cs, some ws => .ret ((ck, nx, ps, is, cs, ws, m), [id])
    | _, _, _, _, _, _, _ => .fail "no state"
  | _ => .fail "no state"
abbrev sumUw := sumS sUw mUw
abbrev sumDr := sumR [tSt, tNs] [tSr] (fun ((_, _, _, _, cs, _, ()), _, ()) => [(cs : Cs).length ≤ 1000000]) (fun ((ck, nx, ps, is, cs, ws, ()), l, ()) => ((ck, nx, ps, is, delF (pDr l) (cs : Cs), ws, ()), ()))
def tabWo : Tab := [(71, sumDr), (54, sumUw)]
abbrev fIi : FuncId := 60
abbrev fDi : FuncId := 72
abbrev fWo : FuncId := 73
abbrev inWo : List FuncId := [36, fIi, fDi, fWo]
def nsWo : List (Nat × Norm) := [(3, ⟨[], [1, 2, 4, 5, 9, 10, 11], 0, []⟩), (midKey + 8003, ⟨[(25, .typ cI [], eI)], [2, 4, 5, 25], 0, []⟩), ((fIi + 1) * 100000 + 2, ⟨[], [0, 1, 7, 8, 19, 20, 63, 65, 66], 0, []⟩), ((fDi + 1) * 100000 + 5, ⟨[], [0, 1, 5, 6, 44, 46, 47], 0, []⟩), (midKey + 8005, ⟨[], [2, 4, 5, 27], 0, []⟩)]
theorem trWo (ck nx : Int) (ps : Ps) (is : Is) (cs : Cs) (ws : Ws) (l : List Int) : run P tabWo.sum Tryd.f51 nsWo (start Tryd.f51 [avSt ck nx ps is cs ws, avL l] []) inWo =
  Tree.at (Cfg.mk (sl (32 : Nat) [((1 : Nat), AV.s (SV.ro (Con.ints IntKind.i64 l))), ((2 : Nat), AV.ptr (0 : Nat) (0 : Nat)), ((4 : Nat), AV.ptr (1 : Nat) (0 : Nat)), ((5 : Nat), AV.ptr (2 : Nat) (0 : Nat)), ((9 : Nat), AV.s (SV.ro (Con.ints IntKind.i64 l))), ((10 : Nat), AV.s (SV.int IntKind.i64 (↑l.length : Int))), ((11 : Nat), AV.s (SV.int IntKind.i64 (0 : Int)))]) [AObj.own [AV.s (SV.int IntKind.i64 ck), AV.s (SV.int IntKind.i64 nx), AV.s (SV.ro (Con.typ [CK.str, CK.rows [CK.str, CK.int IntKind.u8, CK.int IntKind.i64, CK.str], CK.rows [CK.str, CK.int IntKind.u8, CK.int IntKind.i64, CK.int IntKind.i64, CK.int IntKind.u8, CK.str, CK.str, CK.str, CK.bool, CK.rows [CK.str, CK.int IntKind.u8, CK.int IntKind.i64, CK.str], CK.strs], CK.rows [CK.int IntKind.i64, CK.int IntKind.i64, CK.str, CK.bool]] ps)), AV.s (SV.ro (Con.typ cI is)), AV.s (SV.ro (Con.typ cC cs)), AV.s (SV.ro (Con.typ cW ws))] (27 : Nat), AObj.own [AV.s (SV.int IntKind.i64 (0 : Int)), AV.s (SV.int IntKind.i64 (0 : Int)), AV.emp, AV.emp, AV.emp, AV.emp] (27 : Nat), AObj.own [AV.mapv (3 : Nat)] (72 : Nat), AObj.map (CK.int IntKind.i64) []] (hd Tryd.f51 (3 : Nat)) (Stk.mk none false (0 : Nat) [] (0 : Nat))) := by kernel_rfl
noncomputable def cWo0 (ck nx : Int) (ps : Ps) (is : Is) (cs : Cs) (ws : Ws) (l : List Int) (m : Mp) (i : Int) : Cfg := ⟨sl 32 [(1, avL l), (2, .ptr 0 0), (4, .ptr 1 0), (5, .ptr 2 0), (9, avL l), (10, avI (l.length : Int)), (11, avI i)], [obSt ck nx ps is cs ws, obZ, .own [.mapv 3] 72, .map kM m], hd Tryd.f51 3, {}⟩
theorem loopWo0 (ck nx : Int) (ps : Ps) (is : Is) (cs : Cs) (ws : Ws) (l : List Int) (m : Mp) (i : Int) : run P tabWo.sum Tryd.f51 nsWo (cWo0 ck nx ps is cs ws l m i) inWo =
  Tree.ite (decide (i < (↑l.length : Int))) (Tree.need ((0 : Int) ≤ i) (Tree.need (i < (↑l.length : Int)) (Tree.need (inI64 ((mget m (l.getD i.toNat (0 : Int))).getD (CK.int IntKind.i64).d + (1 : Int))) (Tree.need (inI64 (i + (1 : Int))) (Tree.at (Cfg.mk (sl (32 : Nat) [((1 : Nat), AV.s (SV.ro (Con.ints IntKind.i64 l))), ((2 : Nat), AV.ptr (0 : Nat) (0 : Nat)), ((4 : Nat), AV.ptr (1 : Nat) (0 : Nat)), ((5 : Nat), AV.ptr (2 : Nat) (0 : Nat)), ((9 : Nat), AV.s (SV.ro (Con.ints IntKind.i64 l))), ((10 : Nat), AV.s (SV.int IntKind.i64 (↑l.length : Int))), ((11 : Nat), AV.s (SV.int IntKind.i64 (i + (1 : Int))))]) [AObj.own [AV.s (SV.int IntKind.i64 ck), AV.s (SV.int IntKind.i64 nx), AV.s (SV.ro (Con.typ [CK.str, CK.rows [CK.str, CK.int IntKind.u8, CK.int IntKind.i64, CK.str], CK.rows [CK.str, CK.int IntKind.u8, CK.int IntKind.i64, CK.int IntKind.i64, CK.int IntKind.u8, CK.str, CK.str, CK.str, CK.bool, CK.rows [CK.str, CK.int IntKind.u8, CK.int IntKind.i64, CK.str], CK.strs], CK.rows [CK.int IntKind.i64, CK.int IntKind.i64, CK.str, CK.bool]] ps)), AV.s (SV.ro (Con.typ cI is)), AV.s (SV.ro (Con.typ cC cs)), AV.s (SV.ro (Con.typ cW ws))] (27 : Nat), AObj.own [AV.s (SV.int IntKind.i64 (0 : Int)), AV.s (SV.int IntKind.i64 (0 : Int)), AV.emp, AV.emp, AV.emp, AV.emp] (27 : Nat), AObj.own [AV.mapv (3 : Nat)] (72 : Nat), AObj.map (CK.int IntKind.i64) (mput m (l.getD i.toNat (0 : Int)) ((mget m (l.getD i.toNat (0 : Int))).getD (CK.int IntKind.i64).d + (1 : Int)))] (hd Tryd.f51 (3 : Nat)) (Stk.mk none false (0 : Nat) [] (0 : Nat)))))))) (Tree.need (List.length cs ≤ (1000000 : Nat)) (Tree.both (List.length is = (0 : Nat)) True (Tree.at (Cfg.mk (sl (32 : Nat) [((2 : Nat), AV.ptr (0 : Nat) (0 : Nat)), ((4 : Nat), AV.ptr (1 : Nat) (0 : Nat)), ((5 : Nat), AV.ptr (2 : Nat) (0 : Nat)), ((25 : Nat), AV.vec (3 : Nat))]) [AObj.own [AV.s (SV.int IntKind.i64 ck), AV.s (SV.int IntKind.i64 nx), AV.s (SV.ro (Con.typ [CK.str, CK.rows [CK.str, CK.int IntKind.u8, CK.int IntKind.i64, CK.str], CK.rows [CK.str, CK.int IntKind.u8, CK.int IntKind.i64, CK.int IntKind.i64, CK.int IntKind.u8, CK.str, CK.str, CK.str, CK.bool, CK.rows [CK.str, CK.int IntKind.u8, CK.int IntKind.i64, CK.str], CK.strs], CK.rows [CK.int IntKind.i64, CK.int IntKind.i64, CK.str, CK.bool]] ps)), AV.s (SV.ro (Con.typ cI is)), AV.s (SV.ro (Con.typ cC (delF (pDr l) cs))), AV.s (SV.ro (Con.typ cW ws))] (27 : Nat), AObj.own [AV.s (SV.int IntKind.i64 (0 : Int)), AV.s (SV.int IntKind.i64 (0 : Int)), AV.emp, AV.emp, AV.emp, AV.emp] (27 : Nat), AObj.own [AV.mapv (4 : Nat)] (72 : Nat), AObj.vec (Con.typ cI []) (31 : Nat), AObj.map (CK.int IntKind.i64) m] (cal Tryd.f51 (8 : Nat) (3 : Nat)) (Stk.mk none false (0 : Nat) [] (8 : Nat)))) (Tree.need (((0 : Nat) + List.length is) * (80 : Nat) ≤ (140737488355328 : Nat)) (Tree.at (Cfg.mk (sl (32 : Nat) [((2 : Nat), AV.ptr (0 : Nat) (0 : Nat)), ((4 : Nat), AV.ptr (1 : Nat) (0 : Nat)), ((5 : Nat), AV.ptr (2 : Nat) (0 : Nat)), ((25 : Nat), AV.vec (3 : Nat))]) [AObj.own [AV.s (SV.int IntKind.i64 ck), AV.s (SV.int IntKind.i64 nx), AV.s (SV.ro (Con.typ [CK.str, CK.rows [CK.str, CK.int IntKind.u8, CK.int IntKind.i64, CK.str], CK.rows [CK.str, CK.int IntKind.u8, CK.int IntKind.i64, CK.int IntKind.i64, CK.int IntKind.u8, CK.str, CK.str, CK.str, CK.bool, CK.rows [CK.str, CK.int IntKind.u8, CK.int IntKind.i64, CK.str], CK.strs], CK.rows [CK.int IntKind.i64, CK.int IntKind.i64, CK.str, CK.bool]] ps)), AV.s (SV.ro (Con.typ cI is)), AV.s (SV.ro (Con.typ cC (delF (pDr l) cs))), AV.s (SV.ro (Con.typ cW ws))] (27 : Nat), AObj.own [AV.s (SV.int IntKind.i64 (0 : Int)), AV.s (SV.int IntKind.i64 (0 : Int)), AV.emp, AV.emp, AV.emp, AV.emp] (27 : Nat), AObj.own [AV.mapv (4 : Nat)] (72 : Nat), AObj.vec (Con.typ cI ([] ++ is)) (31 : Nat), AObj.map (CK.int IntKind.i64) m] (cal Tryd.f51 (8 : Nat) (3 : Nat)) (Stk.mk none false (0 : Nat) [] (8 : Nat))))))) := by kernel_rfl
noncomputable def cWo (ck nx : Int) (ps : Ps) (is : Is) (cs : Cs) (ws : Ws) (m : Mp) (r : Is) : Cfg := ⟨sl 32 [(2, .ptr 0 0), (4, .ptr 1 0), (5, .ptr 2 0), (25, .vec 3)], [obSt ck nx ps is cs ws, obZ, .own [.mapv 4] 72, .vec (.typ cI r) eI, .map kM m], cal Tryd.f51 8 3, kk 8⟩
theorem midWo (ck nx : Int) (ps : Ps) (is : Is) (cs : Cs) (ws : Ws) (m : Mp) (r : Is) : run P tabWo.sum Tryd.f51 nsWo (cWo ck nx ps is cs ws m r) inWo =
  Tree.at (Cfg.mk (sl (93 : Nat) [((0 : Nat), AV.vec (0 : Nat)), ((1 : Nat), AV.fn (73 : Nat) [AV.ptr (1 : Nat) (0 : Nat)]), ((7 : Nat), AV.s (SV.int IntKind.i64 (↑(List.length r) : Int))), ((8 : Nat), AV.s (SV.int IntKind.i64 (0 : Int))), ((19 : Nat), AV.vec (0 : Nat)), ((20 : Nat), AV.fn (73 : Nat) [AV.ptr (1 : Nat) (0 : Nat)]), ((63 : Nat), AV.ptr (2 : Nat) (0 : Nat)), ((65 : Nat), AV.ptr (3 : Nat) (0 : Nat)), ((66 : Nat), AV.ptr (1 : Nat) (0 : Nat))]) [AObj.vec (Con.typ cI r) (31 : Nat), AObj.own [AV.mapv (4 : Nat)] (72 : Nat), AObj.own [AV.s (SV.int IntKind.i64 ck), AV.s (SV.int IntKind.i64 nx), AV.s (SV.ro (Con.typ [CK.str, CK.rows [CK.str, CK.int IntKind.u8, CK.int IntKind.i64, CK.str], CK.rows [CK.str, CK.int IntKind.u8, CK.int IntKind.i64, CK.int IntKind.i64, CK.int IntKind.u8, CK.str, CK.str, CK.str, CK.bool, CK.rows [CK.str, CK.int IntKind.u8, CK.int IntKind.i64, CK.str], CK.strs], CK.rows [CK.int IntKind.i64, CK.int IntKind.i64, CK.str, CK.bool]] ps)), AV.s (SV.ro (Con.typ cI is)), AV.s (SV.ro (Con.typ cC cs)), AV.s (SV.ro (Con.typ cW ws))] (27 : Nat), AObj.own [AV.s (SV.int IntKind.i64 (0 : Int)), AV.s (SV.int IntKind.i64 (0 : Int)), AV.emp, AV.emp, AV.emp, AV.emp] (27 : Nat), AObj.map (CK.int IntKind.i64) m] (hd Tryd.f60 (2 : Nat)) (Stk.mk (some (60 : Nat)) false (0 : Nat) [inCall Tryd.f72 (some (72 : Nat)) (1 : Nat) (2 : Nat) false (0 : Nat), inCall Tryd.f51 none (8 : Nat) (4 : Nat) false (0 : Nat)] (0 : Nat))) := by kernel_rfl
noncomputable def cWo1 (ck nx : Int) (ps : Ps) (is : Is) (cs : Cs) (ws : Ws) (m : Mp) (r : Is) (i : Int) : Cfg := ⟨sl 93 [(0, .vec 0), (1, .fn fWo [.ptr 1 0]), (7, avI (r.length : Int)), (8, avI i), (19, .vec 0), (20, .fn fWo [.ptr 1 0]), (63, .ptr 2 0), (65, .ptr 3 0), (66, .ptr 1 0)], [.vec (.typ cI r) eI, .own [.mapv 4] 72, obSt ck nx ps is cs ws, obZ, .map kM m], hd Tryd.f60 2, ⟨some fIi, false, 0, [inCall Tryd.f72 (some fDi) 1 2 false 0, inCall Tryd.f51 none 8 4 false 0], 0⟩⟩
theorem loopWo1 (ck nx : Int) (ps : Ps) (is : Is) (cs : Cs) (ws : Ws) (m : Mp) (r : Is) (i : Int) : run P tabWo.sum Tryd.f51 nsWo (cWo1 ck nx ps is cs ws m r i) inWo =
  Tree.ite (decide (i < (↑(List.length r) : Int)))
  (Tree.need ((0 : Int) ≤ i)
    (Tree.need (i < (↑(List.length r) : Int))
      (Tree.ite (decide ((mget m (iI (el r i))).getD (CK.int IntKind.i64).d > (0 : Int))) (Tree.ite (i == (-1 : Int)) (Tree.at (Cfg.mk (sl (32 : Nat) [((2 : Nat), AV.ptr (0 : Nat) (0 : Nat)), ((4 : Nat), AV.ptr (1 : Nat) (0 : Nat)), ((5 : Nat), AV.ptr (2 : Nat) (0 : Nat)), ((27 : Nat), AV.vec (3 : Nat))]) [AObj.own [AV.s (SV.int IntKind.i64 ck), AV.s (SV.int IntKind.i64 nx), AV.s (SV.ro (Con.typ [CK.str, CK.rows [CK.str, CK.int IntKind.u8, CK.int IntKind.i64, CK.str], CK.rows [CK.str, CK.int IntKind.u8, CK.int IntKind.i64, CK.int IntKind.i64, CK.int IntKind.u8, CK.str, CK.str, CK.str, CK.bool, CK.rows [CK.str, CK.int IntKind.u8, CK.int IntKind.i64, CK.str], CK.strs], CK.rows [CK.int IntKind.i64, CK.int IntKind.i64, CK.str, CK.bool]] ps)), AV.s (SV.ro (Con.typ cI is)), AV.s (SV.ro (Con.typ cC cs)), AV.s (SV.ro (Con.typ cW ws))] (27 : Nat), AObj.own [AV.s (SV.int IntKind.i64 (0 : Int)), AV.s (SV.int IntKind.i64 (0 : Int)), AV.emp, AV.emp, AV.emp, AV.emp] (27 : Nat), AObj.own [AV.mapv (4 : Nat)] (72 : Nat), AObj.vec (Con.typ cI r) (31 : Nat), AObj.map (CK.int IntKind.i64) m] (cal Tryd.f51 (8 : Nat) (5 : Nat)) (Stk.mk none false (0 : Nat) [] (8 : Nat)))) (Tree.need (inI64 (i + (1 : Int))) (Tree.at (Cfg.mk (sl (74 : Nat) [((0 : Nat), AV.vec (0 : Nat)), ((1 : Nat), AV.fn (73 : Nat) [AV.ptr (1 : Nat) (0 : Nat)]), ((5 : Nat), AV.s (SV.int IntKind.i64 i)), ((6 : Nat), AV.s (SV.int IntKind.i64 (i + (1 : Int)))), ((44 : Nat), AV.ptr (2 : Nat) (0 : Nat)), ((46 : Nat), AV.ptr (3 : Nat) (0 : Nat)), ((47 : Nat), AV.ptr (1 : Nat) (0 : Nat))]) [AObj.vec (Con.typ cI r) (31 : Nat), AObj.own [AV.mapv (4 : Nat)] (72 : Nat), AObj.own [AV.s (SV.int IntKind.i64 ck), AV.s (SV.int IntKind.i64 nx), AV.s (SV.ro (Con.typ [CK.str, CK.rows [CK.str, CK.int IntKind.u8, CK.int IntKind.i64, CK.str], CK.rows [CK.str, CK.int IntKind.u8, CK.int IntKind.i64, CK.int IntKind.i64, CK.int IntKind.u8, CK.str, CK.str, CK.str, CK.bool, CK.rows [CK.str, CK.int IntKind.u8, CK.int IntKind.i64, CK.str], CK.strs], CK.rows [CK.int IntKind.i64, CK.int IntKind.i64, CK.str, CK.bool]] ps)), AV.s (SV.ro (Con.typ cI is)), AV.s (SV.ro (Con.typ cC cs)), AV.s (SV.ro (Con.typ cW ws))] (27 : Nat), AObj.own [AV.s (SV.int IntKind.i64 (0 : Int)), AV.s (SV.int IntKind.i64 (0 : Int)), AV.emp, AV.emp, AV.emp, AV.emp] (27 : Nat), AObj.map (CK.int IntKind.i64) m] (hd Tryd.f72 (5 : Nat)) (Stk.mk (some (72 : Nat)) false (0 : Nat) [inCall Tryd.f51 none (8 : Nat) (4 : Nat) false (0 : Nat)] (0 : Nat)))))) (Tree.need (inI64 (i + (1 : Int))) (Tree.at (Cfg.mk (sl (93 : Nat) [((0 : Nat), AV.vec (0 : Nat)), ((1 : Nat), AV.fn (73 : Nat) [AV.ptr (1 : Nat) (0 : Nat)]), ((7 : Nat), AV.s (SV.int IntKind.i64 (↑(List.length r) : Int))), ((8 : Nat), AV.s (SV.int IntKind.i64 (i + (1 : Int)))), ((19 : Nat), AV.vec (0 : Nat)), ((20 : Nat), AV.fn (73 : Nat) [AV.ptr (1 : Nat) (0 : Nat)]), ((63 : Nat), AV.ptr (2 : Nat) (0 : Nat)), ((65 : Nat), AV.ptr (3 : Nat) (0 : Nat)), ((66 : Nat), AV.ptr (1 : Nat) (0 : Nat))]) [AObj.vec (Con.typ cI r) (31 : Nat), AObj.own [AV.mapv (4 : Nat)] (72 : Nat), AObj.own [AV.s (SV.int IntKind.i64 ck), AV.s (SV.int IntKind.i64 nx), AV.s (SV.ro (Con.typ [CK.str, CK.rows [CK.str, CK.int IntKind.u8, CK.int IntKind.i64, CK.str], CK.rows [CK.str, CK.int IntKind.u8, CK.int IntKind.i64, CK.int IntKind.i64, CK.int IntKind.u8, CK.str, CK.str, CK.str, CK.bool, CK.rows [CK.str, CK.int IntKind.u8, CK.int IntKind.i64, CK.str], CK.strs], CK.rows [CK.int IntKind.i64, CK.int IntKind.i64, CK.str, CK.bool]] ps)), AV.s (SV.ro (Con.typ cI is)), AV.s (SV.ro (Con.typ cC cs)), AV.s (SV.ro (Con.typ cW ws))] (27 : Nat), AObj.own [AV.s (SV.int IntKind.i64 (0 : Int)), AV.s (SV.int IntKind.i64 (0 : Int)), AV.emp, AV.emp, AV.emp, AV.emp] (27 : Nat), AObj.map (CK.int IntKind.i64) m] (hd Tryd.f60 (2 : Nat)) (Stk.mk (some (60 : Nat)) false (0 : Nat) [inCall Tryd.f72 (some (72 : Nat)) (1 : Nat) (2 : Nat) false (0 : Nat), inCall Tryd.f51 none (8 : Nat) (4 : Nat) false (0 : Nat)] (0 : Nat))))))))
  (Tree.at (Cfg.mk (sl (32 : Nat) [((2 : Nat), AV.ptr (0 : Nat) (0 : Nat)), ((4 : Nat), AV.ptr (1 : Nat) (0 : Nat)), ((5 : Nat), AV.ptr (2 : Nat) (0 : Nat)), ((27 : Nat), AV.vec (3 : Nat))]) [AObj.own [AV.s (SV.int IntKind.i64 ck), AV.s (SV.int IntKind.i64 nx), AV.s (SV.ro (Con.typ [CK.str, CK.rows [CK.str, CK.int IntKind.u8, CK.int IntKind.i64, CK.str], CK.rows [CK.str, CK.int IntKind.u8, CK.int IntKind.i64, CK.int IntKind.i64, CK.int IntKind.u8, CK.str, CK.str, CK.str, CK.bool, CK.rows [CK.str, CK.int IntKind.u8, CK.int IntKind.i64, CK.str], CK.strs], CK.rows [CK.int IntKind.i64, CK.int IntKind.i64, CK.str, CK.bool]] ps)), AV.s (SV.ro (Con.typ cI is)), AV.s (SV.ro (Con.typ cC cs)), AV.s (SV.ro (Con.typ cW ws))] (27 : Nat), AObj.own [AV.s (SV.int IntKind.i64 (0 : Int)), AV.s (SV.int IntKind.i64 (0 : Int)), AV.emp, AV.emp, AV.emp, AV.emp] (27 : Nat), AObj.own [AV.mapv (4 : Nat)] (72 : Nat), AObj.vec (Con.typ cI r) (31 : Nat), AObj.map (CK.int IntKind.i64) m] (cal Tryd.f51 (8 : Nat) (5 : Nat)) (Stk.mk none false (0 : Nat) [] (8 : Nat)))) := by kernel_rfl
noncomputable def cWo2 (ck nx : Int) (ps : Ps) (is : Is) (cs : Cs) (ws : Ws) (m : Mp) (r : Is) (i j : Int) : Cfg := ⟨sl 74 [(0, .vec 0), (1, .fn fWo [.ptr 1 0]), (5, avI i), (6, avI j), (44, .ptr 2 0), (46, .ptr 3 0), (47, .ptr 1 0)], [.vec (.typ cI r) eI, .own [.mapv 4] 72, obSt ck nx ps is cs ws, obZ, .map kM m], hd Tryd.f72 5, ⟨some fDi, false, 0, [inCall Tryd.f51 none 8 4 false 0], 0⟩⟩
theorem loopWo2 (ck nx : Int) (ps : Ps) (is : Is) (cs : Cs) (ws : Ws) (m : Mp) (r : Is) (i j : Int) : run P tabWo.sum Tryd.f51 nsWo (cWo2 ck nx ps is cs ws m r i j) inWo =
  Tree.ite (decide (j < (↑(List.length r) : Int))) (Tree.need ((0 : Int) ≤ j) (Tree.need (j < (↑(List.length r) : Int)) (Tree.ite (!decide ((mget m (iI (el r j))).getD (CK.int IntKind.i64).d > (0 : Int))) (Tree.need ((0 : Int) ≤ i) (Tree.need (i < (↑(List.length r) : Int)) (Tree.need (inI64 (i + (1 : Int))) (Tree.need (inI64 (j + (1 : Int))) (Tree.at (Cfg.mk (sl (74 : Nat) [((0 : Nat), AV.vec (0 : Nat)), ((1 : Nat), AV.fn (73 : Nat) [AV.ptr (1 : Nat) (0 : Nat)]), ((5 : Nat), AV.s (SV.int IntKind.i64 (i + (1 : Int)))), ((6 : Nat), AV.s (SV.int IntKind.i64 (j + (1 : Int)))), ((44 : Nat), AV.ptr (2 : Nat) (0 : Nat)), ((46 : Nat), AV.ptr (3 : Nat) (0 : Nat)), ((47 : Nat), AV.ptr (1 : Nat) (0 : Nat))]) [AObj.vec (Con.typ cI (List.set r i.toNat (iI (el r j), iU (el r j), iS (el r j), iP (el r j), iN (el r j), iF (el r j), iW (el r j), iC (el r j), ()))) (31 : Nat), AObj.own [AV.mapv (4 : Nat)] (72 : Nat), AObj.own [AV.s (SV.int IntKind.i64 ck), AV.s (SV.int IntKind.i64 nx), AV.s (SV.ro (Con.typ [CK.str, CK.rows [CK.str, CK.int IntKind.u8, CK.int IntKind.i64, CK.str], CK.rows [CK.str, CK.int IntKind.u8, CK.int IntKind.i64, CK.int IntKind.i64, CK.int IntKind.u8, CK.str, CK.str, CK.str, CK.bool, CK.rows [CK.str, CK.int IntKind.u8, CK.int IntKind.i64, CK.str], CK.strs], CK.rows [CK.int IntKind.i64, CK.int IntKind.i64, CK.str, CK.bool]] ps)), AV.s (SV.ro (Con.typ cI is)), AV.s (SV.ro (Con.typ cC cs)), AV.s (SV.ro (Con.typ cW ws))] (27 : Nat), AObj.own [AV.s (SV.int IntKind.i64 (0 : Int)), AV.s (SV.int IntKind.i64 (0 : Int)), AV.emp, AV.emp, AV.emp, AV.emp] (27 : Nat), AObj.map (CK.int IntKind.i64) m] (hd Tryd.f72 (5 : Nat)) (Stk.mk (some (72 : Nat)) false (0 : Nat) [inCall Tryd.f51 none (8 : Nat) (4 : Nat) false (0 : Nat)] (0 : Nat)))))))) (Tree.need (inI64 (j + (1 : Int))) (Tree.at (Cfg.mk (sl (74 : Nat) [((0 : Nat), AV.vec (0 : Nat)), ((1 : Nat), AV.fn (73 : Nat) [AV.ptr (1 : Nat) (0 : Nat)]), ((5 : Nat), AV.s (SV.int IntKind.i64 i)), ((6 : Nat), AV.s (SV.int IntKind.i64 (j + (1 : Int)))), ((44 : Nat), AV.ptr (2 : Nat) (0 : Nat)), ((46 : Nat), AV.ptr (3 : Nat) (0 : Nat)), ((47 : Nat), AV.ptr (1 : Nat) (0 : Nat))]) [AObj.vec (Con.typ cI r) (31 : Nat), AObj.own [AV.mapv (4 : Nat)] (72 : Nat), AObj.own [AV.s (SV.int IntKind.i64 ck), AV.s (SV.int IntKind.i64 nx), AV.s (SV.ro (Con.typ [CK.str, CK.rows [CK.str, CK.int IntKind.u8, CK.int IntKind.i64, CK.str], CK.rows [CK.str, CK.int IntKind.u8, CK.int IntKind.i64, CK.int IntKind.i64, CK.int IntKind.u8, CK.str, CK.str, CK.str, CK.bool, CK.rows [CK.str, CK.int IntKind.u8, CK.int IntKind.i64, CK.str], CK.strs], CK.rows [CK.int IntKind.i64, CK.int IntKind.i64, CK.str, CK.bool]] ps)), AV.s (SV.ro (Con.typ cI is)), AV.s (SV.ro (Con.typ cC cs)), AV.s (SV.ro (Con.typ cW ws))] (27 : Nat), AObj.own [AV.s (SV.int IntKind.i64 (0 : Int)), AV.s (SV.int IntKind.i64 (0 : Int)), AV.emp, AV.emp, AV.emp, AV.emp] (27 : Nat), AObj.map (CK.int IntKind.i64) m] (hd Tryd.f72 (5 : Nat)) (Stk.mk (some (72 : Nat)) false (0 : Nat) [inCall Tryd.f51 none (8 : Nat) (4 : Nat) false (0 : Nat)] (0 : Nat))))))))
  (Tree.need ((0 : Int) ≤ i) (Tree.need (i ≤ (↑(List.length r) : Int)) (Tree.need ((↑(0 : Nat) : Int) + (↑(List.length r) : Int) ≤ (↑(List.length r) : Int)) (Tree.need ((0 : Int) ≤ (0 : Int)) (Tree.need ((0 : Int) ≤ i) (Tree.need ((↑(0 : Nat) : Int) + i ≤ (↑(over r ((0 : Nat) + i.toNat) ((↑(List.length r) : Int).toNat - i.toNat) (List.replicate ((↑(List.length r) : Int).toNat - i.toNat) (CL.d cI))).length : Int)) (Tree.at (Cfg.mk (sl (32 : Nat) [((2 : Nat), AV.ptr (0 : Nat) (0 : Nat)), ((4 : Nat), AV.ptr (1 : Nat) (0 : Nat)), ((5 : Nat), AV.ptr (2 : Nat) (0 : Nat)), ((27 : Nat), AV.part (3 : Nat) (0 : Nat) (i.toNat - Int.toNat (0 : Int)))]) [AObj.own [AV.s (SV.int IntKind.i64 ck), AV.s (SV.int IntKind.i64 nx), AV.s (SV.ro (Con.typ [CK.str, CK.rows [CK.str, CK.int IntKind.u8, CK.int IntKind.i64, CK.str], CK.rows [CK.str, CK.int IntKind.u8, CK.int IntKind.i64, CK.int IntKind.i64, CK.int IntKind.u8, CK.str, CK.str, CK.str, CK.bool, CK.rows [CK.str, CK.int IntKind.u8, CK.int IntKind.i64, CK.str], CK.strs], CK.rows [CK.int IntKind.i64, CK.int IntKind.i64, CK.str, CK.bool]] ps)), AV.s (SV.ro (Con.typ cI is)), AV.s (SV.ro (Con.typ cC cs)), AV.s (SV.ro (Con.typ cW ws))] (27 : Nat), AObj.own [AV.s (SV.int IntKind.i64 (0 : Int)), AV.s (SV.int IntKind.i64 (0 : Int)), AV.emp, AV.emp, AV.emp, AV.emp] (27 : Nat), AObj.own [AV.mapv (4 : Nat)] (72 : Nat), AObj.vec (Con.typ cI (over r ((0 : Nat) + i.toNat) ((↑(List.length r) : Int).toNat - i.toNat) (List.replicate ((↑(List.length r) : Int).toNat - i.toNat) (CL.d cI)))) (31 : Nat), AObj.map (CK.int IntKind.i64) m] (cal Tryd.f51 (8 : Nat) (5 : Nat)) (Stk.mk none false (0 : Nat) [] (8 : Nat)))))))))) := by kernel_rfl
noncomputable def cWoV (ck nx : Int) (ps : Ps) (is : Is) (cs : Cs) (ws : Ws) (m : Mp) (r : Is) : Cfg := ⟨sl 32 [(2, .ptr 0 0), (4, .ptr 1 0), (5, .ptr 2 0), (27, .vec 3)], [obSt ck nx ps is cs ws, obZ, .own [.mapv 4] 72, .vec (.typ cI r) eI, .map kM m], cal Tryd.f51 8 5, kk 8⟩
noncomputable def cWoE (ck nx : Int) (ps : Ps) (is : Is) (cs : Cs) (ws : Ws) (m : Mp) (r : Is) : Cfg := ⟨sl 32 [(2, .ptr 0 0), (4, .ptr 1 0), (5, .ptr 2 0), (27, .s (.ro (.typ cI r)))], [obSt ck nx ps is cs ws, obZ, .own [.mapv 4] 72, .dead, .map kM m, .dead], cal Tryd.f51 8 5, kk 8⟩
theorem endWo (ck nx : Int) (ps : Ps) (is : Is) (cs : Cs) (ws : Ws) (m : Mp) (r : Is) : run P tabWo.sum Tryd.f51 nsWo (cWoE ck nx ps is cs ws m r) inWo =
  Tree.need (Slf (some [AV.agg [AV.s (SV.int IntKind.i64 ck), AV.s (SV.int IntKind.i64 nx), AV.s (SV.ro (Con.typ [CK.str, CK.rows [CK.str, CK.int IntKind.u8, CK.int IntKind.i64, CK.str], CK.rows [CK.str, CK.int IntKind.u8, CK.int IntKind.i64, CK.int IntKind.i64, CK.int IntKind.u8, CK.str, CK.str, CK.str, CK.bool, CK.rows [CK.str, CK.int IntKind.u8, CK.int IntKind.i64, CK.str], CK.strs], CK.rows [CK.int IntKind.i64, CK.int IntKind.i64, CK.str, CK.bool]] ps)), AV.s (SV.ro (Con.typ cI r)), AV.s (SV.ro (Con.typ cC cs)), AV.s (SV.ro (Con.typ cW ws))], AV.mapv (0 : Nat)])) (Tree.need (Slf (some [AObj.map (CK.int IntKind.i64) m])) (Tree.need (List.length ws ≤ (1000000 : Nat)) (Tree.ret [AObj.own [AV.s (SV.int IntKind.i64 ck), AV.s (SV.int IntKind.i64 nx), AV.s (SV.ro (Con.typ [CK.str, CK.rows [CK.str, CK.int IntKind.u8, CK.int IntKind.i64, CK.str], CK.rows [CK.str, CK.int IntKind.u8, CK.int IntKind.i64, CK.int IntKind.i64, CK.int IntKind.u8, CK.str, CK.str, CK.str, CK.bool, CK.rows [CK.str, CK.int IntKind.u8, CK.int IntKind.i64, CK.str], CK.strs], CK.rows [CK.int IntKind.i64, CK.int IntKind.i64, CK.str, CK.bool]] ps)), AV.s (SV.ro (Con.typ cI r)), AV.s (SV.ro (Con.typ cC cs)), AV.s (SV.ro (Con.typ cW ws))] (27 : Nat), AObj.own [AV.s (SV.int IntKind.i64 ck), AV.s (SV.int IntKind.i64 nx), AV.s (SV.ro (Con.typ [CK.str, CK.rows [CK.str, CK.int IntKind.u8, CK.int IntKind.i64, CK.str], CK.rows [CK.str, CK.int IntKind.u8, CK.int IntKind.i64, CK.int IntKind.i64, CK.int IntKind.u8, CK.str, CK.str, CK.str, CK.bool, CK.rows [CK.str, CK.int IntKind.u8, CK.int IntKind.i64, CK.str], CK.strs], CK.rows [CK.int IntKind.i64, CK.int IntKind.i64, CK.str, CK.bool]] ps)), AV.s (SV.ro (Con.typ cI r)), AV.s (SV.ro (Con.typ cC cs)), AV.vec (6 : Nat)] (27 : Nat), AObj.own [AV.mapv (4 : Nat)] (72 : Nat), AObj.dead, AObj.map (CK.int IntKind.i64) m, AObj.dead, AObj.vec (Con.typ cW (delF (pUw m) ws)) (85 : Nat)] (AV.agg [AV.s (SV.int IntKind.i64 ck), AV.s (SV.int IntKind.i64 nx), AV.s (SV.ro (Con.typ [CK.str, CK.rows [CK.str, CK.int IntKind.u8, CK.int IntKind.i64, CK.str], CK.rows [CK.str, CK.int IntKind.u8, CK.int IntKind.i64, CK.int IntKind.i64, CK.int IntKind.u8, CK.str, CK.str, CK.str, CK.bool, CK.rows [CK.str, CK.int IntKind.u8, CK.int IntKind.i64, CK.str], CK.strs], CK.rows [CK.int IntKind.i64, CK.int IntKind.i64, CK.str, CK.bool]] ps)), AV.s (SV.ro (Con.typ cI r)), AV.s (SV.ro (Con.typ cC cs)), AV.vec (6 : Nat)])))) := by kernel_rfl
/-! Clear's deletion of a number -/
abbrev fIn : FuncId := 74
abbrev fCl : FuncId := 53
abbrev inDi : List FuncId := [fIn, fCl]
def nsDi : List (Nat × Norm) := [((fIn + 1) * 100000 + 2, ⟨[], [0, 1, 7, 8, 19, 20], 2, []⟩), (5, ⟨[], [0, 1, 5, 6], 2, []⟩), (midKey + 12003, ⟨[], [41], 2, []⟩), (midKey + 3001, ⟨[], [13], 2, []⟩)]
theorem trDi (l : List Int) (id : Int) : run P tab0.sum Tryd.f52 nsDi (start Tryd.f52 [.vec 0, .fn fCl [.ptr 1 0]] [.vec (.ints .i64 l) 3, .own [avI id] 3]) inDi =
  Tree.at (Cfg.mk (sl (61 : Nat) [((0 : Nat), AV.vec (0 : Nat)), ((1 : Nat), AV.fn (53 : Nat) [AV.ptr (1 : Nat) (0 : Nat)]), ((7 : Nat), AV.s (SV.int IntKind.i64 (↑l.length : Int))), ((8 : Nat), AV.s (SV.int IntKind.i64 (0 : Int))), ((19 : Nat), AV.vec (0 : Nat)), ((20 : Nat), AV.fn (53 : Nat) [AV.ptr (1 : Nat) (0 : Nat)])]) [AObj.vec (Con.ints IntKind.i64 l) (3 : Nat), AObj.own [AV.s (SV.int IntKind.i64 id)] (3 : Nat)] (hd Tryd.f74 (2 : Nat)) (Stk.mk (some (74 : Nat)) false (0 : Nat) [inCall Tryd.f52 none (1 : Nat) (2 : Nat) false (0 : Nat)] (0 : Nat))) := by kernel_rfl
noncomputable def cDi1 (id : Int) (r : List Int) (i : Int) : Cfg := ⟨sl 61 [(0, .vec 0), (1, .fn fCl [.ptr 1 0]), (7, avI (r.length : Int)), (8, avI i), (19, .vec 0), (20, .fn fCl [.ptr 1 0])], [.vec (.ints .i64 r) 3, .own [avI id] 3], hd Tryd.f74 2, ⟨some fIn, false, 0, [inCall Tryd.f52 none 1 2 false 0], 0⟩⟩
theorem loopDi1 (id : Int) (r : List Int) (i : Int) : run P tab0.sum Tryd.f52 nsDi (cDi1 id r i) inDi =
  Tree.ite (decide (i < (↑r.length : Int))) (Tree.need ((0 : Int) ≤ i) (Tree.need (i < (↑r.length : Int)) (Tree.ite (r.getD i.toNat (0 : Int) == id) (Tree.ite (i == (-1 : Int)) (Tree.at (Cfg.mk (sl (42 : Nat) [((13 : Nat), AV.vec (0 : Nat))]) [AObj.vec (Con.ints IntKind.i64 r) (3 : Nat), AObj.own [AV.s (SV.int IntKind.i64 id)] (3 : Nat)] (cal Tryd.f52 (3 : Nat) (1 : Nat)) (Stk.mk none false (0 : Nat) [] (3 : Nat)))) (Tree.need (inI64 (i + (1 : Int))) (Tree.at (Cfg.mk (sl (42 : Nat) [((0 : Nat), AV.vec (0 : Nat)), ((1 : Nat), AV.fn (53 : Nat) [AV.ptr (1 : Nat) (0 : Nat)]), ((5 : Nat), AV.s (SV.int IntKind.i64 i)), ((6 : Nat), AV.s (SV.int IntKind.i64 (i + (1 : Int))))]) [AObj.vec (Con.ints IntKind.i64 r) (3 : Nat), AObj.own [AV.s (SV.int IntKind.i64 id)] (3 : Nat)] (hd Tryd.f52 (5 : Nat)) (Stk.mk none false (0 : Nat) [] (0 : Nat)))))) (Tree.need (inI64 (i + (1 : Int))) (Tree.at (Cfg.mk (sl (61 : Nat) [((0 : Nat), AV.vec (0 : Nat)), ((1 : Nat), AV.fn (53 : Nat) [AV.ptr (1 : Nat) (0 : Nat)]), ((7 : Nat), AV.s (SV.int IntKind.i64 (↑r.length : Int))), ((8 : Nat), AV.s (SV.int IntKind.i64 (i + (1 : Int)))), ((19 : Nat), AV.vec (0 : Nat)), ((20 : Nat), AV.fn (53 : Nat) [AV.ptr (1 : Nat) (0 : Nat)])]) [AObj.vec (Con.ints IntKind.i64 r) (3 : Nat), AObj.own [AV.s (SV.int IntKind.i64 id)] (3 : Nat)] (hd Tryd.f74 (2 : Nat)) (Stk.mk (some (74 : Nat)) false (0 : Nat) [inCall Tryd.f52 none (1 : Nat) (2 : Nat) false (0 : Nat)] (0 : Nat)))))))) (Tree.at (Cfg.mk (sl (42 : Nat) [((13 : Nat), AV.vec (0 : Nat))]) [AObj.vec (Con.ints IntKind.i64 r) (3 : Nat), AObj.own [AV.s (SV.int IntKind.i64 id)] (3 : Nat)] (cal Tryd.f52 (3 : Nat) (1 : Nat)) (Stk.mk none false (0 : Nat) [] (3 : Nat)))) := by kernel_rfl
noncomputable def cDi2 (id : Int) (r : List Int) (i j : Int) : Cfg := ⟨sl 42 [(0, .vec 0), (1, .fn fCl [.ptr 1 0]), (5, avI i), (6, avI j)], [.vec (.ints .i64 r) 3, .own [avI id] 3], hd Tryd.f52 5, {}⟩
theorem loopDi2 (id : Int) (r : List Int) (i j : Int) : run P tab0.sum Tryd.f52 nsDi (cDi2 id r i j) inDi =
  Tree.ite (decide (j < (↑r.length : Int))) (Tree.need ((0 : Int) ≤ j) (Tree.need (j < (↑r.length : Int)) (Tree.ite (!r.getD j.toNat (0 : Int) == id) (Tree.need ((0 : Int) ≤ i) (Tree.need (i < (↑r.length : Int)) (Tree.need (inI64 (i + (1 : Int))) (Tree.need (inI64 (j + (1 : Int))) (Tree.at (Cfg.mk (sl (42 : Nat) [((0 : Nat), AV.vec (0 : Nat)), ((1 : Nat), AV.fn (53 : Nat) [AV.ptr (1 : Nat) (0 : Nat)]), ((5 : Nat), AV.s (SV.int IntKind.i64 (i + (1 : Int)))), ((6 : Nat), AV.s (SV.int IntKind.i64 (j + (1 : Int))))]) [AObj.vec (Con.ints IntKind.i64 (r.set i.toNat (r.getD j.toNat (0 : Int)))) (3 : Nat), AObj.own [AV.s (SV.int IntKind.i64 id)] (3 : Nat)] (hd Tryd.f52 (5 : Nat)) (Stk.mk none false (0 : Nat) [] (0 : Nat)))))))) (Tree.need (inI64 (j + (1 : Int))) (Tree.at (Cfg.mk (sl (42 : Nat) [((0 : Nat), AV.vec (0 : Nat)), ((1 : Nat), AV.fn (53 : Nat) [AV.ptr (1 : Nat) (0 : Nat)]), ((5 : Nat), AV.s (SV.int IntKind.i64 i)), ((6 : Nat), AV.s (SV.int IntKind.i64 (j + (1 : Int))))]) [AObj.vec (Con.ints IntKind.i64 r) (3 : Nat), AObj.own [AV.s (SV.int IntKind.i64 id)] (3 : Nat)] (hd Tryd.f52 (5 : Nat)) (Stk.mk none false (0 : Nat) [] (0 : Nat)))))))) (Tree.need ((0 : Int) ≤ i) (Tree.need (i ≤ (↑r.length : Int)) (Tree.need ((↑(0 : Nat) : Int) + (↑r.length : Int) ≤ (↑r.length : Int)) (Tree.need ((0 : Int) ≤ (0 : Int)) (Tree.need ((0 : Int) ≤ i) (Tree.need ((↑(0 : Nat) : Int) + i ≤ (↑(over r ((0 : Nat) + i.toNat) ((↑r.length : Int).toNat - i.toNat) (List.replicate ((↑r.length : Int).toNat - i.toNat) (0 : Int))).length : Int)) (Tree.at (Cfg.mk (sl (42 : Nat) [((41 : Nat), AV.part (0 : Nat) (0 : Nat) (i.toNat - Int.toNat (0 : Int)))]) [AObj.vec (Con.ints IntKind.i64 (over r ((0 : Nat) + i.toNat) ((↑r.length : Int).toNat - i.toNat) (List.replicate ((↑r.length : Int).toNat - i.toNat) (0 : Int)))) (3 : Nat), AObj.own [AV.s (SV.int IntKind.i64 id)] (3 : Nat)] (cal Tryd.f52 (12 : Nat) (3 : Nat)) (Stk.mk none false (0 : Nat) [] (12 : Nat)))))))))) := by kernel_rfl
noncomputable def cDiE (id : Int) (r : List Int) : Cfg := ⟨sl 42 [(41, .vec 2)], [.dead, .own [avI id] 3, .vec (.ints .i64 r) 3], cal Tryd.f52 12 3, kk 12⟩
theorem endDi (id : Int) (r : List Int) : run P tab0.sum Tryd.f52 nsDi (cDiE id r) inDi =
  Tree.ret [AObj.dead, AObj.own [AV.s (SV.int IntKind.i64 id)] (3 : Nat), AObj.vec (Con.ints IntKind.i64 r) (3 : Nat)] (AV.vec (2 : Nat)) := by kernel_rfl
noncomputable def cDiF (id : Int) (r : List Int) : Cfg := ⟨sl 42 [(13, .vec 2)], [.dead, .own [avI id] 3, .vec (.ints .i64 r) 3], cal Tryd.f52 3 1, kk 3⟩
theorem endDiF (id : Int) (r : List Int) : run P tab0.sum Tryd.f52 nsDi (cDiF id r) inDi =
  Tree.ret [AObj.dead, AObj.own [AV.s (SV.int IntKind.i64 id)] (3 : Nat), AObj.vec (Con.ints IntKind.i64 r) (3 : Nat)] (AV.vec (2 : Nat)) := by kernel_rfl
abbrev sDi : Spec (List Int × Int) := ⟨fun _ => [.vec 0, .fn fCl [.ptr 1 0]], fun (l, id) => [.vec (.ints .i64 l) 3, .own [avI id] 3], fun (l, _) => [l.length ≤ 10000000], fun (l, id) => [.dead, .own [avI id] 3, .vec (.ints .i64 (delF (fun x => x == id) l)) 3], fun _ => .vec 2⟩
def mDi : List AV → RM ((List Int × Int) × List Nat)
  | [.vec id, .fn _ [.ptr k 0]] => .look id fun o => match o with
    | some (.vec (.ints .i64 zs) _) => .look k fun o => match o with
      | some (.own [a] _) => match avInt .i64 a with
        | some n => .ret ((zs, n), [id, k])
        | _ => .fail "no number"
      | _ => .fail "no number"
    | _ => .fail "no row"
  | _ => .fail "no row"
abbrev sumDi := sumS sDi mDi
/-! Take, Clear, Break, Gone -/
abbrev preS : AL [tSt] → List Prop := fun ((_, _, _, is, cs, ws, ()), ()) => [(is : Is).length ≤ 1000000, (cs : Cs).length ≤ 1000000, (ws : Ws).length ≤ 1000000]
def pIt (l : List Int) (x : CL cI) : Bool := l.contains (iI x)
def pWa (l : List Int) (x : CL cW) : Bool := l.contains (wT x)
abbrev wo (ck nx : Int) (ps : Ps) (is : Is) (cs : Cs) (ws : Ws) (l q : List Int) : AL [tSt] := ((ck, nx, ps, delF (pIt l) is, delF (pDr l) cs, delF (pWa q) ws, ()), ())
abbrev sumWo := sumR [tSt, tNs] [tSr] (fun (s, l, ()) => ((l : List Int).length ≤ 2000000) :: preS (s, ())) (fun ((ck, nx, ps, is, cs, ws, ()), l, ()) => wo ck nx ps is cs ws l l)
def gI (is : Is) (id : Int) : Int := iI (getI is id)
def gU (is : Is) (id : Int) : Int := iU (getI is id)
def gS (is : Is) (id : Int) : Int := iS (getI is id)
def gP (is : Is) (id : Int) : ByteArray := iP (getI is id)
def gN (is : Is) (id : Int) : Int := iN (getI is id)
def gF (is : Is) (id : Int) : Int := iF (getI is id)
def gW (is : Is) (id : Int) : Int := iW (getI is id)
def gC (is : Is) (id : Int) : ByteArray := iC (getI is id)
abbrev getT (is : Is) (id : Int) : CL cI := (gI is id, gU is id, gS is id, gP is id, gN is id, gF is id, gW is id, gC is id, ())
abbrev sumFi := sumOf [tSt, tInt] [tIt, tBool] (fun _ => []) (fun ((_, _, _, is, _, _, ()), id, ()) => (getT is id, hasI is id, ()))
abbrev sumBe := sumOf [tSt, tInt] [tNs] (fun ((_, _, _, is, _, _, ()), _, ()) => [(is : Is).length ≤ 1000000]) (fun ((_, _, _, is, _, _, ()), id, ()) => (belowF (esOf is) id, ()))
def tabTa : Tab := [(19, sumFi), (16, sumBe), (51, sumWo)]
theorem trTa (ck nx : Int) (ps : Ps) (is : Is) (cs : Cs) (ws : Ws) (id : Int) : run P tabTa.sum Tryd.f22 [] (start Tryd.f22 [avSt ck nx ps is cs ws, avI id] []) =
  Tree.ite (!hasI is id) (Tree.ret [AObj.own [AV.s (SV.int IntKind.i64 ck), AV.s (SV.int IntKind.i64 nx), AV.s (SV.ro (Con.typ [CK.str, CK.rows [CK.str, CK.int IntKind.u8, CK.int IntKind.i64, CK.str], CK.rows [CK.str, CK.int IntKind.u8, CK.int IntKind.i64, CK.int IntKind.i64, CK.int IntKind.u8, CK.str, CK.str, CK.str, CK.bool, CK.rows [CK.str, CK.int IntKind.u8, CK.int IntKind.i64, CK.str], CK.strs], CK.rows [CK.int IntKind.i64, CK.int IntKind.i64, CK.str, CK.bool]] ps)), AV.s (SV.ro (Con.typ cI is)), AV.s (SV.ro (Con.typ cC cs)), AV.s (SV.ro (Con.typ cW ws))] (27 : Nat), AObj.own [AV.s (SV.int IntKind.i64 ck), AV.s (SV.int IntKind.i64 nx), AV.s (SV.ro (Con.typ [CK.str, CK.rows [CK.str, CK.int IntKind.u8, CK.int IntKind.i64, CK.str], CK.rows [CK.str, CK.int IntKind.u8, CK.int IntKind.i64, CK.int IntKind.i64, CK.int IntKind.u8, CK.str, CK.str, CK.str, CK.bool, CK.rows [CK.str, CK.int IntKind.u8, CK.int IntKind.i64, CK.str], CK.strs], CK.rows [CK.int IntKind.i64, CK.int IntKind.i64, CK.str, CK.bool]] ps)), AV.s (SV.ro (Con.typ cI is)), AV.s (SV.ro (Con.typ cC cs)), AV.s (SV.ro (Con.typ cW ws))] (27 : Nat), AObj.own [AV.s (SV.int IntKind.i64 (gI is id)), AV.s (SV.int IntKind.i64 (gU is id)), AV.s (SV.int IntKind.u8 (gS is id)), AV.s (SV.str (gP is id)), AV.s (SV.int IntKind.i64 (gN is id)), AV.s (SV.int IntKind.i64 (gF is id)), AV.s (SV.int IntKind.u8 (gW is id)), AV.s (SV.str (gC is id))] (31 : Nat)] (AV.agg [AV.s (SV.int IntKind.i64 ck), AV.s (SV.int IntKind.i64 nx), AV.s (SV.ro (Con.typ [CK.str, CK.rows [CK.str, CK.int IntKind.u8, CK.int IntKind.i64, CK.str], CK.rows [CK.str, CK.int IntKind.u8, CK.int IntKind.i64, CK.int IntKind.i64, CK.int IntKind.u8, CK.str, CK.str, CK.str, CK.bool, CK.rows [CK.str, CK.int IntKind.u8, CK.int IntKind.i64, CK.str], CK.strs], CK.rows [CK.int IntKind.i64, CK.int IntKind.i64, CK.str, CK.bool]] ps)), AV.s (SV.ro (Con.typ cI is)), AV.s (SV.ro (Con.typ cC cs)), AV.s (SV.ro (Con.typ cW ws))]))
  (Tree.need (List.length is ≤ (1000000 : Nat)) (Tree.need (((belowF (esOf is) id).length + (1 : Nat)) * (8 : Nat) ≤ (140737488355328 : Nat)) (Tree.need ((belowF (esOf is) id ++ [id]).length ≤ (2000000 : Nat)) (Tree.need (List.length is ≤ (1000000 : Nat)) (Tree.need (List.length cs ≤ (1000000 : Nat)) (Tree.need (List.length ws ≤ (1000000 : Nat)) (Tree.ret [AObj.own [AV.s (SV.int IntKind.i64 ck), AV.s (SV.int IntKind.i64 nx), AV.s (SV.ro (Con.typ [CK.str, CK.rows [CK.str, CK.int IntKind.u8, CK.int IntKind.i64, CK.str], CK.rows [CK.str, CK.int IntKind.u8, CK.int IntKind.i64, CK.int IntKind.i64, CK.int IntKind.u8, CK.str, CK.str, CK.str, CK.bool, CK.rows [CK.str, CK.int IntKind.u8, CK.int IntKind.i64, CK.str], CK.strs], CK.rows [CK.int IntKind.i64, CK.int IntKind.i64, CK.str, CK.bool]] ps)), AV.s (SV.ro (Con.typ cI is)), AV.s (SV.ro (Con.typ cC cs)), AV.s (SV.ro (Con.typ cW ws))] (27 : Nat), AObj.own [AV.s (SV.int IntKind.i64 ck), AV.s (SV.int IntKind.i64 nx), AV.s (SV.ro (Con.typ [CK.str, CK.rows [CK.str, CK.int IntKind.u8, CK.int IntKind.i64, CK.str], CK.rows [CK.str, CK.int IntKind.u8, CK.int IntKind.i64, CK.int IntKind.i64, CK.int IntKind.u8, CK.str, CK.str, CK.str, CK.bool, CK.rows [CK.str, CK.int IntKind.u8, CK.int IntKind.i64, CK.str], CK.strs], CK.rows [CK.int IntKind.i64, CK.int IntKind.i64, CK.str, CK.bool]] ps)), AV.s (SV.ro (Con.typ cI (delF (pIt (belowF (esOf is) id ++ [id])) is))), AV.s (SV.ro (Con.typ cC (delF (pDr (belowF (esOf is) id ++ [id])) cs))), AV.s (SV.ro (Con.typ cW (delF (pWa (belowF (esOf is) id ++ [id])) ws)))] (27 : Nat), AObj.own [AV.s (SV.int IntKind.i64 (gI is id)), AV.s (SV.int IntKind.i64 (gU is id)), AV.s (SV.int IntKind.u8 (gS is id)), AV.s (SV.str (gP is id)), AV.s (SV.int IntKind.i64 (gN is id)), AV.s (SV.int IntKind.i64 (gF is id)), AV.s (SV.int IntKind.u8 (gW is id)), AV.s (SV.str (gC is id))] (31 : Nat), AObj.dead, AObj.vec (Con.ints IntKind.i64 [id]) (3 : Nat), AObj.dead] (AV.agg [AV.s (SV.int IntKind.i64 ck), AV.s (SV.int IntKind.i64 nx), AV.s (SV.ro (Con.typ [CK.str, CK.rows [CK.str, CK.int IntKind.u8, CK.int IntKind.i64, CK.str], CK.rows [CK.str, CK.int IntKind.u8, CK.int IntKind.i64, CK.int IntKind.i64, CK.int IntKind.u8, CK.str, CK.str, CK.str, CK.bool, CK.rows [CK.str, CK.int IntKind.u8, CK.int IntKind.i64, CK.str], CK.strs], CK.rows [CK.int IntKind.i64, CK.int IntKind.i64, CK.str, CK.bool]] ps)), AV.s (SV.ro (Con.typ cI (delF (pIt (belowF (esOf is) id ++ [id])) is))), AV.s (SV.ro (Con.typ cC (delF (pDr (belowF (esOf is) id ++ [id])) cs))), AV.s (SV.ro (Con.typ cW (delF (pWa (belowF (esOf is) id ++ [id])) ws)))])))))))) := by kernel_rfl
def tabCl : Tab := [(19, sumFi), (16, sumBe), (52, sumDi), (51, sumWo)]
theorem trCl (ck nx : Int) (ps : Ps) (is : Is) (cs : Cs) (ws : Ws) (id : Int) : run P tabCl.sum Tryd.f23 [] (start Tryd.f23 [avSt ck nx ps is cs ws, avI id] []) =
  Tree.ite (!hasI is id) (Tree.ret [AObj.own [AV.s (SV.int IntKind.i64 ck), AV.s (SV.int IntKind.i64 nx), AV.s (SV.ro (Con.typ [CK.str, CK.rows [CK.str, CK.int IntKind.u8, CK.int IntKind.i64, CK.str], CK.rows [CK.str, CK.int IntKind.u8, CK.int IntKind.i64, CK.int IntKind.i64, CK.int IntKind.u8, CK.str, CK.str, CK.str, CK.bool, CK.rows [CK.str, CK.int IntKind.u8, CK.int IntKind.i64, CK.str], CK.strs], CK.rows [CK.int IntKind.i64, CK.int IntKind.i64, CK.str, CK.bool]] ps)), AV.s (SV.ro (Con.typ cI is)), AV.s (SV.ro (Con.typ cC cs)), AV.s (SV.ro (Con.typ cW ws))] (27 : Nat), AObj.own [AV.s (SV.int IntKind.i64 id)] (3 : Nat), AObj.own [AV.s (SV.int IntKind.i64 ck), AV.s (SV.int IntKind.i64 nx), AV.s (SV.ro (Con.typ [CK.str, CK.rows [CK.str, CK.int IntKind.u8, CK.int IntKind.i64, CK.str], CK.rows [CK.str, CK.int IntKind.u8, CK.int IntKind.i64, CK.int IntKind.i64, CK.int IntKind.u8, CK.str, CK.str, CK.str, CK.bool, CK.rows [CK.str, CK.int IntKind.u8, CK.int IntKind.i64, CK.str], CK.strs], CK.rows [CK.int IntKind.i64, CK.int IntKind.i64, CK.str, CK.bool]] ps)), AV.s (SV.ro (Con.typ cI is)), AV.s (SV.ro (Con.typ cC cs)), AV.s (SV.ro (Con.typ cW ws))] (27 : Nat), AObj.own [AV.s (SV.int IntKind.i64 (gI is id)), AV.s (SV.int IntKind.i64 (gU is id)), AV.s (SV.int IntKind.u8 (gS is id)), AV.s (SV.str (gP is id)), AV.s (SV.int IntKind.i64 (gN is id)), AV.s (SV.int IntKind.i64 (gF is id)), AV.s (SV.int IntKind.u8 (gW is id)), AV.s (SV.str (gC is id))] (31 : Nat)] (AV.agg [AV.s (SV.int IntKind.i64 ck), AV.s (SV.int IntKind.i64 nx), AV.s (SV.ro (Con.typ [CK.str, CK.rows [CK.str, CK.int IntKind.u8, CK.int IntKind.i64, CK.str], CK.rows [CK.str, CK.int IntKind.u8, CK.int IntKind.i64, CK.int IntKind.i64, CK.int IntKind.u8, CK.str, CK.str, CK.str, CK.bool, CK.rows [CK.str, CK.int IntKind.u8, CK.int IntKind.i64, CK.str], CK.strs], CK.rows [CK.int IntKind.i64, CK.int IntKind.i64, CK.str, CK.bool]] ps)), AV.s (SV.ro (Con.typ cI is)), AV.s (SV.ro (Con.typ cC cs)), AV.s (SV.ro (Con.typ cW ws))]))
  (Tree.need (List.length is ≤ (1000000 : Nat)) (Tree.need (Slf (some [AV.vec (0 : Nat), AV.fn (53 : Nat) [AV.ptr (1 : Nat) (0 : Nat)]])) (Tree.need (Slf (some [AObj.vec (Con.ints IntKind.i64 (belowF (esOf is) id)) (3 : Nat), AObj.own [AV.s (SV.int IntKind.i64 id)] (3 : Nat)])) (Tree.need ((belowF (esOf is) id).length ≤ (10000000 : Nat)) (Tree.need ((delF (fun (x : Int) => x == id) (belowF (esOf is) id)).length ≤ (2000000 : Nat)) (Tree.need (List.length is ≤ (1000000 : Nat)) (Tree.need (List.length cs ≤ (1000000 : Nat)) (Tree.need (List.length ws ≤ (1000000 : Nat)) (Tree.ret [AObj.own [AV.s (SV.int IntKind.i64 ck), AV.s (SV.int IntKind.i64 nx), AV.s (SV.ro (Con.typ [CK.str, CK.rows [CK.str, CK.int IntKind.u8, CK.int IntKind.i64, CK.str], CK.rows [CK.str, CK.int IntKind.u8, CK.int IntKind.i64, CK.int IntKind.i64, CK.int IntKind.u8, CK.str, CK.str, CK.str, CK.bool, CK.rows [CK.str, CK.int IntKind.u8, CK.int IntKind.i64, CK.str], CK.strs], CK.rows [CK.int IntKind.i64, CK.int IntKind.i64, CK.str, CK.bool]] ps)), AV.s (SV.ro (Con.typ cI is)), AV.s (SV.ro (Con.typ cC cs)), AV.s (SV.ro (Con.typ cW ws))] (27 : Nat), AObj.own [AV.s (SV.int IntKind.i64 id)] (3 : Nat), AObj.own [AV.s (SV.int IntKind.i64 ck), AV.s (SV.int IntKind.i64 nx), AV.s (SV.ro (Con.typ [CK.str, CK.rows [CK.str, CK.int IntKind.u8, CK.int IntKind.i64, CK.str], CK.rows [CK.str, CK.int IntKind.u8, CK.int IntKind.i64, CK.int IntKind.i64, CK.int IntKind.u8, CK.str, CK.str, CK.str, CK.bool, CK.rows [CK.str, CK.int IntKind.u8, CK.int IntKind.i64, CK.str], CK.strs], CK.rows [CK.int IntKind.i64, CK.int IntKind.i64, CK.str, CK.bool]] ps)), AV.s (SV.ro (Con.typ cI (delF (pIt (delF (fun (x : Int) => x == id) (belowF (esOf is) id))) is))), AV.s (SV.ro (Con.typ cC (delF (pDr (delF (fun (x : Int) => x == id) (belowF (esOf is) id))) cs))), AV.s (SV.ro (Con.typ cW (delF (pWa (delF (fun (x : Int) => x == id) (belowF (esOf is) id))) ws)))] (27 : Nat), AObj.own [AV.s (SV.int IntKind.i64 (gI is id)), AV.s (SV.int IntKind.i64 (gU is id)), AV.s (SV.int IntKind.u8 (gS is id)), AV.s (SV.str (gP is id)), AV.s (SV.int IntKind.i64 (gN is id)), AV.s (SV.int IntKind.i64 (gF is id)), AV.s (SV.int IntKind.u8 (gW is id)), AV.s (SV.str (gC is id))] (31 : Nat), AObj.dead, AObj.dead] (AV.agg [AV.s (SV.int IntKind.i64 ck), AV.s (SV.int IntKind.i64 nx), AV.s (SV.ro (Con.typ [CK.str, CK.rows [CK.str, CK.int IntKind.u8, CK.int IntKind.i64, CK.str], CK.rows [CK.str, CK.int IntKind.u8, CK.int IntKind.i64, CK.int IntKind.i64, CK.int IntKind.u8, CK.str, CK.str, CK.str, CK.bool, CK.rows [CK.str, CK.int IntKind.u8, CK.int IntKind.i64, CK.str], CK.strs], CK.rows [CK.int IntKind.i64, CK.int IntKind.i64, CK.str, CK.bool]] ps)), AV.s (SV.ro (Con.typ cI (delF (pIt (delF (fun (x : Int) => x == id) (belowF (esOf is) id))) is))), AV.s (SV.ro (Con.typ cC (delF (pDr (delF (fun (x : Int) => x == id) (belowF (esOf is) id))) cs))), AV.s (SV.ro (Con.typ cW (delF (pWa (delF (fun (x : Int) => x == id) (belowF (esOf is) id))) ws)))])))))))))) := by kernel_rfl
abbrev eff (ck nx : Int) (ps : Ps) (is : Is) (cs : Cs) (ws : Ws) : AL [tSt] := ((ck, nx, ps, is, cs, ws, ()), ())
def takeL (is : Is) (id : Int) : List Int := if hasI is id = true then belowF (esOf is) id ++ [id] else []
def clearL (is : Is) (id : Int) : List Int := if hasI is id = true then delF (fun x => x == id) (belowF (esOf is) id) else []
def breakL (is : Is) (id : Int) : List Int := if hasI is id = true then clearL is id ++ [id] else []
abbrev sumTa := sumR [tSt, tInt] [tSr] (fun (s, _, ()) => preS (s, ())) (fun ((ck, nx, ps, is, cs, ws, ()), id, ()) => wo ck nx ps is cs ws (takeL is id) (takeL is id))
abbrev sumCl := sumR [tSt, tInt] [tSr] (fun (s, _, ()) => preS (s, ())) (fun ((ck, nx, ps, is, cs, ws, ()), id, ()) => wo ck nx ps is cs ws (clearL is id) (clearL is id))
abbrev sumBr := sumR [tSt, tInt] [tSr] (fun (s, _, ()) => preS (s, ())) (fun ((ck, nx, ps, is, cs, ws, ()), id, ()) => wo ck nx ps is cs ws (clearL is id) (breakL is id))
def tabBr : Tab := [(19, sumFi), (23, sumCl), (54, sumUw)]
theorem trBr (ck nx : Int) (ps : Ps) (is : Is) (cs : Cs) (ws : Ws) (id : Int) : run P tabBr.sum Tryd.f24 [] (start Tryd.f24 [avSt ck nx ps is cs ws, avI id] []) =
  Tree.ite (!hasI is id) (Tree.ret [AObj.own [AV.s (SV.int IntKind.i64 ck), AV.s (SV.int IntKind.i64 nx), AV.s (SV.ro (Con.typ [CK.str, CK.rows [CK.str, CK.int IntKind.u8, CK.int IntKind.i64, CK.str], CK.rows [CK.str, CK.int IntKind.u8, CK.int IntKind.i64, CK.int IntKind.i64, CK.int IntKind.u8, CK.str, CK.str, CK.str, CK.bool, CK.rows [CK.str, CK.int IntKind.u8, CK.int IntKind.i64, CK.str], CK.strs], CK.rows [CK.int IntKind.i64, CK.int IntKind.i64, CK.str, CK.bool]] ps)), AV.s (SV.ro (Con.typ cI is)), AV.s (SV.ro (Con.typ cC cs)), AV.s (SV.ro (Con.typ cW ws))] (27 : Nat), AObj.own [AV.s (SV.int IntKind.i64 ck), AV.s (SV.int IntKind.i64 nx), AV.s (SV.ro (Con.typ [CK.str, CK.rows [CK.str, CK.int IntKind.u8, CK.int IntKind.i64, CK.str], CK.rows [CK.str, CK.int IntKind.u8, CK.int IntKind.i64, CK.int IntKind.i64, CK.int IntKind.u8, CK.str, CK.str, CK.str, CK.bool, CK.rows [CK.str, CK.int IntKind.u8, CK.int IntKind.i64, CK.str], CK.strs], CK.rows [CK.int IntKind.i64, CK.int IntKind.i64, CK.str, CK.bool]] ps)), AV.s (SV.ro (Con.typ cI is)), AV.s (SV.ro (Con.typ cC cs)), AV.s (SV.ro (Con.typ cW ws))] (27 : Nat), AObj.own [AV.s (SV.int IntKind.i64 (gI is id)), AV.s (SV.int IntKind.i64 (gU is id)), AV.s (SV.int IntKind.u8 (gS is id)), AV.s (SV.str (gP is id)), AV.s (SV.int IntKind.i64 (gN is id)), AV.s (SV.int IntKind.i64 (gF is id)), AV.s (SV.int IntKind.u8 (gW is id)), AV.s (SV.str (gC is id))] (31 : Nat)] (AV.agg [AV.s (SV.int IntKind.i64 ck), AV.s (SV.int IntKind.i64 nx), AV.s (SV.ro (Con.typ [CK.str, CK.rows [CK.str, CK.int IntKind.u8, CK.int IntKind.i64, CK.str], CK.rows [CK.str, CK.int IntKind.u8, CK.int IntKind.i64, CK.int IntKind.i64, CK.int IntKind.u8, CK.str, CK.str, CK.str, CK.bool, CK.rows [CK.str, CK.int IntKind.u8, CK.int IntKind.i64, CK.str], CK.strs], CK.rows [CK.int IntKind.i64, CK.int IntKind.i64, CK.str, CK.bool]] ps)), AV.s (SV.ro (Con.typ cI is)), AV.s (SV.ro (Con.typ cC cs)), AV.s (SV.ro (Con.typ cW ws))]))
  (Tree.need (List.length is ≤ (1000000 : Nat)) (Tree.need (List.length cs ≤ (1000000 : Nat)) (Tree.need (List.length ws ≤ (1000000 : Nat)) (Tree.need (Slf (some [AV.agg [AV.s (SV.int IntKind.i64 ck), AV.s (SV.int IntKind.i64 nx), AV.s (SV.ro (Con.typ [CK.str, CK.rows [CK.str, CK.int IntKind.u8, CK.int IntKind.i64, CK.str], CK.rows [CK.str, CK.int IntKind.u8, CK.int IntKind.i64, CK.int IntKind.i64, CK.int IntKind.u8, CK.str, CK.str, CK.str, CK.bool, CK.rows [CK.str, CK.int IntKind.u8, CK.int IntKind.i64, CK.str], CK.strs], CK.rows [CK.int IntKind.i64, CK.int IntKind.i64, CK.str, CK.bool]] ps)), AV.s (SV.ro (Con.typ cI (delF (pIt (clearL is id)) is))), AV.s (SV.ro (Con.typ cC (delF (pDr (clearL is id)) cs))), AV.s (SV.ro (Con.typ cW (delF (pWa (clearL is id)) ws)))], AV.mapv (0 : Nat)])) (Tree.need (Slf (some [AObj.map (CK.int IntKind.i64) (mput [] id (1 : Int))])) (Tree.need ((delF (pWa (clearL is id)) ws).length ≤ (1000000 : Nat)) (Tree.ret [AObj.own [AV.s (SV.int IntKind.i64 ck), AV.s (SV.int IntKind.i64 nx), AV.s (SV.ro (Con.typ [CK.str, CK.rows [CK.str, CK.int IntKind.u8, CK.int IntKind.i64, CK.str], CK.rows [CK.str, CK.int IntKind.u8, CK.int IntKind.i64, CK.int IntKind.i64, CK.int IntKind.u8, CK.str, CK.str, CK.str, CK.bool, CK.rows [CK.str, CK.int IntKind.u8, CK.int IntKind.i64, CK.str], CK.strs], CK.rows [CK.int IntKind.i64, CK.int IntKind.i64, CK.str, CK.bool]] ps)), AV.s (SV.ro (Con.typ cI is)), AV.s (SV.ro (Con.typ cC cs)), AV.s (SV.ro (Con.typ cW ws))] (27 : Nat), AObj.own [AV.s (SV.int IntKind.i64 ck), AV.s (SV.int IntKind.i64 nx), AV.s (SV.ro (Con.typ [CK.str, CK.rows [CK.str, CK.int IntKind.u8, CK.int IntKind.i64, CK.str], CK.rows [CK.str, CK.int IntKind.u8, CK.int IntKind.i64, CK.int IntKind.i64, CK.int IntKind.u8, CK.str, CK.str, CK.str, CK.bool, CK.rows [CK.str, CK.int IntKind.u8, CK.int IntKind.i64, CK.str], CK.strs], CK.rows [CK.int IntKind.i64, CK.int IntKind.i64, CK.str, CK.bool]] ps)), AV.s (SV.ro (Con.typ cI (delF (pIt (clearL is id)) is))), AV.s (SV.ro (Con.typ cC (delF (pDr (clearL is id)) cs))), AV.vec (4 : Nat)] (27 : Nat), AObj.own [AV.s (SV.int IntKind.i64 (gI is id)), AV.s (SV.int IntKind.i64 (gU is id)), AV.s (SV.int IntKind.u8 (gS is id)), AV.s (SV.str (gP is id)), AV.s (SV.int IntKind.i64 (gN is id)), AV.s (SV.int IntKind.i64 (gF is id)), AV.s (SV.int IntKind.u8 (gW is id)), AV.s (SV.str (gC is id))] (31 : Nat), AObj.map (CK.int IntKind.i64) (mput [] id (1 : Int)), AObj.vec (Con.typ cW (delF (pUw (mput [] id (1 : Int))) (delF (pWa (clearL is id)) ws))) (85 : Nat)] (AV.agg [AV.s (SV.int IntKind.i64 ck), AV.s (SV.int IntKind.i64 nx), AV.s (SV.ro (Con.typ [CK.str, CK.rows [CK.str, CK.int IntKind.u8, CK.int IntKind.i64, CK.str], CK.rows [CK.str, CK.int IntKind.u8, CK.int IntKind.i64, CK.int IntKind.i64, CK.int IntKind.u8, CK.str, CK.str, CK.str, CK.bool, CK.rows [CK.str, CK.int IntKind.u8, CK.int IntKind.i64, CK.str], CK.strs], CK.rows [CK.int IntKind.i64, CK.int IntKind.i64, CK.str, CK.bool]] ps)), AV.s (SV.ro (Con.typ cI (delF (pIt (clearL is id)) is))), AV.s (SV.ro (Con.typ cC (delF (pDr (clearL is id)) cs))), AV.vec (4 : Nat)])))))))) := by kernel_rfl
def tabGo : Tab := [(19, sumFi), (40, sumSort), (41, sumCm)]
def nsGo : List (Nat × Norm) := [(3, ⟨[(5, .ints .i64 [], 3)], [3, 5, 11, 12, 13], 0, []⟩)]
theorem trGo (ck nx : Int) (ps : Ps) (is : Is) (cs : Cs) (ws : Ws) (ck' nx' : Int) (ps' : Ps) (is' : Is) (cs' : Cs) (ws' : Ws) : run P tabGo.sum Tryd.f50 nsGo (start Tryd.f50 [avSt ck nx ps is cs ws, avSt ck' nx' ps' is' cs' ws'] []) =
  Tree.at (Cfg.mk (sl (36 : Nat) [((3 : Nat), AV.ptr (0 : Nat) (0 : Nat)), ((5 : Nat), AV.vec (1 : Nat)), ((11 : Nat), AV.s (SV.ro (Con.typ cI is))), ((12 : Nat), AV.s (SV.int IntKind.i64 (↑(List.length is) : Int))), ((13 : Nat), AV.s (SV.int IntKind.i64 (0 : Int)))]) [AObj.own [AV.s (SV.int IntKind.i64 ck'), AV.s (SV.int IntKind.i64 nx'), AV.s (SV.ro (Con.typ [CK.str, CK.rows [CK.str, CK.int IntKind.u8, CK.int IntKind.i64, CK.str], CK.rows [CK.str, CK.int IntKind.u8, CK.int IntKind.i64, CK.int IntKind.i64, CK.int IntKind.u8, CK.str, CK.str, CK.str, CK.bool, CK.rows [CK.str, CK.int IntKind.u8, CK.int IntKind.i64, CK.str], CK.strs], CK.rows [CK.int IntKind.i64, CK.int IntKind.i64, CK.str, CK.bool]] ps')), AV.s (SV.ro (Con.typ cI is')), AV.s (SV.ro (Con.typ cC cs')), AV.s (SV.ro (Con.typ cW ws'))] (27 : Nat), AObj.vec (Con.ints IntKind.i64 []) (3 : Nat)] (hd Tryd.f50 (3 : Nat)) (Stk.mk none false (0 : Nat) [] (0 : Nat))) := by kernel_rfl
noncomputable def cGo (is : Is) (ck' nx' : Int) (ps' : Ps) (is' : Is) (cs' : Cs) (ws' : Ws) (acc : List Int) (i : Int) : Cfg := ⟨sl 36 [(3, .ptr 0 0), (5, .vec 1), (11, .s (.ro (.typ cI is))), (12, avI (is.length : Int)), (13, avI i)], [obSt ck' nx' ps' is' cs' ws', .vec (.ints .i64 acc) 3], hd Tryd.f50 3, {}⟩
theorem loopGo (is : Is) (ck' nx' : Int) (ps' : Ps) (is' : Is) (cs' : Cs) (ws' : Ws) (acc : List Int) (i : Int) : run P tabGo.sum Tryd.f50 nsGo (cGo is ck' nx' ps' is' cs' ws' acc i) =
  Tree.ite (decide (i < (↑(List.length is) : Int))) (Tree.need ((0 : Int) ≤ i) (Tree.need (i < (↑(List.length is) : Int)) (Tree.ite (!hasI is' (iI (el is i))) (Tree.need ((acc.length + (1 : Nat)) * (8 : Nat) ≤ (140737488355328 : Nat)) (Tree.need (inI64 (i + (1 : Int))) (Tree.at (Cfg.mk (sl (36 : Nat) [((3 : Nat), AV.ptr (0 : Nat) (0 : Nat)), ((5 : Nat), AV.vec (1 : Nat)), ((11 : Nat), AV.s (SV.ro (Con.typ cI is))), ((12 : Nat), AV.s (SV.int IntKind.i64 (↑(List.length is) : Int))), ((13 : Nat), AV.s (SV.int IntKind.i64 (i + (1 : Int))))]) [AObj.own [AV.s (SV.int IntKind.i64 ck'), AV.s (SV.int IntKind.i64 nx'), AV.s (SV.ro (Con.typ [CK.str, CK.rows [CK.str, CK.int IntKind.u8, CK.int IntKind.i64, CK.str], CK.rows [CK.str, CK.int IntKind.u8, CK.int IntKind.i64, CK.int IntKind.i64, CK.int IntKind.u8, CK.str, CK.str, CK.str, CK.bool, CK.rows [CK.str, CK.int IntKind.u8, CK.int IntKind.i64, CK.str], CK.strs], CK.rows [CK.int IntKind.i64, CK.int IntKind.i64, CK.str, CK.bool]] ps')), AV.s (SV.ro (Con.typ cI is')), AV.s (SV.ro (Con.typ cC cs')), AV.s (SV.ro (Con.typ cW ws'))] (27 : Nat), AObj.vec (Con.ints IntKind.i64 (acc ++ [iI (el is i)])) (3 : Nat)] (hd Tryd.f50 (3 : Nat)) (Stk.mk none false (0 : Nat) [] (0 : Nat)))))) (Tree.need (inI64 (i + (1 : Int))) (Tree.at (Cfg.mk (sl (36 : Nat) [((3 : Nat), AV.ptr (0 : Nat) (0 : Nat)), ((5 : Nat), AV.vec (1 : Nat)), ((11 : Nat), AV.s (SV.ro (Con.typ cI is))), ((12 : Nat), AV.s (SV.int IntKind.i64 (↑(List.length is) : Int))), ((13 : Nat), AV.s (SV.int IntKind.i64 (i + (1 : Int))))]) [AObj.own [AV.s (SV.int IntKind.i64 ck'), AV.s (SV.int IntKind.i64 nx'), AV.s (SV.ro (Con.typ [CK.str, CK.rows [CK.str, CK.int IntKind.u8, CK.int IntKind.i64, CK.str], CK.rows [CK.str, CK.int IntKind.u8, CK.int IntKind.i64, CK.int IntKind.i64, CK.int IntKind.u8, CK.str, CK.str, CK.str, CK.bool, CK.rows [CK.str, CK.int IntKind.u8, CK.int IntKind.i64, CK.str], CK.strs], CK.rows [CK.int IntKind.i64, CK.int IntKind.i64, CK.str, CK.bool]] ps')), AV.s (SV.ro (Con.typ cI is')), AV.s (SV.ro (Con.typ cC cs')), AV.s (SV.ro (Con.typ cW ws'))] (27 : Nat), AObj.vec (Con.ints IntKind.i64 acc) (3 : Nat)] (hd Tryd.f50 (3 : Nat)) (Stk.mk none false (0 : Nat) [] (0 : Nat)))))))) (Tree.need (Slf (some [AV.vec (0 : Nat)])) (Tree.need (Slf (some [AObj.vec (Con.ints IntKind.i64 acc) (3 : Nat)])) (Tree.need (acc.length ≤ (1000000 : Nat)) (Tree.need (Slf (some [AV.vec (0 : Nat)])) (Tree.need (Slf (some [AObj.vec (Con.ints IntKind.i64 (srtZ acc)) (3 : Nat)])) (Tree.need ((srtZ acc).length ≤ (1000000 : Nat)) (Tree.ret [AObj.own [AV.s (SV.int IntKind.i64 ck'), AV.s (SV.int IntKind.i64 nx'), AV.s (SV.ro (Con.typ [CK.str, CK.rows [CK.str, CK.int IntKind.u8, CK.int IntKind.i64, CK.str], CK.rows [CK.str, CK.int IntKind.u8, CK.int IntKind.i64, CK.int IntKind.i64, CK.int IntKind.u8, CK.str, CK.str, CK.str, CK.bool, CK.rows [CK.str, CK.int IntKind.u8, CK.int IntKind.i64, CK.str], CK.strs], CK.rows [CK.int IntKind.i64, CK.int IntKind.i64, CK.str, CK.bool]] ps')), AV.s (SV.ro (Con.typ cI is')), AV.s (SV.ro (Con.typ cC cs')), AV.s (SV.ro (Con.typ cW ws'))] (27 : Nat), AObj.dead, AObj.vec (Con.ints IntKind.i64 (cmpF (srtZ acc))) (3 : Nat)] (AV.vec (2 : Nat))))))))) := by kernel_rfl
end Ds

namespace Ds
open Go Go.Sx Go.Proofs Lf
theorem frz_safe {X : Ctx} {K : List AObj → AV → Prop} {f : FuncId} {tmps : List AV} {L : List AObj} {todo : List Item} {stk : Stk} (id : Nat) {c : Cfg}
    (e : (⟨(frzSt ⟨tmps, L⟩ id).tmps, (frzSt ⟨tmps, L⟩ id).H, todo, stk⟩ : Cfg) = c) (h : Safe P f X K c) : Safe P f X K ⟨tmps, L, todo, stk⟩ := by
  subst e
  intro G E ρ a w hG1 hG2 hr b t fs hw
  exact h G E ρ a w hG1 hG2 (hr.frz1 id) b t fs hw
theorem delF_len {α : Type} (p : α → Bool) (l : List α) : (delF p l).length ≤ l.length := List.length_filter_le _ _
theorem delF_congr {α : Type} {p q : α → Bool} (h : ∀ x, p x = q x) (l : List α) : delF p l = delF q l := by
  unfold delF
  rw [show p = q from funext h]
/-- what was counted -/
def Cnts (m : Mp) (l : List Int) : Prop := ∀ k, cnt m k = (l.count k : Int)
theorem cnts_put {m : Mp} {l : List Int} {k : Int} (h : Cnts m l) : Cnts (mput m k (cnt m k + 1)) (l ++ [k]) := by
  intro x
  unfold cnt at *
  rw [mget_put']
  by_cases hx : x = k
  · subst hx
    rw [if_pos rfl]
    have := h x
    unfold cnt at this
    show (mget m x).getD 0 + 1 = _
    rw [this, List.count_append]
    simp
  · rw [if_neg hx]
    have := h x
    unfold cnt at this
    rw [this, List.count_append, List.count_singleton]
    have : (k == x) = false := by simpa using Ne.symm hx
    rw [this]
    simp
theorem cnts_in {m : Mp} {l : List Int} (h : Cnts m l) (k : Int) : decide (cnt m k > 0) = l.contains k := by
  rw [h k, List.contains_eq_mem]
  congr 1
  rw [eq_iff_iff]
  rw [← List.count_pos_iff]
  omega
theorem cnts_one (id : Int) : Cnts (mput [] id 1) [id] := by
  intro x
  unfold cnt
  rw [mget_put', List.count_singleton]
  by_cases hx : x = id
  · subst hx; simp
  · rw [if_neg hx]
    have : (id == x) = false := by simpa using Ne.symm hx
    rw [this]; rfl
theorem tabWo_ok {Z : Glob} : tabWo.Ok P Z := Tab.Ok.cons drop_ok.sumR (Tab.Ok.cons (unw_ok.sum mUw) Tab.Ok.nil)
def pIm (m : Mp) (x : CL cI) : Bool := decide (cnt m (iI x) > 0)
theorem without_ok {Z : Glob} : FnOk P Z 51 [tSt, tNs] [tSr] (fun (s, l, ()) => ((l : List Int).length ≤ 2000000) :: preS (s, ())) (fun ((ck, nx, ps, is, cs, ws, ()), l, ()) => wo ck nx ps is cs ws l l) := by
  refine fnOk_of_safe Tryd.func51 (by kernel_rfl) (by kernel_rfl) ?_
  rintro ⟨⟨(ck : Int), (nx : Int), (ps : Ps), (is : Is), (cs : Cs), (ws : Ws), ⟨⟩⟩, (l : List Int), ⟨⟩⟩ _ ⟨(hl : l.length ≤ 2000000), (hi : is.length ≤ 1000000), (hc : cs.length ≤ 1000000), (hw : ws.length ≤ 1000000), _⟩ X hX hz
  show Safe P 51 X (Ends [tSr] (wo ck nx ps is cs ws l l)) _
  have rest : ∀ m : Mp, Cnts m l → Safe P 51 X (Ends [tSr] (wo ck nx ps is cs ws l l)) (cWo ck nx ps is (delF (pDr l) cs) ws m is) := by
    intro m hm
    have t1 : ∀ x : CL cI, (mget m (iI x)).getD (CK.int IntKind.i64).d > 0 → pIm m x = true := fun _ h => decide_eq_true h
    have t0 : ∀ x : CL cI, ¬ (mget m (iI x)).getD (CK.int IntKind.i64).d > 0 → pIm m x = false := fun _ h => decide_eq_false h
    have ei : delF (pIm m) is = delF (pIt l) is := delF_congr (fun x => cnts_in hm (iI x)) is
    have ew : delF (pUw m) ws = delF (pWa l) ws := delF_congr (fun x => cnts_in hm (wT x)) ws

    have fin : ∀ r : List (CL cI), r = delF (pIm m) is → Safe P 51 X (Ends [tSr] (wo ck nx ps is cs ws l l)) (cWoE ck nx ps is (delF (pDr l) cs) ws m r) := by
      intro r hr
      subst hr
      refine go hz hX tabWo_ok Tryd.func51 (endWo ck nx ps is (delF (pDr l) cs) ws m (delF (pIm m) is)) ⟨rfl, rfl, hw, ?_⟩
      rw [ei, ew]
      exact ends_eq _ rfl (by kernel_rfl)
    have loop2 : ∀ (n : Nat) (r : List (CL cI)) (i j : Nat), j + n = is.length → DInv (pIm m) is r i j → Safe P 51 X (Ends [tSr] (wo ck nx ps is cs ws l l)) (cWo2 ck nx ps is (delF (pDr l) cs) ws m r (i : Int) (j : Int)) := by
      intro n
      induction n with
      | zero =>
        intro r i j hj h
        have hlen := h.len
        have hij := h.ij
        refine go hz hX tabWo_ok Tryd.func51 (loopWo2 ck nx ps is (delF (pDr l) cs) ws m r i j) ⟨fun h => absurd (of_decide_eq_true h) (by omega), fun _ => ?_⟩
        rw [Int.toNat_natCast, Int.toNat_natCast]
        refine ⟨by omega, by omega, by omega, by omega, by omega, ?_, ?_⟩
        · rw [over_length _ _ (by omega) (by simp)]; omega
        · refine cut_safe (t := 27) (id := 3) rfl rfl ?_
          have e2 : conSub (.typ cI (over r (0 + i) (r.length - i) (List.replicate (r.length - i) (CL.d cI)))) 0 (0 + (i - Int.toNat 0)) = .typ cI (delF (pIm m) is) := by
            show Con.typ cI ((List.take (0 + (i - 0)) (over r (0 + i) (r.length - i) (List.replicate (r.length - i) (CL.d cI)))).drop 0) = _
            rw [List.drop_zero, Nat.zero_add, Nat.sub_zero, Nat.zero_add]
            unfold over
            rw [List.append_assoc, List.take_append_of_le_length (by rw [List.length_take]; omega), List.take_take, Nat.min_self, h.fin (by omega)]
          rw [e2]
          refine frz_safe 5 (c := cWoE ck nx ps is (delF (pDr l) cs) ws m (delF (pIm m) is)) (by kernel_rfl) ?_
          exact fin _ rfl
      | succ n ih =>
        intro r i j hj h
        have hlen := h.len
        have hij := h.ij
        have hlt : j < is.length := by omega
        refine go hz hX tabWo_ok Tryd.func51 (loopWo2 ck nx ps is (delF (pDr l) cs) ws m r i j) ?_
        rw [el_lt (show j < r.length by omega), h.at hlt]
        have skip := fun hp => ih r i (j + 1) (by omega) (h.skip hlt hp)
        have keep := fun hp => ih (r.set i is[j]) (i + 1) (j + 1) (by omega) (h.keep hlt hp)
        repeat' (with_reducible (first | refine h_eq ?_ | refine h_need ?_ ?_ | refine h_dec (fun _ => ?_) (fun _ => ?_) | refine h_beq (fun _ => ?_) (fun _ => ?_) | refine h_bne (fun _ => ?_) (fun _ => ?_) | refine h_tt ?_ | refine h_ff ?_ | refine h_not ?_ | refine h_ite (fun _ => ?_) (fun _ => ?_) | refine h_both (fun _ => ?_) (fun _ => ?_) | refine h_ret ?_ | refine h_at ?_))
        all_goals first | omega | exact ⟨by omega, by omega⟩ | exact skip (by assumption) | exact keep (by assumption) | exact skip (t1 _ (by assumption)) | exact keep (t0 _ (by assumption))
    have none_ : (∀ x ∈ is, (pIm m) x = false) → Safe P 51 X (Ends [tSr] (wo ck nx ps is cs ws l l)) (cWoV ck nx ps is (delF (pDr l) cs) ws m is) := by
      intro h
      refine vec_cut_safe (t := 27) (id := 3) rfl rfl (c' := .typ cI is) ?_ ?_
      · show Con.typ cI ((List.take (0 + is.length) is).drop 0) = _
        rw [List.drop_zero, Nat.zero_add, List.take_length]
      · refine frz_safe 5 (c := cWoE ck nx ps is (delF (pDr l) cs) ws m is) (by kernel_rfl) ?_
        exact fin _ (delF_all h).symm
    have loop1 : ∀ (n i : Nat), i + n = is.length → (∀ k (hk : k < i) (h2 : k < is.length), (pIm m) is[k] = false) → Safe P 51 X (Ends [tSr] (wo ck nx ps is cs ws l l)) (cWo1 ck nx ps is (delF (pDr l) cs) ws m is (i : Int)) := by
      intro n
      induction n with
      | zero =>
        intro i hi hb
        refine go hz hX tabWo_ok Tryd.func51 (loopWo1 ck nx ps is (delF (pDr l) cs) ws m is i) ⟨fun h => absurd (of_decide_eq_true h) (by omega), fun _ => ?_⟩
        refine none_ fun x hx => ?_
        obtain ⟨k, hk, rfl⟩ := List.mem_iff_getElem.1 hx
        exact hb k (by omega) hk
      | succ n ih =>
        intro i hi hb
        have hlt : i < is.length := by omega
        refine go hz hX tabWo_ok Tryd.func51 (loopWo1 ck nx ps is (delF (pDr l) cs) ws m is i) ?_
        rw [el_lt hlt]
        have next := fun h : (pIm m) is[i] = false => ih (i + 1) (by omega) fun k h1 h2 => by
          by_cases e : k = i
          · subst e; exact h
          · exact hb k (by omega) h2
        have hit := fun h : (pIm m) is[i] = true => loop2 (is.length - (i + 1)) is i (i + 1) (by omega) (DInv.start hlt h fun k hk => hb k hk (by omega))
        repeat' (with_reducible (first | refine h_eq ?_ | refine h_need ?_ ?_ | refine h_dec (fun _ => ?_) (fun _ => ?_) | refine h_beq (fun _ => ?_) (fun _ => ?_) | refine h_bne (fun _ => ?_) (fun _ => ?_) | refine h_tt ?_ | refine h_ff ?_ | refine h_not ?_ | refine h_ite (fun _ => ?_) (fun _ => ?_) | refine h_both (fun _ => ?_) (fun _ => ?_) | refine h_ret ?_ | refine h_at ?_))
        all_goals first | omega | exact ⟨by omega, by omega⟩ | exact next (by assumption) | exact hit (by assumption) | exact hit (t1 _ (by assumption)) | exact next (t0 _ (by assumption))
    exact go hz hX tabWo_ok Tryd.func51 (midWo ck nx ps is (delF (pDr l) cs) ws m is) (loop1 is.length 0 (by omega) fun k hk => absurd hk (Nat.not_lt_zero _))

  have loop : ∀ (n k : Nat) (m : Mp), k + n = l.length → Cnts m (l.take k) → Safe P 51 X (Ends [tSr] (wo ck nx ps is cs ws l l)) (cWo0 ck nx ps is cs ws l m (k : Int)) := by
    intro n
    induction n with
    | zero =>
      intro k m hk hm
      rw [List.take_of_length_le (by omega)] at hm
      have mid := rest m hm
      refine go hz hX tabWo_ok Tryd.func51 (loopWo0 ck nx ps is cs ws l m k) ⟨fun h => absurd (of_decide_eq_true h) (by omega), fun _ => ⟨hc, fun h => ?_, fun _ => ⟨by omega, mid⟩⟩⟩
      have h := List.eq_nil_of_length_eq_zero h
      have e : cWo ck nx ps is (delF (pDr l) cs) ws m [] = cWo ck nx ps is (delF (pDr l) cs) ws m is := by rw [h]
      rw [← e] at mid
      exact mid
    | succ n ih =>
      intro k m hk hm
      have hlt : k < l.length := by omega
      refine go hz hX tabWo_ok Tryd.func51 (loopWo0 ck nx ps is cs ws l m k) ?_
      rw [Int.toNat_natCast, getD_lt hlt]
      have hc1 := hm l[k]
      have hc2 := List.count_le_length (l := l.take k) (a := l[k])
      rw [List.length_take] at hc2
      have hcn : (mget m l[k]).getD (CK.int IntKind.i64).d = cnt m l[k] := rfl
      rw [hcn]
      have := ih (k + 1) (mput m l[k] (cnt m l[k] + 1)) (by omega) (by
        rw [List.take_add_one, List.getElem?_eq_getElem hlt]
        exact cnts_put hm)
      refine ⟨fun _ => ⟨by omega, by omega, ⟨by omega, by omega⟩, ⟨by omega, by omega⟩, this⟩, fun h => absurd (of_decide_eq_false h) (by omega)⟩
  refine go hz hX tabWo_ok Tryd.func51 (trWo ck nx ps is cs ws l) ?_
  exact loop l.length 0 [] (by omega) (fun _ => rfl)
theorem di_ok {Z : Glob} : FnS P Z 52 sDi := by
  refine fnS_of_safe Tryd.func52 (by kernel_rfl) (fun x => Nat.le_of_ble_eq_true (by kernel_rfl)) ?_
  rintro ⟨(l : List Int), (id : Int)⟩ ⟨(hl : l.length ≤ 10000000), _⟩ X hX hz
  have hns : ∀ x ∈ nsDi, (sDi.heap (l, id)).length ≤ x.2.m := by intro y hy; simp [nsDi] at hy; rcases hy with rfl | rfl | rfl | rfl <;> exact Nat.le_refl _
  have t1 : ∀ x : Int, x = id → (fun x => x == id) x = true := fun x h => by simpa using h
  have t0 : ∀ x : Int, ¬ x = id → (fun x => x == id) x = false := fun x h => by simpa using h

  have fin : ∀ r : List Int, r = delF (fun x => x == id) l → Safe P 52 X (EndS sDi (l, id)) (cDiE id r) := by
    intro r hr
    subst hr
    exact goS hz hX hns Tab.Ok.nil Tryd.func52 (endDi id _) (endS 2 (by kernel_rfl) (Nat.le_refl _) rfl rfl)
  have finF : ∀ r : List Int, r = delF (fun x => x == id) l → Safe P 52 X (EndS sDi (l, id)) (cDiF id r) := by
    intro r hr
    subst hr
    exact goS hz hX hns Tab.Ok.nil Tryd.func52 (endDiF id _) (endS 2 (by kernel_rfl) (Nat.le_refl _) rfl rfl)
  have loop2 : ∀ (n : Nat) (r : List Int) (i j : Nat), j + n = l.length → DInv (fun x => x == id) l r i j → Safe P 52 X (EndS sDi (l, id)) (cDi2 id r (i : Int) (j : Int)) := by
    intro n
    induction n with
    | zero =>
      intro r i j hj h
      have hlen := h.len
      have hij := h.ij
      refine goS hz hX hns Tab.Ok.nil Tryd.func52 (loopDi2 id r i j) ⟨fun h => absurd (of_decide_eq_true h) (by omega), fun _ => ?_⟩
      rw [Int.toNat_natCast, Int.toNat_natCast]
      refine ⟨by omega, by omega, by omega, by omega, by omega, ?_, ?_⟩
      · rw [over_length _ _ (by omega) (by simp)]; omega
      · refine cut_safe (t := 41) (id := 0) rfl rfl ?_
        have e2 : conSub (.ints .i64 (over r (0 + i) (r.length - i) (List.replicate (r.length - i) 0))) 0 (0 + (i - Int.toNat 0)) = .ints .i64 (delF (fun x => x == id) l) := by
          show Con.ints .i64 ((List.take (0 + (i - 0)) (over r (0 + i) (r.length - i) (List.replicate (r.length - i) 0))).drop 0) = _
          rw [List.drop_zero, Nat.zero_add, Nat.sub_zero, Nat.zero_add]
          unfold over
          rw [List.append_assoc, List.take_append_of_le_length (by rw [List.length_take]; omega), List.take_take, Nat.min_self, h.fin (by omega)]
        rw [e2]
        exact fin _ rfl
    | succ n ih =>
      intro r i j hj h
      have hlen := h.len
      have hij := h.ij
      have hlt : j < l.length := by omega
      refine goS hz hX hns Tab.Ok.nil Tryd.func52 (loopDi2 id r i j) ?_
      rw [Int.toNat_natCast, Int.toNat_natCast, getD_lt (show j < r.length by omega), h.at hlt]
      have skip := fun hp => ih r i (j + 1) (by omega) (h.skip hlt hp)
      have keep := fun hp => ih (r.set i l[j]) (i + 1) (j + 1) (by omega) (h.keep hlt hp)
      repeat' (with_reducible (first | refine h_eq ?_ | refine h_need ?_ ?_ | refine h_dec (fun _ => ?_) (fun _ => ?_) | refine h_beq (fun _ => ?_) (fun _ => ?_) | refine h_bne (fun _ => ?_) (fun _ => ?_) | refine h_tt ?_ | refine h_ff ?_ | refine h_not ?_ | refine h_ite (fun _ => ?_) (fun _ => ?_) | refine h_both (fun _ => ?_) (fun _ => ?_) | refine h_ret ?_ | refine h_at ?_))
      all_goals first | omega | exact ⟨by omega, by omega⟩ | exact skip (by assumption) | exact keep (by assumption) | exact skip (t1 _ (by assumption)) | exact keep (t0 _ (by assumption))
  have none_ : (∀ x ∈ l, (fun x => x == id) x = false) → Safe P 52 X (EndS sDi (l, id)) (⟨sl 42 [(13, .vec 0)], [.vec (.ints .i64 l) 3, .own [avI id] 3], cal Tryd.f52 3 1, kk 3⟩ : Cfg) := by
    intro h
    refine vec_cut_safe (t := 13) (id := 0) rfl rfl (c' := .ints .i64 l) ?_ ?_
    · show Con.ints .i64 ((List.take (0 + l.length) l).drop 0) = _
      rw [List.drop_zero, Nat.zero_add, List.take_length]
    · exact finF _ (delF_all h).symm
  have loop1 : ∀ (n i : Nat), i + n = l.length → (∀ k (hk : k < i) (h2 : k < l.length), (fun x => x == id) l[k] = false) → Safe P 52 X (EndS sDi (l, id)) (cDi1 id l (i : Int)) := by
    intro n
    induction n with
    | zero =>
      intro i hi hb
      refine goS hz hX hns Tab.Ok.nil Tryd.func52 (loopDi1 id l i) ⟨fun h => absurd (of_decide_eq_true h) (by omega), fun _ => ?_⟩
      refine none_ fun x hx => ?_
      obtain ⟨k, hk, rfl⟩ := List.mem_iff_getElem.1 hx
      exact hb k (by omega) hk
    | succ n ih =>
      intro i hi hb
      have hlt : i < l.length := by omega
      refine goS hz hX hns Tab.Ok.nil Tryd.func52 (loopDi1 id l i) ?_
      rw [Int.toNat_natCast, getD_lt hlt]
      have next := fun h : (fun x => x == id) l[i] = false => ih (i + 1) (by omega) fun k h1 h2 => by
        by_cases e : k = i
        · subst e; exact h
        · exact hb k (by omega) h2
      have hit := fun h : (fun x => x == id) l[i] = true => loop2 (l.length - (i + 1)) l i (i + 1) (by omega) (DInv.start hlt h fun k hk => hb k hk (by omega))
      repeat' (with_reducible (first | refine h_eq ?_ | refine h_need ?_ ?_ | refine h_dec (fun _ => ?_) (fun _ => ?_) | refine h_beq (fun _ => ?_) (fun _ => ?_) | refine h_bne (fun _ => ?_) (fun _ => ?_) | refine h_tt ?_ | refine h_ff ?_ | refine h_not ?_ | refine h_ite (fun _ => ?_) (fun _ => ?_) | refine h_both (fun _ => ?_) (fun _ => ?_) | refine h_ret ?_ | refine h_at ?_))
      all_goals first | omega | exact ⟨by omega, by omega⟩ | exact next (by assumption) | exact hit (by assumption) | exact hit (t1 _ (by assumption)) | exact next (t0 _ (by assumption))
  exact goS hz hX hns Tab.Ok.nil Tryd.func52 (trDi l id) (loop1 l.length 0 (by omega) fun k hk => absurd hk (Nat.not_lt_zero _))

theorem tabTa_ok {Z : Glob} : tabTa.Ok P Z := Tab.Ok.cons find_ok.sum (Tab.Ok.cons below_ok.sum (Tab.Ok.cons without_ok.sumR Tab.Ok.nil))
theorem tabCl_ok {Z : Glob} : tabCl.Ok P Z := Tab.Ok.cons find_ok.sum (Tab.Ok.cons below_ok.sum (Tab.Ok.cons (di_ok.sum mDi) (Tab.Ok.cons without_ok.sumR Tab.Ok.nil)))
theorem below_le (es : Es) (id : Int) : (belowF es id).length ≤ es.length := by
  have h : (belowF es id).length ≤ (es.map (·.1)).length := nodup_len (rises_nodup (below_lt es id)) fun x hx => by
    obtain ⟨h1, h2⟩ := mem_below.1 hx
    have key : ∀ a b : Int, Reach es a b → b ∈ es.map (·.1) := fun a b h => by
      cases h with
      | kid h => exact List.mem_map.2 ⟨_, (mem_kids.1 h).1, rfl⟩
      | more _ h => exact List.mem_map.2 ⟨_, (mem_kids.1 h).1, rfl⟩
    exact key _ _ h2
  simpa using h
theorem wo_nil (ck nx : Int) (ps : Ps) (is : Is) (cs : Cs) (ws : Ws) : wo ck nx ps is cs ws [] [] = eff ck nx ps is cs ws := by
  show ((ck, nx, ps, delF (pIt []) is, delF (pDr []) cs, delF (pWa []) ws, ()), ()) = _
  rw [delF_all (p := pIt []) fun _ _ => rfl, delF_all (p := pDr []) fun _ _ => rfl, delF_all (p := pWa []) fun _ _ => rfl]
theorem take_ok {Z : Glob} : FnOk P Z 22 [tSt, tInt] [tSr] (fun (s, _, ()) => preS (s, ())) (fun ((ck, nx, ps, is, cs, ws, ()), id, ()) => wo ck nx ps is cs ws (takeL is id) (takeL is id)) := by
  refine fnOk_of_safe Tryd.func22 (by kernel_rfl) (by kernel_rfl) ?_
  rintro ⟨⟨(ck : Int), (nx : Int), (ps : Ps), (is : Is), (cs : Cs), (ws : Ws), ⟨⟩⟩, (id : Int), ⟨⟩⟩ _ ⟨(hi : is.length ≤ 1000000), (hc : cs.length ≤ 1000000), (hw : ws.length ≤ 1000000), _⟩ X hX hz
  show Safe P 22 X (Ends [tSr] (wo ck nx ps is cs ws (takeL is id) (takeL is id))) _
  refine go hz hX tabTa_ok Tryd.func22 (trTa ck nx ps is cs ws id) ?_
  have hb := below_le (esOf is) id
  have hb2 : (esOf is).length = is.length := List.length_map _
  unfold takeL
  cases hasI is id with
  | false =>
    rw [if_neg (by simp), wo_nil]
    refine ⟨fun _ => ends_eq _ rfl (by kernel_rfl), fun h => absurd h (by simp)⟩
  | true =>
    rw [if_pos rfl]
    refine ⟨fun h => absurd h (by simp), fun _ => ⟨by omega, by omega, ?_⟩⟩
    have : (belowF (esOf is) id ++ [id]).length ≤ 2000000 := by simp; omega
    generalize belowF (esOf is) id ++ [id] = q at *
    first | exact ends_eq _ rfl (by kernel_rfl) | exact ⟨this, hi, hc, hw, ends_eq _ rfl (by kernel_rfl)⟩
theorem clear_ok {Z : Glob} : FnOk P Z 23 [tSt, tInt] [tSr] (fun (s, _, ()) => preS (s, ())) (fun ((ck, nx, ps, is, cs, ws, ()), id, ()) => wo ck nx ps is cs ws (clearL is id) (clearL is id)) := by
  refine fnOk_of_safe Tryd.func23 (by kernel_rfl) (by kernel_rfl) ?_
  rintro ⟨⟨(ck : Int), (nx : Int), (ps : Ps), (is : Is), (cs : Cs), (ws : Ws), ⟨⟩⟩, (id : Int), ⟨⟩⟩ _ ⟨(hi : is.length ≤ 1000000), (hc : cs.length ≤ 1000000), (hw : ws.length ≤ 1000000), _⟩ X hX hz
  show Safe P 23 X (Ends [tSr] (wo ck nx ps is cs ws (clearL is id) (clearL is id))) _
  refine go hz hX tabCl_ok Tryd.func23 (trCl ck nx ps is cs ws id) ?_
  have hb := below_le (esOf is) id
  have hb2 : (esOf is).length = is.length := List.length_map _
  unfold clearL
  cases hasI is id with
  | false =>
    rw [if_neg (by simp), wo_nil]
    refine ⟨fun _ => ends_eq _ rfl (by kernel_rfl), fun h => absurd h (by simp)⟩
  | true =>
    rw [if_pos rfl]
    have h4 := delF_len (fun x => x == id) (belowF (esOf is) id)
    refine ⟨fun h => absurd h (by simp), fun _ => ⟨hi, rfl, rfl, by omega, ?_⟩⟩
    have : (delF (fun x => x == id) (belowF (esOf is) id)).length ≤ 2000000 := by omega
    generalize delF (fun x => x == id) (belowF (esOf is) id) = q at *
    first | exact ends_eq _ rfl (by kernel_rfl) | exact ⟨this, hi, hc, hw, ends_eq _ rfl (by kernel_rfl)⟩
theorem tabBr_ok {Z : Glob} : tabBr.Ok P Z := Tab.Ok.cons find_ok.sum (Tab.Ok.cons clear_ok.sumR (Tab.Ok.cons (unw_ok.sum mUw) Tab.Ok.nil))
theorem delF_app {α : Type} (p q r : α → Bool) (h : ∀ x, r x = (p x || q x)) (l : List α) : delF q (delF p l) = delF r l := by
  unfold delF
  rw [List.filter_filter]
  congr 1
  funext x
  rw [h x]
  cases p x <;> cases q x <;> rfl
theorem break_ok {Z : Glob} : FnOk P Z 24 [tSt, tInt] [tSr] (fun (s, _, ()) => preS (s, ())) (fun ((ck, nx, ps, is, cs, ws, ()), id, ()) => wo ck nx ps is cs ws (clearL is id) (breakL is id)) := by
  refine fnOk_of_safe Tryd.func24 (by kernel_rfl) (by kernel_rfl) ?_
  rintro ⟨⟨(ck : Int), (nx : Int), (ps : Ps), (is : Is), (cs : Cs), (ws : Ws), ⟨⟩⟩, (id : Int), ⟨⟩⟩ _ ⟨(hi : is.length ≤ 1000000), (hc : cs.length ≤ 1000000), (hw : ws.length ≤ 1000000), _⟩ X hX hz
  show Safe P 24 X (Ends [tSr] (wo ck nx ps is cs ws (clearL is id) (breakL is id))) _
  refine go hz hX tabBr_ok Tryd.func24 (trBr ck nx ps is cs ws id) ?_
  have e : delF (pUw (mput [] id 1)) (delF (pWa (clearL is id)) ws) = delF (pWa (clearL is id ++ [id])) ws := by
    refine delF_app _ _ _ (fun x => ?_) ws
    show List.contains (clearL is id ++ [id]) (wT x) = ((clearL is id).contains (wT x) || decide (cnt (mput [] id 1) (wT x) > 0))
    rw [cnts_in (cnts_one id) (wT x)]
    simp only [List.contains_eq_mem, List.mem_append, Bool.decide_or]
  rw [e]
  have hd := delF_len (pWa (clearL is id)) ws
  cases hh : hasI is id with
  | false =>
    have e1 : clearL is id = [] := by unfold clearL; rw [hh]; rfl
    have e2 : breakL is id = [] := by unfold breakL; rw [hh]; rfl
    rw [e1, e2, wo_nil]
    refine ⟨fun _ => ends_eq _ rfl (by kernel_rfl), fun h => absurd h (by simp)⟩
  | true =>
    have e2 : breakL is id = clearL is id ++ [id] := by unfold breakL; rw [hh]; rfl
    rw [e2]
    generalize clearL is id = q at *
    refine ⟨fun h => absurd h (by simp), fun _ => ⟨hi, hc, hw, rfl, rfl, by omega, ends_eq _ rfl (by kernel_rfl)⟩⟩
def goneF (is is' : Is) : List Int := setS ((is.map fun x : CL cI => iI x).filter fun x => !hasI is' x)
theorem tabGo_ok {Z : Glob} : tabGo.Ok P Z := Tab.Ok.cons find_ok.sum (Tab.Ok.cons (sort_ok.sum mSort) (Tab.Ok.cons (compact_ok.sum mSort) Tab.Ok.nil))
theorem gone_ok {Z : Glob} : FnOk P Z 50 [tSt, tSt] [tNs] (fun ((_, _, _, is, _, _, ()), _, ()) => [(is : Is).length ≤ 1000000]) (fun ((_, _, _, is, _, _, ()), (_, _, _, is', _, _, ()), ()) => (goneF is is', ())) := by
  refine fnOk_of_safe Tryd.func50 (by kernel_rfl) (by kernel_rfl) ?_
  rintro ⟨⟨(ck : Int), (nx : Int), (ps : Ps), (is : Is), (cs : Cs), (ws : Ws), ⟨⟩⟩, ⟨(ck' : Int), (nx' : Int), (ps' : Ps), (is' : Is), (cs' : Cs), (ws' : Ws), ⟨⟩⟩, ⟨⟩⟩ _ ⟨(hi : is.length ≤ 1000000), _⟩ X hX hz
  show Safe P 50 X (Ends [tNs] (goneF is is', ())) _
  have loop : ∀ (j k : Nat) (acc : List Int), k + j = is.length → acc.length ≤ k → acc = ((is.take k).map fun x : CL cI => iI x).filter (fun x => !hasI is' x) → Safe P 50 X (Ends [tNs] (goneF is is', ())) (cGo is ck' nx' ps' is' cs' ws' acc (k : Int)) := by
    intro j
    induction j with
    | zero =>
      intro k acc hk ha he
      rw [List.take_of_length_le (by omega)] at he
      refine go hz hX tabGo_ok Tryd.func50 (loopGo is ck' nx' ps' is' cs' ws' acc k) ⟨fun h => absurd (of_decide_eq_true h) (by omega), fun _ => ⟨rfl, rfl, by omega, rfl, rfl, by rw [srtZ_len]; omega, ?_⟩⟩
      rw [srt_set, he]
      exact ends_eq _ rfl (by kernel_rfl)
    | succ j ih =>
      intro k acc hk ha he
      have hlt : k < is.length := by omega
      refine go hz hX tabGo_ok Tryd.func50 (loopGo is ck' nx' ps' is' cs' ws' acc k) ?_
      rw [el_lt hlt]
      have st : ((is.take (k + 1)).map fun x : CL cI => iI x).filter (fun x => !hasI is' x) = acc ++ (if hasI is' (iI is[k]) = true then [] else [iI is[k]]) := by
        rw [List.take_add_one, List.getElem?_eq_getElem hlt, List.map_append, List.filter_append, he]
        congr 1
        cases h : hasI is' (iI is[k]) <;> simp [h]
      have yes : hasI is' (iI is[k]) = false → Safe P 50 X (Ends [tNs] (goneF is is', ())) (cGo is ck' nx' ps' is' cs' ws' (acc ++ [iI is[k]]) ((k : Int) + 1)) := fun h => ih (k + 1) _ (by omega) (by simp; omega) (by rw [st, h]; rfl)
      have no : hasI is' (iI is[k]) = true → Safe P 50 X (Ends [tNs] (goneF is is', ())) (cGo is ck' nx' ps' is' cs' ws' acc ((k : Int) + 1)) := fun h => ih (k + 1) _ (by omega) (by omega) (by rw [st, h]; simp)
      repeat' (with_reducible (first | refine h_eq ?_ | refine h_need ?_ ?_ | refine h_dec (fun _ => ?_) (fun _ => ?_) | refine h_beq (fun _ => ?_) (fun _ => ?_) | refine h_bne (fun _ => ?_) (fun _ => ?_) | refine h_tt ?_ | refine h_ff ?_ | refine h_not ?_ | refine h_ite (fun _ => ?_) (fun _ => ?_) | refine h_both (fun _ => ?_) (fun _ => ?_) | refine h_ret ?_ | refine h_at ?_))
      all_goals first | omega | exact ⟨by omega, by omega⟩ | exact yes (by assumption) | exact no (by assumption) | skip
  refine go hz hX tabGo_ok Tryd.func50 (trGo ck nx ps is cs ws ck' nx' ps' is' cs' ws') ?_
  exact loop is.length 0 [] (by omega) (by simp) (by simp)
end Ds

namespace Ds
open Go Go.Sx Go.Proofs Lf
abbrev nN (x : CL cN) : ByteArray := x.1
abbrev nK (x : CL cN) : Int := x.2.1
abbrev nI (x : CL cN) : Int := x.2.2.1
abbrev nO (x : CL cN) : Int := x.2.2.2.1
abbrev nE (x : CL cN) : Int := x.2.2.2.2.1
abbrev nY (x : CL cN) : ByteArray := x.2.2.2.2.2.1
abbrev nT (x : CL cN) : ByteArray := x.2.2.2.2.2.2.1
abbrev nS (x : CL cN) : ByteArray := x.2.2.2.2.2.2.2.1
abbrev nB (x : CL cN) : Bool := x.2.2.2.2.2.2.2.2.1
abbrev nV (x : CL cN) : List (CL cV) := x.2.2.2.2.2.2.2.2.2.1
abbrev nZ (x : CL cN) : List ByteArray := x.2.2.2.2.2.2.2.2.2.2.1
abbrev fB (x : CL cF) : Int := x.2.1
abbrev pN (x : CL cP) : ByteArray := x.1
abbrev pV (x : CL cP) : List (CL cV) := x.2.1
abbrev pO (x : CL cP) : List (CL cN) := x.2.2.1
abbrev pF (x : CL cP) : List (CL cF) := x.2.2.2.1
abbrev eV : TypeId := 116
abbrev eN : TypeId := 45
abbrev eF : TypeId := 111
def nsVs : List (Nat × Norm) := [(4, ⟨[], [0, 1, 5], 0, []⟩)]
end Ds

namespace Ds
open Go Go.Sx Go.Proofs Lf
theorem trEq (a b : List Int) : run P tab0.sum Tryd.f49 nsVs (start Tryd.f49 [avL a, avL b] []) =
  Tree.ite ((↑a.length : Int) != (↑b.length : Int)) (Tree.ret [] (AV.s (SV.blit false))) (Tree.at (Cfg.mk (sl (26 : Nat) [((0 : Nat), AV.s (SV.ro (Con.ints IntKind.i64 a))), ((1 : Nat), AV.s (SV.ro (Con.ints IntKind.i64 b))), ((5 : Nat), AV.s (SV.int IntKind.i64 (0 : Int)))]) [] (hd Tryd.f49 (4 : Nat)) (Stk.mk none false (0 : Nat) [] (0 : Nat)))) := by kernel_rfl
noncomputable def cEq (a b : List Int) (i : Int) : Cfg := ⟨sl 26 [(0, avL a), (1, avL b), (5, avI i)], [], hd Tryd.f49 4, {}⟩
theorem loopEq (a b : List Int) (i : Int) : run P tab0.sum Tryd.f49 nsVs (cEq a b i) =
  Tree.ite (decide (i < (↑a.length : Int))) (Tree.need ((0 : Int) ≤ i) (Tree.need (i < (↑a.length : Int)) (Tree.need ((0 : Int) ≤ i) (Tree.need (i < (↑b.length : Int)) (Tree.ite (a.getD i.toNat (0 : Int) != b.getD i.toNat (0 : Int)) (Tree.ret [] (AV.s (SV.blit false))) (Tree.need (inI64 (i + (1 : Int))) (Tree.at (Cfg.mk (sl (26 : Nat) [((0 : Nat), AV.s (SV.ro (Con.ints IntKind.i64 a))), ((1 : Nat), AV.s (SV.ro (Con.ints IntKind.i64 b))), ((5 : Nat), AV.s (SV.int IntKind.i64 (i + (1 : Int))))]) [] (hd Tryd.f49 (4 : Nat)) (Stk.mk none false (0 : Nat) [] (0 : Nat)))))))))) (Tree.ret [] (AV.s (SV.blit true))) := by kernel_rfl
def nsLe : List (Nat × Norm) := [(4, ⟨[], [1, 2, 5], 0, []⟩)]
theorem trLe (ck nx : Int) (ps : Ps) (is : Is) (cs : Cs) (ws : Ws) (l : List Int) : run P tab0.sum Tryd.f48 nsLe (start Tryd.f48 [avSt ck nx ps is cs ws, avL l] []) =
  Tree.ite ((↑(List.length is) : Int) != (↑l.length : Int)) (Tree.ret [AObj.own [AV.s (SV.int IntKind.i64 ck), AV.s (SV.int IntKind.i64 nx), AV.s (SV.ro (Con.typ cP ps)), AV.s (SV.ro (Con.typ cI is)), AV.s (SV.ro (Con.typ cC cs)), AV.s (SV.ro (Con.typ cW ws))] (27 : Nat)] (AV.s (SV.blit false))) (Tree.ite ((↑(List.length cs) : Int) != (↑l.length : Int)) (Tree.ret [AObj.own [AV.s (SV.int IntKind.i64 ck), AV.s (SV.int IntKind.i64 nx), AV.s (SV.ro (Con.typ cP ps)), AV.s (SV.ro (Con.typ cI is)), AV.s (SV.ro (Con.typ cC cs)), AV.s (SV.ro (Con.typ cW ws))] (27 : Nat)] (AV.s (SV.blit false))) (Tree.ite (ck != (7 : Int)) (Tree.ret [AObj.own [AV.s (SV.int IntKind.i64 ck), AV.s (SV.int IntKind.i64 nx), AV.s (SV.ro (Con.typ cP ps)), AV.s (SV.ro (Con.typ cI is)), AV.s (SV.ro (Con.typ cC cs)), AV.s (SV.ro (Con.typ cW ws))] (27 : Nat)] (AV.s (SV.blit false))) (Tree.ite (nx != (9 : Int)) (Tree.ret [AObj.own [AV.s (SV.int IntKind.i64 ck), AV.s (SV.int IntKind.i64 nx), AV.s (SV.ro (Con.typ cP ps)), AV.s (SV.ro (Con.typ cI is)), AV.s (SV.ro (Con.typ cC cs)), AV.s (SV.ro (Con.typ cW ws))] (27 : Nat)] (AV.s (SV.blit false))) (Tree.at (Cfg.mk (sl (60 : Nat) [((1 : Nat), AV.s (SV.ro (Con.ints IntKind.i64 l))), ((2 : Nat), AV.ptr (0 : Nat) (0 : Nat)), ((5 : Nat), AV.s (SV.int IntKind.i64 (0 : Int)))]) [AObj.own [AV.s (SV.int IntKind.i64 ck), AV.s (SV.int IntKind.i64 nx), AV.s (SV.ro (Con.typ cP ps)), AV.s (SV.ro (Con.typ cI is)), AV.s (SV.ro (Con.typ cC cs)), AV.s (SV.ro (Con.typ cW ws))] (27 : Nat)] (hd Tryd.f48 (4 : Nat)) (Stk.mk none false (0 : Nat) [] (0 : Nat))))))) := by kernel_rfl
noncomputable def cLe (ck nx : Int) (ps : Ps) (is : Is) (cs : Cs) (ws : Ws) (l : List Int) (i : Int) : Cfg := ⟨sl 60 [(1, avL l), (2, .ptr 0 0), (5, avI i)], [obSt ck nx ps is cs ws], hd Tryd.f48 4, {}⟩
theorem loopLe (ck nx : Int) (ps : Ps) (is : Is) (cs : Cs) (ws : Ws) (l : List Int) (i : Int) : run P tab0.sum Tryd.f48 nsLe (cLe ck nx ps is cs ws l i) =
  Tree.ite (decide (i < (↑l.length : Int))) (Tree.need ((0 : Int) ≤ i) (Tree.need (i < (↑(List.length is) : Int)) (Tree.need ((0 : Int) ≤ i) (Tree.need (i < (↑l.length : Int)) (Tree.ite (iI (el is i) != l.getD i.toNat (0 : Int)) (Tree.ret [AObj.own [AV.s (SV.int IntKind.i64 ck), AV.s (SV.int IntKind.i64 nx), AV.s (SV.ro (Con.typ cP ps)), AV.s (SV.ro (Con.typ cI is)), AV.s (SV.ro (Con.typ cC cs)), AV.s (SV.ro (Con.typ cW ws))] (27 : Nat)] (AV.s (SV.blit false))) (Tree.need ((0 : Int) ≤ i) (Tree.need (i < (↑(List.length cs) : Int)) (Tree.need ((0 : Int) ≤ i) (Tree.need (i < (↑l.length : Int)) (Tree.ite (lS (el cs i) != l.getD i.toNat (0 : Int)) (Tree.ret [AObj.own [AV.s (SV.int IntKind.i64 ck), AV.s (SV.int IntKind.i64 nx), AV.s (SV.ro (Con.typ cP ps)), AV.s (SV.ro (Con.typ cI is)), AV.s (SV.ro (Con.typ cC cs)), AV.s (SV.ro (Con.typ cW ws))] (27 : Nat)] (AV.s (SV.blit false))) (Tree.need (inI64 (i + (1 : Int))) (Tree.at (Cfg.mk (sl (60 : Nat) [((1 : Nat), AV.s (SV.ro (Con.ints IntKind.i64 l))), ((2 : Nat), AV.ptr (0 : Nat) (0 : Nat)), ((5 : Nat), AV.s (SV.int IntKind.i64 (i + (1 : Int))))]) [AObj.own [AV.s (SV.int IntKind.i64 ck), AV.s (SV.int IntKind.i64 nx), AV.s (SV.ro (Con.typ cP ps)), AV.s (SV.ro (Con.typ cI is)), AV.s (SV.ro (Con.typ cC cs)), AV.s (SV.ro (Con.typ cW ws))] (27 : Nat)] (hd Tryd.f48 (4 : Nat)) (Stk.mk none false (0 : Nat) [] (0 : Nat))))))))))))))) (Tree.ret [AObj.own [AV.s (SV.int IntKind.i64 ck), AV.s (SV.int IntKind.i64 nx), AV.s (SV.ro (Con.typ cP ps)), AV.s (SV.ro (Con.typ cI is)), AV.s (SV.ro (Con.typ cC cs)), AV.s (SV.ro (Con.typ cW ws))] (27 : Nat)] (AV.s (SV.blit true))) := by kernel_rfl
theorem trLg (ck nx : Int) (ps : Ps) (is : Is) (cs : Cs) (ws : Ws) : run P tab0.sum Tryd.f21 [] (start Tryd.f21 [avSt ck nx ps is cs ws] []) =
  Tree.ite (decide ((↑(List.length is) : Int) > (170 : Int))) (Tree.ret [AObj.own [AV.s (SV.int IntKind.i64 ck), AV.s (SV.int IntKind.i64 nx), AV.s (SV.ro (Con.typ cP ps)), AV.s (SV.ro (Con.typ cI is)), AV.s (SV.ro (Con.typ cC cs)), AV.s (SV.ro (Con.typ cW ws))] (27 : Nat)] (AV.s (SV.blit true))) (Tree.ite (decide ((↑(List.length cs) : Int) > (300 : Int))) (Tree.ret [AObj.own [AV.s (SV.int IntKind.i64 ck), AV.s (SV.int IntKind.i64 nx), AV.s (SV.ro (Con.typ cP ps)), AV.s (SV.ro (Con.typ cI is)), AV.s (SV.ro (Con.typ cC cs)), AV.s (SV.ro (Con.typ cW ws))] (27 : Nat)] (AV.s (SV.blit true))) (Tree.ite (decide ((↑(List.length ws) : Int) > (300 : Int))) (Tree.ret [AObj.own [AV.s (SV.int IntKind.i64 ck), AV.s (SV.int IntKind.i64 nx), AV.s (SV.ro (Con.typ cP ps)), AV.s (SV.ro (Con.typ cI is)), AV.s (SV.ro (Con.typ cC cs)), AV.s (SV.ro (Con.typ cW ws))] (27 : Nat)] (AV.s (SV.blit true))) (Tree.ret [AObj.own [AV.s (SV.int IntKind.i64 ck), AV.s (SV.int IntKind.i64 nx), AV.s (SV.ro (Con.typ cP ps)), AV.s (SV.ro (Con.typ cI is)), AV.s (SV.ro (Con.typ cC cs)), AV.s (SV.ro (Con.typ cW ws))] (27 : Nat)] (AV.s (SV.bool (decide ((↑(List.length ps) : Int) > (12 : Int)))))))) := by kernel_rfl
def nsTo : List (Nat × Norm) := [(unrollKey + 3, ⟨[], [], 0, []⟩)]
theorem trTo  : run P tab0.sum Tryd.f47 nsTo (start Tryd.f47 [] []) =
  Tree.need ((1 : Nat) * (56 : Nat) ≤ (140737488355328 : Nat))
  (Tree.need ((1 : Nat) * (64 : Nat) ≤ (140737488355328 : Nat))
    (Tree.need (((1 : Nat) + (1 : Nat)) * (56 : Nat) ≤ (140737488355328 : Nat)) (Tree.need (((1 : Nat) + (1 : Nat)) * (64 : Nat) ≤ (140737488355328 : Nat)) (Tree.need (((2 : Nat) + (1 : Nat)) * (56 : Nat) ≤ (140737488355328 : Nat)) (Tree.need (((2 : Nat) + (1 : Nat)) * (64 : Nat) ≤ (140737488355328 : Nat)) (Tree.need (((3 : Nat) + (1 : Nat)) * (56 : Nat) ≤ (140737488355328 : Nat)) (Tree.need (((3 : Nat) + (1 : Nat)) * (64 : Nat) ≤ (140737488355328 : Nat)) (Tree.need (((4 : Nat) + (1 : Nat)) * (56 : Nat) ≤ (140737488355328 : Nat)) (Tree.need (((4 : Nat) + (1 : Nat)) * (64 : Nat) ≤ (140737488355328 : Nat)) (Tree.ret [AObj.own [AV.s (SV.ilit IntKind.i64 (7 : Int)), AV.s (SV.ilit IntKind.i64 (9 : Int)), AV.emp, AV.vec (1 : Nat), AV.vec (20 : Nat), AV.vec (22 : Nat)] (27 : Nat), AObj.vec (Con.typ cI [((1 : Int), (0 : Int), (1 : Int), ByteArray.empty, (-1 : Int), (0 : Int), (0 : Int), ByteArray.empty, ()), ((2 : Int), (1 : Int), (2 : Int), ByteArray.empty, (0 : Int), (0 : Int), (0 : Int), ByteArray.empty, ()), ((3 : Int), (2 : Int), (1 : Int), ByteArray.empty, (0 : Int), (0 : Int), (0 : Int), ByteArray.empty, ()), ((4 : Int), (3 : Int), (2 : Int), ByteArray.empty, (0 : Int), (0 : Int), (0 : Int), ByteArray.empty, ()), ((5 : Int), (1 : Int), (2 : Int), ByteArray.empty, (0 : Int), (0 : Int), (0 : Int), ByteArray.empty, ())]) (31 : Nat), AObj.own [AV.s (SV.ilit IntKind.i64 (7 : Int)), AV.s (SV.ilit IntKind.i64 (9 : Int)), AV.emp, AV.vec (1 : Nat), AV.vec (20 : Nat), AV.vec (22 : Nat)] (27 : Nat), AObj.vec (Con.typ cC [((1 : Int), ByteArray.mk #[(120 : UInt8)], (0 : Int), (0 : Int), ByteArray.empty, ())]) (82 : Nat), AObj.dead, AObj.vec (Con.typ cW [((11 : Int), (1 : Int), (0 : Int), (0 : Int), ByteArray.empty, (0 : Int), false, ())]) (85 : Nat), AObj.dead, AObj.vec (Con.typ cC [((2 : Int), ByteArray.mk #[(120 : UInt8)], (0 : Int), (0 : Int), ByteArray.empty, ())]) (82 : Nat), AObj.dead, AObj.vec (Con.typ cW [((12 : Int), (2 : Int), (0 : Int), (0 : Int), ByteArray.empty, (0 : Int), false, ())]) (85 : Nat), AObj.dead, AObj.vec (Con.typ cC [((3 : Int), ByteArray.mk #[(120 : UInt8)], (0 : Int), (0 : Int), ByteArray.empty, ())]) (82 : Nat), AObj.dead, AObj.vec (Con.typ cW [((13 : Int), (3 : Int), (0 : Int), (0 : Int), ByteArray.empty, (0 : Int), false, ())]) (85 : Nat), AObj.dead, AObj.vec (Con.typ cC [((4 : Int), ByteArray.mk #[(120 : UInt8)], (0 : Int), (0 : Int), ByteArray.empty, ())]) (82 : Nat), AObj.dead, AObj.vec (Con.typ cW [((14 : Int), (4 : Int), (0 : Int), (0 : Int), ByteArray.empty, (0 : Int), false, ())]) (85 : Nat), AObj.dead, AObj.vec (Con.typ cC [((5 : Int), ByteArray.mk #[(120 : UInt8)], (0 : Int), (0 : Int), ByteArray.empty, ())]) (82 : Nat), AObj.vec (Con.typ cC ([((1 : Int), ByteArray.mk #[(120 : UInt8)], (0 : Int), (0 : Int), ByteArray.empty, ())] ++ [((2 : Int), ByteArray.mk #[(120 : UInt8)], (0 : Int), (0 : Int), ByteArray.empty, ())] ++ [((3 : Int), ByteArray.mk #[(120 : UInt8)], (0 : Int), (0 : Int), ByteArray.empty, ())] ++ [((4 : Int), ByteArray.mk #[(120 : UInt8)], (0 : Int), (0 : Int), ByteArray.empty, ())] ++ [((5 : Int), ByteArray.mk #[(120 : UInt8)], (0 : Int), (0 : Int), ByteArray.empty, ())])) (82 : Nat), AObj.vec (Con.typ cW [((15 : Int), (5 : Int), (0 : Int), (0 : Int), ByteArray.empty, (0 : Int), false, ())]) (85 : Nat), AObj.vec (Con.typ cW ([((11 : Int), (1 : Int), (0 : Int), (0 : Int), ByteArray.empty, (0 : Int), false, ())] ++ [((12 : Int), (2 : Int), (0 : Int), (0 : Int), ByteArray.empty, (0 : Int), false, ())] ++ [((13 : Int), (3 : Int), (0 : Int), (0 : Int), ByteArray.empty, (0 : Int), false, ())] ++ [((14 : Int), (4 : Int), (0 : Int), (0 : Int), ByteArray.empty, (0 : Int), false, ())] ++ [((15 : Int), (5 : Int), (0 : Int), (0 : Int), ByteArray.empty, (0 : Int), false, ())])) (85 : Nat)] (AV.agg [AV.s (SV.ilit IntKind.i64 (7 : Int)), AV.s (SV.ilit IntKind.i64 (9 : Int)), AV.emp, AV.vec (1 : Nat), AV.vec (20 : Nat), AV.vec (22 : Nat)]))))))))))) := by kernel_rfl
end Ds

namespace Ds
open Go Go.Sx Go.Proofs Lf
/-! processes and nodes: what is found -/
abbrev tNoR : Ty := .st [.str, .int .u8, .int .i64, .int .i64, .int .u8, .str, .str, .str, .bool, .rrow (.typ cV) eV, .rrow .strs 9]
abbrev tPrr : Ty := .st [.str, .rrow (.typ cV) eV, .rrow (.typ cN) eN, .rrow (.typ cF) eF]
abbrev obNo (x : CL cN) : AObj := .own [.s (.str (nN x)), .s (.int .u8 (nK x)), avI (nI x), avI (nO x), .s (.int .u8 (nE x)), .s (.str (nY x)), .s (.str (nT x)), .s (.str (nS x)), .s (.bool (nB x)), .s (.ro (.typ cV (nV x))), .s (.ro (.strs (nZ x)))] eN
/-! Def -/
abbrev fIp : FuncId := 37
def nsDf : List (Nat × Norm) := [((fIp + 1) * 100000 + 2, ⟨[], [0, 1, 7, 8, 21, 23, 24], 2, []⟩)]
abbrev inDf : List FuncId := [fIp, 38]
theorem trDf (ck nx : Int) (ps : Ps) (is : Is) (cs : Cs) (ws : Ws) (id : ByteArray) : run P tab0.sum Tryd.f14 nsDf (start Tryd.f14 [avSt ck nx ps is cs ws, .s (.str id)] []) inDf =
  Tree.at (Cfg.mk (sl (38 : Nat) [((0 : Nat), AV.s (SV.ro (Con.typ cP ps))), ((1 : Nat), AV.fn (38 : Nat) [AV.ptr (1 : Nat) (0 : Nat)]), ((7 : Nat), AV.s (SV.int IntKind.i64 (↑(List.length ps) : Int))), ((8 : Nat), AV.s (SV.int IntKind.i64 (0 : Int))), ((21 : Nat), AV.ptr (0 : Nat) (0 : Nat)), ((23 : Nat), AV.ptr (2 : Nat) (0 : Nat)), ((24 : Nat), AV.s (SV.bool false))]) [AObj.own [AV.s (SV.int IntKind.i64 ck), AV.s (SV.int IntKind.i64 nx), AV.s (SV.ro (Con.typ cP ps)), AV.s (SV.ro (Con.typ cI is)), AV.s (SV.ro (Con.typ cC cs)), AV.s (SV.ro (Con.typ cW ws))] (27 : Nat), AObj.own [AV.s (SV.str id)] (9 : Nat), AObj.own [AV.s (SV.str ByteArray.empty), AV.emp, AV.emp, AV.emp] (40 : Nat)] (hd Tryd.f37 (2 : Nat)) (Stk.mk (some (37 : Nat)) false (0 : Nat) [inCall Tryd.f14 none (1 : Nat) (3 : Nat) false (0 : Nat)] (0 : Nat))) := by kernel_rfl
/-! Choose -/
/-! nodes -/
end Ds

namespace Ds
open Go Go.Sx Go.Proofs Lf
noncomputable def cDf (ck nx : Int) (ps : Ps) (is : Is) (cs : Cs) (ws : Ws) (id : ByteArray) (i : Int) : Cfg := ⟨sl 38 [(0, .s (.ro (.typ cP ps))), (1, .fn 38 [.ptr 1 0]), (7, avI (ps.length : Int)), (8, avI i), (21, .ptr 0 0), (23, .ptr 2 0), (24, .s (.bool false))], [obSt ck nx ps is cs ws, .own [.s (.str id)] 9, .own [.s (.str ByteArray.empty), .emp, .emp, .emp] eP], hd Tryd.f37 2, ⟨some fIp, false, 0, [inCall Tryd.f14 none 1 3 false 0], 0⟩⟩
theorem loopDf (ck nx : Int) (ps : Ps) (is : Is) (cs : Cs) (ws : Ws) (id : ByteArray) (i : Int) : run P tab0.sum Tryd.f14 nsDf (cDf ck nx ps is cs ws id i) inDf =
  Tree.ite (decide (i < (↑(List.length ps) : Int))) (Tree.need ((0 : Int) ≤ i) (Tree.need (i < (↑(List.length ps) : Int)) (Tree.ite (decide (pN (el ps i) = id)) (Tree.ite (decide (i < (0 : Int))) (Tree.ret [AObj.own [AV.s (SV.int IntKind.i64 ck), AV.s (SV.int IntKind.i64 nx), AV.s (SV.ro (Con.typ cP ps)), AV.s (SV.ro (Con.typ cI is)), AV.s (SV.ro (Con.typ cC cs)), AV.s (SV.ro (Con.typ cW ws))] (27 : Nat), AObj.own [AV.s (SV.str id)] (9 : Nat), AObj.own [AV.s (SV.str ByteArray.empty), AV.emp, AV.emp, AV.emp] (40 : Nat), AObj.own [AV.s (SV.str (pN (el ps i))), AV.s (SV.ro (Con.typ cV (pV (el ps i)))), AV.s (SV.ro (Con.typ cN (pO (el ps i)))), AV.s (SV.ro (Con.typ cF (pF (el ps i))))] (40 : Nat)] (AV.tup [AV.agg [AV.s (SV.str ByteArray.empty), AV.emp, AV.emp, AV.emp], AV.s (SV.blit false)])) (Tree.need ((0 : Int) ≤ i) (Tree.need (i < (↑(List.length ps) : Int)) (Tree.ret [AObj.own [AV.s (SV.int IntKind.i64 ck), AV.s (SV.int IntKind.i64 nx), AV.s (SV.ro (Con.typ cP ps)), AV.s (SV.ro (Con.typ cI is)), AV.s (SV.ro (Con.typ cC cs)), AV.s (SV.ro (Con.typ cW ws))] (27 : Nat), AObj.own [AV.s (SV.str id)] (9 : Nat), AObj.own [AV.s (SV.str (pN (el ps i))), AV.s (SV.ro (Con.typ cV (pV (el ps i)))), AV.s (SV.ro (Con.typ cN (pO (el ps i)))), AV.s (SV.ro (Con.typ cF (pF (el ps i))))] (40 : Nat), AObj.own [AV.s (SV.str (pN (el ps i))), AV.s (SV.ro (Con.typ cV (pV (el ps i)))), AV.s (SV.ro (Con.typ cN (pO (el ps i)))), AV.s (SV.ro (Con.typ cF (pF (el ps i))))] (40 : Nat)] (AV.tup [AV.agg [AV.s (SV.str (pN (el ps i))), AV.s (SV.ro (Con.typ cV (pV (el ps i)))), AV.s (SV.ro (Con.typ cN (pO (el ps i)))), AV.s (SV.ro (Con.typ cF (pF (el ps i))))], AV.s (SV.blit true)]))))) (Tree.need (inI64 (i + (1 : Int))) (Tree.at (Cfg.mk (sl (38 : Nat) [((0 : Nat), AV.s (SV.ro (Con.typ cP ps))), ((1 : Nat), AV.fn (38 : Nat) [AV.ptr (1 : Nat) (0 : Nat)]), ((7 : Nat), AV.s (SV.int IntKind.i64 (↑(List.length ps) : Int))), ((8 : Nat), AV.s (SV.int IntKind.i64 (i + (1 : Int)))), ((21 : Nat), AV.ptr (0 : Nat) (0 : Nat)), ((23 : Nat), AV.ptr (2 : Nat) (0 : Nat)), ((24 : Nat), AV.s (SV.bool false))]) [AObj.own [AV.s (SV.int IntKind.i64 ck), AV.s (SV.int IntKind.i64 nx), AV.s (SV.ro (Con.typ cP ps)), AV.s (SV.ro (Con.typ cI is)), AV.s (SV.ro (Con.typ cC cs)), AV.s (SV.ro (Con.typ cW ws))] (27 : Nat), AObj.own [AV.s (SV.str id)] (9 : Nat), AObj.own [AV.s (SV.str ByteArray.empty), AV.emp, AV.emp, AV.emp] (40 : Nat)] (hd Tryd.f37 (2 : Nat)) (Stk.mk (some (37 : Nat)) false (0 : Nat) [inCall Tryd.f14 none (1 : Nat) (3 : Nat) false (0 : Nat)] (0 : Nat)))))))) (Tree.ret [AObj.own [AV.s (SV.int IntKind.i64 ck), AV.s (SV.int IntKind.i64 nx), AV.s (SV.ro (Con.typ cP ps)), AV.s (SV.ro (Con.typ cI is)), AV.s (SV.ro (Con.typ cC cs)), AV.s (SV.ro (Con.typ cW ws))] (27 : Nat), AObj.own [AV.s (SV.str id)] (9 : Nat), AObj.own [AV.s (SV.str ByteArray.empty), AV.emp, AV.emp, AV.emp] (40 : Nat)] (AV.tup [AV.agg [AV.s (SV.str ByteArray.empty), AV.emp, AV.emp, AV.emp], AV.s (SV.blit false)])) := by kernel_rfl
end Ds

namespace Ds
open Go Go.Sx Go.Proofs Lf
abbrev tU8 : Ty := .b (.int .u8)

def pDf (name : ByteArray) (p : CL cP) : Bool := decide (pN p = name)
def defP (ps : Ps) (name : ByteArray) : Int := idxF (pDf name) ps
def hasP (ps : Ps) (name : ByteArray) : Bool := decide (0 ≤ defP ps name)
def whereP (ps : Ps) (name : ByteArray) : Int := if 0 ≤ defP ps name then defP ps name else ps.length
def getP (ps : Ps) (name : ByteArray) : CL cP := el ps (whereP ps name)
theorem df_end {ps : Ps} {name : ByteArray} (h : defP ps name = -1) : getP ps name = CL.d cP ∧ hasP ps name = false := by
  refine ⟨?_, by unfold hasP; rw [h]; rfl⟩
  show el ps (whereP ps name) = _
  unfold whereP
  rw [if_neg (by omega)]
  show ps.getD (ps.length : Int).toNat (CL.d cP) = _
  simp [List.getD]
theorem def_ok {Z : Glob} : FnOk P Z 14 [tSt, tStr] [tPrr, tBool] (fun _ => []) (fun ((_, _, ps, _, _, _, ()), name, ()) => ((pN (getP ps name), pV (getP ps name), pO (getP ps name), pF (getP ps name), ()), hasP ps name, ())) := by
  refine fnOk_of_safe Tryd.func14 (by kernel_rfl) (by kernel_rfl) ?_
  rintro ⟨⟨(ck : Int), (nx : Int), (ps : Ps), (is : Is), (cs : Cs), (ws : Ws), ⟨⟩⟩, (name : ByteArray), ⟨⟩⟩ ⟨⟨_, _, (hl : ps.length ≤ maxLen), _⟩, _⟩ _ X hX hz
  have hl2 : ps.length ≤ 9223372036854775807 := by unfold maxLen at hl; omega
  show Safe P 14 X (Ends [tPrr, tBool] ((pN (getP ps name), pV (getP ps name), pO (getP ps name), pF (getP ps name), ()), hasP ps name, ())) _
  have loop : ∀ (j k : Nat), k + j = ps.length → (∀ i (hi : i < k) (h2 : i < ps.length), pDf name ps[i] = false) → Safe P 14 X (Ends [tPrr, tBool] ((pN (getP ps name), pV (getP ps name), pO (getP ps name), pF (getP ps name), ()), hasP ps name, ())) (cDf ck nx ps is cs ws name (k : Int)) := by
    intro j
    induction j with
    | zero =>
      intro k hk hi
      have e : defP ps name = -1 := idxF_none fun j hj => hi j (by omega) hj
      obtain ⟨e1, e2⟩ := df_end e
      refine go hz hX Tab.Ok.nil Tryd.func14 (loopDf ck nx ps is cs ws name k) ⟨fun h => absurd (of_decide_eq_true h) (by omega), fun _ => ?_⟩
      rw [e1, e2]; exact ends_eq _ rfl (by kernel_rfl)
    | succ j ih =>
      intro k hk hi
      have hlt : k < ps.length := by omega
      refine go hz hX Tab.Ok.nil Tryd.func14 (loopDf ck nx ps is cs ws name k) (yes_and (decide_eq_true (by omega)) ⟨by omega, by omega, ?_⟩)
      have next := fun h : pDf name ps[k] = false => ih (k + 1) (by omega) fun i h1 h2 => by
        by_cases e : i = k
        · subst e; exact h
        · exact hi i (by omega) h2
      have fin := fun h : pDf name ps[k] = true => idxF_at (p := pDf name) hlt h fun j hj => hi j hj (by omega)
      cases hp : pDf name ps[k] with
      | true =>
        have e : defP ps name = (k : Int) := fin hp
        have e1 : getP ps name = el ps (k : Int) := by
          show el ps (whereP ps name) = _
          unfold whereP
          rw [if_pos (by omega), e]
        have e2 : hasP ps name = true := by unfold hasP; rw [decide_eq_true (by omega)]
        have hp' : pN (el ps (k : Int)) = name := by rw [el_lt hlt]; exact of_decide_eq_true hp
        refine yes_and (decide_eq_true hp') (no_and (decide_eq_false (by omega)) ⟨by omega, by omega, ?_⟩)
        rw [e1, e2]
        generalize el ps (k : Int) = x
        exact ends_eq _ rfl (by kernel_rfl)
      | false =>
        have hp' : ¬ pN (el ps (k : Int)) = name := by rw [el_lt hlt]; exact of_decide_eq_false hp
        exact no_and (decide_eq_false hp') ⟨⟨by omega, by omega⟩, next hp⟩
  exact go hz hX Tab.Ok.nil Tryd.func14 (trDf ck nx ps is cs ws name) (loop ps.length 0 (by omega) fun i hi => absurd hi (Nat.not_lt_zero _))
end Ds

namespace Ds
open Go Go.Sx Go.Proofs Lf
/-! Activity: does a row have a byte -/
abbrev tBs : Ty := .b (.row (.ints .u8) 5)
abbrev avU (n : Int) : AV := .s (.int .u8 n)
abbrev avLu (l : List Int) : AV := .s (.ro (.ints .u8 l))
abbrev fIj8 : FuncId := 82
abbrev inH8 : List FuncId := [fIj8]
def nsH8 : List (Nat × Norm) := [((fIj8 + 1) * 100000 + 2, ⟨[], [0, 1, 7, 8], 0, []⟩)]
theorem trH8 (l : List Int) (x : Int) : run P tab0.sum Tryd.f58 nsH8 (start Tryd.f58 [avLu l, avU x] []) inH8 =
  Tree.at (Cfg.mk (sl (28 : Nat) [((0 : Nat), AV.s (SV.ro (Con.ints IntKind.u8 l))), ((1 : Nat), AV.s (SV.int IntKind.u8 x)), ((7 : Nat), AV.s (SV.int IntKind.i64 (↑l.length : Int))), ((8 : Nat), AV.s (SV.int IntKind.i64 (0 : Int)))]) [] (hd Tryd.f82 (2 : Nat)) (Stk.mk (some (82 : Nat)) false (0 : Nat) [inCall Tryd.f58 none (1 : Nat) (2 : Nat) false (0 : Nat)] (0 : Nat))) := by kernel_rfl
noncomputable def cH8 (l : List Int) (x i : Int) : Cfg := ⟨sl 28 [(0, avLu l), (1, avU x), (7, avI (l.length : Int)), (8, avI i)], [], hd Tryd.f82 2, ⟨some fIj8, false, 0, [inCall Tryd.f58 none 1 2 false 0], 0⟩⟩
theorem loopH8 (l : List Int) (x i : Int) : run P tab0.sum Tryd.f58 nsH8 (cH8 l x i) inH8 =
  Tree.ite (decide (i < (↑l.length : Int))) (Tree.need ((0 : Int) ≤ i) (Tree.need (i < (↑l.length : Int)) (Tree.ite (x == l.getD i.toNat (0 : Int)) (Tree.ret [] (AV.s (SV.bool (decide (i ≥ (0 : Int)))))) (Tree.need (inI64 (i + (1 : Int))) (Tree.at (Cfg.mk (sl (28 : Nat) [((0 : Nat), AV.s (SV.ro (Con.ints IntKind.u8 l))), ((1 : Nat), AV.s (SV.int IntKind.u8 x)), ((7 : Nat), AV.s (SV.int IntKind.i64 (↑l.length : Int))), ((8 : Nat), AV.s (SV.int IntKind.i64 (i + (1 : Int))))]) [] (hd Tryd.f82 (2 : Nat)) (Stk.mk (some (82 : Nat)) false (0 : Nat) [inCall Tryd.f58 none (1 : Nat) (2 : Nat) false (0 : Nat)] (0 : Nat)))))))) (Tree.ret [] (AV.s (SV.blit false))) := by kernel_rfl
abbrev sumH8 := sumOf [tBs, tU8] [tBool] (fun _ => []) (fun (l, x, ()) => ((l : List Int).contains x, ()))
def tabAc : Tab := [(58, sumH8)]
/-! NodeOf, bounds, asides -/
abbrev sumDf := sumR [tSt, tStr] [tPrr, tBool] (fun _ => []) (fun ((_, _, ps, _, _, _, ()), name, ()) => ((pN (getP ps name), pV (getP ps name), pO (getP ps name), pF (getP ps name), ()), hasP ps name, ()))
def tabNo : Tab := [(14, sumDf)]
theorem trNo (ck nx : Int) (ps : Ps) (is : Is) (cs : Cs) (ws : Ws) (x : CL cI) : run P tabNo.sum Tryd.f61 [] (start Tryd.f61 [avSt ck nx ps is cs ws, avIt x] []) =
  Tree.ite (!hasP ps (iP x)) (Tree.ret [AObj.own [AV.s (SV.int IntKind.i64 ck), AV.s (SV.int IntKind.i64 nx), AV.s (SV.ro (Con.typ cP ps)), AV.s (SV.ro (Con.typ cI is)), AV.s (SV.ro (Con.typ cC cs)), AV.s (SV.ro (Con.typ cW ws))] (27 : Nat), AObj.own [AV.s (SV.int IntKind.i64 (iI x)), AV.s (SV.int IntKind.i64 (iU x)), AV.s (SV.int IntKind.u8 (iS x)), AV.s (SV.str (iP x)), AV.s (SV.int IntKind.i64 (iN x)), AV.s (SV.int IntKind.i64 (iF x)), AV.s (SV.int IntKind.u8 (iW x)), AV.s (SV.str (iC x))] (31 : Nat), AObj.own [AV.s (SV.str ByteArray.empty), AV.s (SV.ilit IntKind.u8 (0 : Int)), AV.s (SV.ilit IntKind.i64 (0 : Int)), AV.s (SV.ilit IntKind.i64 (0 : Int)), AV.s (SV.ilit IntKind.u8 (0 : Int)), AV.s (SV.str ByteArray.empty), AV.s (SV.str ByteArray.empty), AV.s (SV.str ByteArray.empty), AV.s (SV.blit false), AV.emp, AV.emp] (45 : Nat), AObj.own [AV.s (SV.str (pN (getP ps (iP x)))), AV.s (SV.ro (Con.typ cV (pV (getP ps (iP x))))), AV.s (SV.ro (Con.typ cN (pO (getP ps (iP x))))), AV.s (SV.ro (Con.typ cF (pF (getP ps (iP x)))))] (40 : Nat)] (AV.tup [AV.agg [AV.s (SV.str ByteArray.empty), AV.s (SV.ilit IntKind.u8 (0 : Int)), AV.s (SV.ilit IntKind.i64 (0 : Int)), AV.s (SV.ilit IntKind.i64 (0 : Int)), AV.s (SV.ilit IntKind.u8 (0 : Int)), AV.s (SV.str ByteArray.empty), AV.s (SV.str ByteArray.empty), AV.s (SV.str ByteArray.empty), AV.s (SV.blit false), AV.emp, AV.emp], AV.s (SV.blit false)]))
  (Tree.ite (decide (iN x < (0 : Int))) (Tree.ret [AObj.own [AV.s (SV.int IntKind.i64 ck), AV.s (SV.int IntKind.i64 nx), AV.s (SV.ro (Con.typ cP ps)), AV.s (SV.ro (Con.typ cI is)), AV.s (SV.ro (Con.typ cC cs)), AV.s (SV.ro (Con.typ cW ws))] (27 : Nat), AObj.own [AV.s (SV.int IntKind.i64 (iI x)), AV.s (SV.int IntKind.i64 (iU x)), AV.s (SV.int IntKind.u8 (iS x)), AV.s (SV.str (iP x)), AV.s (SV.int IntKind.i64 (iN x)), AV.s (SV.int IntKind.i64 (iF x)), AV.s (SV.int IntKind.u8 (iW x)), AV.s (SV.str (iC x))] (31 : Nat), AObj.own [AV.s (SV.str ByteArray.empty), AV.s (SV.ilit IntKind.u8 (0 : Int)), AV.s (SV.ilit IntKind.i64 (0 : Int)), AV.s (SV.ilit IntKind.i64 (0 : Int)), AV.s (SV.ilit IntKind.u8 (0 : Int)), AV.s (SV.str ByteArray.empty), AV.s (SV.str ByteArray.empty), AV.s (SV.str ByteArray.empty), AV.s (SV.blit false), AV.emp, AV.emp] (45 : Nat), AObj.own [AV.s (SV.str (pN (getP ps (iP x)))), AV.s (SV.ro (Con.typ cV (pV (getP ps (iP x))))), AV.s (SV.ro (Con.typ cN (pO (getP ps (iP x))))), AV.s (SV.ro (Con.typ cF (pF (getP ps (iP x)))))] (40 : Nat)] (AV.tup [AV.agg [AV.s (SV.str ByteArray.empty), AV.s (SV.ilit IntKind.u8 (0 : Int)), AV.s (SV.ilit IntKind.i64 (0 : Int)), AV.s (SV.ilit IntKind.i64 (0 : Int)), AV.s (SV.ilit IntKind.u8 (0 : Int)), AV.s (SV.str ByteArray.empty), AV.s (SV.str ByteArray.empty), AV.s (SV.str ByteArray.empty), AV.s (SV.blit false), AV.emp, AV.emp], AV.s (SV.blit false)]))
    (Tree.ite (decide (iN x ≥ (↑(pO (getP ps (iP x))).length : Int))) (Tree.ret [AObj.own [AV.s (SV.int IntKind.i64 ck), AV.s (SV.int IntKind.i64 nx), AV.s (SV.ro (Con.typ cP ps)), AV.s (SV.ro (Con.typ cI is)), AV.s (SV.ro (Con.typ cC cs)), AV.s (SV.ro (Con.typ cW ws))] (27 : Nat), AObj.own [AV.s (SV.int IntKind.i64 (iI x)), AV.s (SV.int IntKind.i64 (iU x)), AV.s (SV.int IntKind.u8 (iS x)), AV.s (SV.str (iP x)), AV.s (SV.int IntKind.i64 (iN x)), AV.s (SV.int IntKind.i64 (iF x)), AV.s (SV.int IntKind.u8 (iW x)), AV.s (SV.str (iC x))] (31 : Nat), AObj.own [AV.s (SV.str ByteArray.empty), AV.s (SV.ilit IntKind.u8 (0 : Int)), AV.s (SV.ilit IntKind.i64 (0 : Int)), AV.s (SV.ilit IntKind.i64 (0 : Int)), AV.s (SV.ilit IntKind.u8 (0 : Int)), AV.s (SV.str ByteArray.empty), AV.s (SV.str ByteArray.empty), AV.s (SV.str ByteArray.empty), AV.s (SV.blit false), AV.emp, AV.emp] (45 : Nat), AObj.own [AV.s (SV.str (pN (getP ps (iP x)))), AV.s (SV.ro (Con.typ cV (pV (getP ps (iP x))))), AV.s (SV.ro (Con.typ cN (pO (getP ps (iP x))))), AV.s (SV.ro (Con.typ cF (pF (getP ps (iP x)))))] (40 : Nat)] (AV.tup [AV.agg [AV.s (SV.str ByteArray.empty), AV.s (SV.ilit IntKind.u8 (0 : Int)), AV.s (SV.ilit IntKind.i64 (0 : Int)), AV.s (SV.ilit IntKind.i64 (0 : Int)), AV.s (SV.ilit IntKind.u8 (0 : Int)), AV.s (SV.str ByteArray.empty), AV.s (SV.str ByteArray.empty), AV.s (SV.str ByteArray.empty), AV.s (SV.blit false), AV.emp, AV.emp], AV.s (SV.blit false)])) (Tree.need ((0 : Int) ≤ iN x) (Tree.need (iN x < (↑(pO (getP ps (iP x))).length : Int)) (Tree.ret [AObj.own [AV.s (SV.int IntKind.i64 ck), AV.s (SV.int IntKind.i64 nx), AV.s (SV.ro (Con.typ cP ps)), AV.s (SV.ro (Con.typ cI is)), AV.s (SV.ro (Con.typ cC cs)), AV.s (SV.ro (Con.typ cW ws))] (27 : Nat), AObj.own [AV.s (SV.int IntKind.i64 (iI x)), AV.s (SV.int IntKind.i64 (iU x)), AV.s (SV.int IntKind.u8 (iS x)), AV.s (SV.str (iP x)), AV.s (SV.int IntKind.i64 (iN x)), AV.s (SV.int IntKind.i64 (iF x)), AV.s (SV.int IntKind.u8 (iW x)), AV.s (SV.str (iC x))] (31 : Nat), AObj.own [AV.s (SV.str (nN (el (pO (getP ps (iP x))) (iN x)))), AV.s (SV.int IntKind.u8 (nK (el (pO (getP ps (iP x))) (iN x)))), AV.s (SV.int IntKind.i64 (nI (el (pO (getP ps (iP x))) (iN x)))), AV.s (SV.int IntKind.i64 (nO (el (pO (getP ps (iP x))) (iN x)))), AV.s (SV.int IntKind.u8 (nE (el (pO (getP ps (iP x))) (iN x)))), AV.s (SV.str (nY (el (pO (getP ps (iP x))) (iN x)))), AV.s (SV.str (nT (el (pO (getP ps (iP x))) (iN x)))), AV.s (SV.str (nS (el (pO (getP ps (iP x))) (iN x)))), AV.s (SV.bool (nB (el (pO (getP ps (iP x))) (iN x)))), AV.s (SV.ro (Con.typ cV (nV (el (pO (getP ps (iP x))) (iN x))))), AV.s (SV.ro (Con.strs (nZ (el (pO (getP ps (iP x))) (iN x)))))] (45 : Nat), AObj.own [AV.s (SV.str (pN (getP ps (iP x)))), AV.s (SV.ro (Con.typ cV (pV (getP ps (iP x))))), AV.s (SV.ro (Con.typ cN (pO (getP ps (iP x))))), AV.s (SV.ro (Con.typ cF (pF (getP ps (iP x)))))] (40 : Nat)] (AV.tup [AV.agg [AV.s (SV.str (nN (el (pO (getP ps (iP x))) (iN x)))), AV.s (SV.int IntKind.u8 (nK (el (pO (getP ps (iP x))) (iN x)))), AV.s (SV.int IntKind.i64 (nI (el (pO (getP ps (iP x))) (iN x)))), AV.s (SV.int IntKind.i64 (nO (el (pO (getP ps (iP x))) (iN x)))), AV.s (SV.int IntKind.u8 (nE (el (pO (getP ps (iP x))) (iN x)))), AV.s (SV.str (nY (el (pO (getP ps (iP x))) (iN x)))), AV.s (SV.str (nT (el (pO (getP ps (iP x))) (iN x)))), AV.s (SV.str (nS (el (pO (getP ps (iP x))) (iN x)))), AV.s (SV.bool (nB (el (pO (getP ps (iP x))) (iN x)))), AV.s (SV.ro (Con.typ cV (nV (el (pO (getP ps (iP x))) (iN x))))), AV.s (SV.ro (Con.strs (nZ (el (pO (getP ps (iP x))) (iN x)))))], AV.s (SV.blit true)])))))) := by kernel_rfl
def nodeAt (ns : List (CL cN)) (n : Int) : CL cN := if 0 ≤ n ∧ n < (ns.length : Int) then el ns n else CL.d cN
theorem h8_ok {Z : Glob} : FnOk P Z 58 [tBs, tU8] [tBool] (fun _ => []) (fun (l, x, ()) => ((l : List Int).contains x, ())) := by
  refine fnOk_of_safe Tryd.func58 (by kernel_rfl) (by kernel_rfl) ?_
  rintro ⟨(l : List Int), (x : Int), ⟨⟩⟩ ⟨(hl : l.length ≤ maxLen), _⟩ _ X hX hz
  have hl2 : l.length ≤ 9223372036854775807 := by unfold maxLen at hl; omega
  show Safe P 58 X (Ends [tBool] (l.contains x, ())) _
  have loop : ∀ (j k : Nat), k + j = l.length → (∀ i (hi : i < k) (h2 : i < l.length), l[i] ≠ x) → Safe P 58 X (Ends [tBool] (l.contains x, ())) (cH8 l x (k : Int)) := by
    intro j
    induction j with
    | zero =>
      intro k hk hi
      have e : l.contains x = false := by
        rw [List.contains_eq_mem, decide_eq_false_iff_not]
        intro h
        obtain ⟨i, h1, h2⟩ := List.mem_iff_getElem.1 h
        exact hi i (by omega) h1 h2
      refine go hz hX Tab.Ok.nil Tryd.func58 (loopH8 l x k) ⟨fun h => absurd (of_decide_eq_true h) (by omega), fun _ => ?_⟩
      rw [e]; exact ends_eq _ rfl (by kernel_rfl)
    | succ j ih =>
      intro k hk hi
      have hlt : k < l.length := by omega
      refine go hz hX Tab.Ok.nil Tryd.func58 (loopH8 l x k) ?_
      rw [Int.toNat_natCast, getD_lt hlt]
      have next := fun h : l[k] ≠ x => ih (k + 1) (by omega) fun i h1 h2 => by
        by_cases e : i = k
        · subst e; exact h
        · exact hi i (by omega) h2
      have hit : x = l[k] → l.contains x = true := fun h => by rw [List.contains_eq_mem, decide_eq_true_iff, h]; exact List.getElem_mem hlt
      repeat' (with_reducible (first | refine h_eq ?_ | refine h_need ?_ ?_ | refine h_dec (fun _ => ?_) (fun _ => ?_) | refine h_beq (fun _ => ?_) (fun _ => ?_) | refine h_bne (fun _ => ?_) (fun _ => ?_) | refine h_tt ?_ | refine h_ff ?_ | refine h_not ?_ | refine h_ite (fun _ => ?_) (fun _ => ?_) | refine h_both (fun _ => ?_) (fun _ => ?_) | refine h_ret ?_ | refine h_at ?_))
      all_goals first | omega | exact ⟨by omega, by omega⟩ | skip
      · rename_i h
        have e1 : decide ((k : Int) ≥ 0) = true := decide_eq_true (by omega)
        rw [hit (by simpa using h), e1]; exact ends_eq _ rfl (by kernel_rfl)
      · rename_i h; exact next (fun e => by simp [e] at h)
  refine go hz hX Tab.Ok.nil Tryd.func58 (trH8 l x) ?_
  exact loop l.length 0 (by omega) fun i hi => absurd hi (Nat.not_lt_zero _)
theorem tabAc_ok {Z : Glob} : tabAc.Ok P Z := Tab.Ok.cons h8_ok.sum Tab.Ok.nil
end Ds

namespace Ds
open Go Go.Sx Go.Proofs Lf
def ndF (ps : Ps) (name : ByteArray) (n : Int) : CL cN := nodeAt (pO (getP ps name)) n
def hasN (ps : Ps) (name : ByteArray) (n : Int) : Bool := decide (0 ≤ n ∧ n < ((pO (getP ps name)).length : Int))
abbrev noT (x : CL cN) : Ty.V tNoR := (nN x, nK x, nI x, nO x, nE x, nY x, nT x, nS x, nB x, nV x, nZ x, ())
abbrev sumNo := sumR [tSt, tIt] [tNoR, tBool] (fun _ => []) (fun ((_, _, ps, _, _, _, ()), x, ()) => (noT (ndF ps (iP x) (iN x)), hasN ps (iP x) (iN x), ()))
theorem tabNo_ok {Z : Glob} : tabNo.Ok P Z := Tab.Ok.cons def_ok.sumR Tab.Ok.nil
theorem no_proc {ps : Ps} {name : ByteArray} (h : hasP ps name = false) : getP ps name = CL.d cP := by
  refine (df_end ?_).1
  have h1 : ¬ 0 ≤ defP ps name := of_decide_eq_false h
  rcases idxF_spec (p := pDf name) (l := ps) with ⟨h2, _⟩ | ⟨i, h2, _⟩
  · exact h2
  · exact absurd (show 0 ≤ defP ps name by unfold defP; omega) h1
theorem node_ok {Z : Glob} : FnOk P Z 61 [tSt, tIt] [tNoR, tBool] (fun _ => []) (fun ((_, _, ps, _, _, _, ()), x, ()) => (noT (ndF ps (iP x) (iN x)), hasN ps (iP x) (iN x), ())) := by
  refine fnOk_of_safe Tryd.func61 (by kernel_rfl) (by kernel_rfl) ?_
  rintro ⟨⟨(ck : Int), (nx : Int), (ps : Ps), (is : Is), (cs : Cs), (ws : Ws), ⟨⟩⟩, (x : CL cI), ⟨⟩⟩ _ _ X hX hz
  show Safe P 61 X (Ends [tNoR, tBool] (noT (ndF ps (iP x) (iN x)), hasN ps (iP x) (iN x), ())) _
  have nil : ∀ (h : ¬ (0 ≤ iN x ∧ iN x < ((pO (getP ps (iP x))).length : Int))), ndF ps (iP x) (iN x) = CL.d cN ∧ hasN ps (iP x) (iN x) = false := fun h => ⟨by unfold ndF nodeAt; rw [if_neg h], decide_eq_false h⟩
  refine go hz hX tabNo_ok Tryd.func61 (trNo ck nx ps is cs ws x) ⟨fun h => ?_, fun h => ⟨fun h2 => ?_, fun h2 => ⟨fun h3 => ?_, fun h3 => ⟨by have := of_decide_eq_false h2; omega, by have := of_decide_eq_false h3; omega, ?_⟩⟩⟩⟩
  · obtain ⟨e1, e2⟩ := nil (by rw [no_proc (by simpa using h)]; rintro ⟨_, h5⟩; have h6 : ((pO (CL.d cP)).length : Int) = 0 := rfl; omega)
    rw [e1, e2]; exact ends_eq _ rfl (by kernel_rfl)
  · obtain ⟨e1, e2⟩ := nil (by have := of_decide_eq_true h2; omega)
    rw [e1, e2]; exact ends_eq _ rfl (by kernel_rfl)
  · obtain ⟨e1, e2⟩ := nil (by have := of_decide_eq_true h3; omega)
    rw [e1, e2]; exact ends_eq _ rfl (by kernel_rfl)
  · have h4 : 0 ≤ iN x ∧ iN x < ((pO (getP ps (iP x))).length : Int) := ⟨by have := of_decide_eq_false h2; omega, by have := of_decide_eq_false h3; omega⟩
    have e1 : ndF ps (iP x) (iN x) = el (pO (getP ps (iP x))) (iN x) := by unfold ndF nodeAt; rw [if_pos h4]
    have e2 : hasN ps (iP x) (iN x) = true := decide_eq_true h4
    rw [e1, e2]
    exact ends_eq _ rfl (by kernel_rfl)
end Ds

namespace Ds
open Go Go.Sx Go.Proofs Lf
end Ds

namespace Ds
open Go Go.Sx Go.Proofs Lf
end Ds

namespace Ds
open Go Go.Sx Go.Proofs Lf
def hN (o : Option (Int × Int)) : Int := match o with | some x => x.2 | none => 0
theorem has_item {is : Is} {id : Int} (h : hasI is id = true) : gI is id = id ∧ id ∈ is.map iI ∧ getI is id ∈ is := by
  have h0 : 0 ≤ placeF is id := of_decide_eq_true h
  rcases place_range is id with ⟨e, _⟩ | ⟨_, h1, h2, h3⟩
  · omega
  · have e : getI is id = is[(placeF is id).toNat] := by
      show el is (whereF is id) = _
      unfold whereF
      rw [if_pos h0]
      exact getD_lt h2
    refine ⟨by unfold gI; rw [e]; exact h3, ?_, by rw [e]; exact List.getElem_mem h2⟩
    rw [← h3]
    exact List.mem_map_of_mem (List.getElem_mem h2)
end Ds

namespace Ds
open Go Go.Sx Go.Proofs Lf
end Ds

namespace Ds
open Go Go.Sx Go.Proofs Lf
end Ds

namespace Ds
open Go Go.Sx Go.Proofs Lf
/-! arena.Same, of equal states -/
end Ds

namespace Ds
open Go Go.Sx Go.Proofs Lf
end Ds

namespace Ds
open Go Go.Sx Go.Proofs Lf
end Ds

namespace Ds
open Go Go.Sx Go.Proofs Lf
/-! Depth -/
abbrev fU1 : FuncId := 64
abbrev inDp : List FuncId := [39, fU1]
def tabDp : Tab := [(35, sumPl)]
def nsDp : List (Nat × Norm) := [((fU1 + 1) * 100000 + 2, ⟨[], [0, 1, 2, 4, 5, 44, 56, 57], 0, []⟩)]
theorem trDp (ck nx : Int) (ps : Ps) (is : Is) (cs : Cs) (ws : Ws) (id : Int) : run P tabDp.sum Tryd.f15 nsDp (start Tryd.f15 [avSt ck nx ps is cs ws, avI id] []) inDp =
  Tree.at (Cfg.mk (sl (58 : Nat) [((0 : Nat), AV.tag (0 : Nat)), ((1 : Nat), AV.ptr (1 : Nat) (0 : Nat)), ((2 : Nat), AV.ptr (2 : Nat) (0 : Nat)), ((4 : Nat), AV.mapv (3 : Nat)), ((5 : Nat), AV.s (SV.int IntKind.i64 (placeF is id))), ((44 : Nat), AV.ptr (4 : Nat) (0 : Nat)), ((56 : Nat), AV.tag (5 : Nat)), ((57 : Nat), AV.tag (0 : Nat))]) [AObj.dead, AObj.own [AV.s (SV.int IntKind.i64 ck), AV.s (SV.int IntKind.i64 nx), AV.s (SV.ro (Con.typ cP ps)), AV.s (SV.ro (Con.typ cI is)), AV.s (SV.ro (Con.typ cC cs)), AV.s (SV.ro (Con.typ cW ws))] (27 : Nat), AObj.own [AV.s (SV.int IntKind.i64 id)] (3 : Nat), AObj.map (CK.int IntKind.i64) [], AObj.own [AV.s (SV.int IntKind.i64 (0 : Int))] (3 : Nat), AObj.dead] (hd Tryd.f64 (2 : Nat)) (Stk.mk (some (64 : Nat)) false (0 : Nat) [inRange Tryd.f15 none (4 : Nat) (1 : Nat)] (0 : Nat))) := by kernel_rfl
noncomputable def cDp (ck nx : Int) (ps : Ps) (is : Is) (cs : Cs) (ws : Ws) (id i n : Int) (m : Mp) : Cfg := ⟨sl 58 [(0, .tag 0), (1, .ptr 1 0), (2, .ptr 2 0), (4, .mapv 3), (5, avI i), (44, .ptr 4 0), (56, .tag 5), (57, .tag 0)], [.dead, obSt ck nx ps is cs ws, .own [avI id] 3, .map kM m, .own [avI n] 3, .dead], hd Tryd.f64 2, ⟨some fU1, false, 0, [inRange Tryd.f15 none 4 1], 0⟩⟩
theorem loopDp (ck nx : Int) (ps : Ps) (is : Is) (cs : Cs) (ws : Ws) (id i n : Int) (m : Mp) : run P tabDp.sum Tryd.f15 nsDp (cDp ck nx ps is cs ws id i n m) inDp =
  Tree.ite (decide (i ≥ (0 : Int))) (Tree.ite ((mget m id).getD (CK.int IntKind.i64).d == (0 : Int)) (Tree.need (inI64 ((mget m id).getD (CK.int IntKind.i64).d + (1 : Int))) (Tree.need ((0 : Int) ≤ i) (Tree.need (i < (↑(List.length is) : Int)) (Tree.ite (iS (el is i) == (1 : Int)) (Tree.need (inI64 (n + (1 : Int))) (Tree.need ((0 : Int) ≤ i) (Tree.need (i < (↑(List.length is) : Int)) (Tree.at (Cfg.mk (sl (58 : Nat) [((0 : Nat), AV.tag (0 : Nat)), ((1 : Nat), AV.ptr (1 : Nat) (0 : Nat)), ((2 : Nat), AV.ptr (2 : Nat) (0 : Nat)), ((4 : Nat), AV.mapv (3 : Nat)), ((5 : Nat), AV.s (SV.int IntKind.i64 (placeF is (iU (el is i))))), ((44 : Nat), AV.ptr (4 : Nat) (0 : Nat)), ((56 : Nat), AV.tag (5 : Nat)), ((57 : Nat), AV.tag (0 : Nat))]) [AObj.dead, AObj.own [AV.s (SV.int IntKind.i64 ck), AV.s (SV.int IntKind.i64 nx), AV.s (SV.ro (Con.typ cP ps)), AV.s (SV.ro (Con.typ cI is)), AV.s (SV.ro (Con.typ cC cs)), AV.s (SV.ro (Con.typ cW ws))] (27 : Nat), AObj.own [AV.s (SV.int IntKind.i64 (iU (el is i)))] (3 : Nat), AObj.map (CK.int IntKind.i64) (mput m id ((mget m id).getD (CK.int IntKind.i64).d + (1 : Int))), AObj.own [AV.s (SV.int IntKind.i64 (n + (1 : Int)))] (3 : Nat), AObj.dead] (hd Tryd.f64 (2 : Nat)) (Stk.mk (some (64 : Nat)) false (0 : Nat) [inRange Tryd.f15 none (4 : Nat) (1 : Nat)] (0 : Nat))))))) (Tree.need ((0 : Int) ≤ i) (Tree.need (i < (↑(List.length is) : Int)) (Tree.at (Cfg.mk (sl (58 : Nat) [((0 : Nat), AV.tag (0 : Nat)), ((1 : Nat), AV.ptr (1 : Nat) (0 : Nat)), ((2 : Nat), AV.ptr (2 : Nat) (0 : Nat)), ((4 : Nat), AV.mapv (3 : Nat)), ((5 : Nat), AV.s (SV.int IntKind.i64 (placeF is (iU (el is i))))), ((44 : Nat), AV.ptr (4 : Nat) (0 : Nat)), ((56 : Nat), AV.tag (5 : Nat)), ((57 : Nat), AV.tag (0 : Nat))]) [AObj.dead, AObj.own [AV.s (SV.int IntKind.i64 ck), AV.s (SV.int IntKind.i64 nx), AV.s (SV.ro (Con.typ cP ps)), AV.s (SV.ro (Con.typ cI is)), AV.s (SV.ro (Con.typ cC cs)), AV.s (SV.ro (Con.typ cW ws))] (27 : Nat), AObj.own [AV.s (SV.int IntKind.i64 (iU (el is i)))] (3 : Nat), AObj.map (CK.int IntKind.i64) (mput m id ((mget m id).getD (CK.int IntKind.i64).d + (1 : Int))), AObj.own [AV.s (SV.int IntKind.i64 n)] (3 : Nat), AObj.dead] (hd Tryd.f64 (2 : Nat)) (Stk.mk (some (64 : Nat)) false (0 : Nat) [inRange Tryd.f15 none (4 : Nat) (1 : Nat)] (0 : Nat)))))))))) (Tree.ret [AObj.dead, AObj.own [AV.s (SV.int IntKind.i64 ck), AV.s (SV.int IntKind.i64 nx), AV.s (SV.ro (Con.typ cP ps)), AV.s (SV.ro (Con.typ cI is)), AV.s (SV.ro (Con.typ cC cs)), AV.s (SV.ro (Con.typ cW ws))] (27 : Nat), AObj.own [AV.s (SV.int IntKind.i64 id)] (3 : Nat), AObj.map (CK.int IntKind.i64) m, AObj.own [AV.s (SV.int IntKind.i64 n)] (3 : Nat), AObj.dead] (AV.s (SV.int IntKind.i64 n)))) (Tree.ret [AObj.dead, AObj.own [AV.s (SV.int IntKind.i64 ck), AV.s (SV.int IntKind.i64 nx), AV.s (SV.ro (Con.typ cP ps)), AV.s (SV.ro (Con.typ cI is)), AV.s (SV.ro (Con.typ cC cs)), AV.s (SV.ro (Con.typ cW ws))] (27 : Nat), AObj.own [AV.s (SV.int IntKind.i64 id)] (3 : Nat), AObj.map (CK.int IntKind.i64) m, AObj.own [AV.s (SV.int IntKind.i64 n)] (3 : Nat), AObj.dead] (AV.s (SV.int IntKind.i64 n))) := by kernel_rfl
end Ds

namespace Ds
open Go Go.Sx Go.Proofs Lf
def depthGo (is : Is) : Nat → Int → List Int → Nat
  | 0, _, _ => 0
  | n + 1, id, seen => if hasI is id = true ∧ id ∉ seen then (if gS is id = 1 then 1 else 0) + depthGo is n (gU is id) (seen ++ [id]) else 0
def depthF (is : Is) (id : Int) : Int := (depthGo is (is.length + 1) id [] : Nat)
abbrev sumDp := sumOf [tSt, tInt] [tInt] (fun _ => []) (fun ((_, _, _, is, _, _, ()), id, ()) => (depthF is id, ()))
end Ds

namespace Ds
open Go Go.Sx Go.Proofs Lf
theorem el_has {is : Is} {id : Int} (h : hasI is id = true) : getI is id = el is (placeF is id) := by
  show el is (whereF is id) = _
  unfold whereF
  rw [if_pos (of_decide_eq_true h)]
theorem tabDp_ok {Z : Glob} : tabDp.Ok P Z := Tab.Ok.cons place_ok.sum Tab.Ok.nil
theorem depthGo_succ (is : Is) (n : Nat) (id : Int) (seen : List Int) : depthGo is (n + 1) id seen = if hasI is id = true ∧ id ∉ seen then (if gS is id = 1 then 1 else 0) + depthGo is n (gU is id) (seen ++ [id]) else 0 := rfl
theorem depth_ok {Z : Glob} : FnOk P Z 15 [tSt, tInt] [tInt] (fun _ => []) (fun ((_, _, _, is, _, _, ()), id, ()) => (depthF is id, ())) := by
  refine fnOk_of_safe Tryd.func15 (by kernel_rfl) (by kernel_rfl) ?_
  rintro ⟨⟨(ck : Int), (nx : Int), (ps : Ps), (is : Is), (cs : Cs), (ws : Ws), ⟨⟩⟩, (id : Int), ⟨⟩⟩ ⟨⟨_, _, _, (hl : is.length ≤ maxLen), _⟩, _⟩ _ X hX hz
  have hl2 : is.length ≤ 9223372036854775807 := by unfold maxLen at hl; omega
  show Safe P 15 X (Ends [tInt] (depthF is id, ())) _
  have loop : ∀ (k : Nat) (id : Int) (seen : List Int) (m : Mp) (n R : Int), Marks m seen → seen.Nodup → (∀ y ∈ seen, y ∈ is.map iI) → is.length < k + seen.length → 0 ≤ n → n ≤ seen.length → R = n + (depthGo is k id seen : Nat) →
      Safe P 15 X (Ends [tInt] (R, ())) (cDp ck nx ps is cs ws id (placeF is id) n m) := by
    intro k
    induction k with
    | zero =>
      intro id seen m n R _ hnd hsub hlt _ _ _
      have := nodup_len hnd hsub
      rw [List.length_map] at this
      omega
    | succ k ih =>
      intro id seen m n R hm hnd hsub hlt h0 hn hR
      have none_ : ¬ (hasI is id = true ∧ id ∉ seen) → R = n := fun h => by rw [hR, depthGo_succ, if_neg h]; simp
      refine go hz hX tabDp_ok Tryd.func15 (loopDp ck nx ps is cs ws id (placeF is id) n m) ?_
      cases hh : hasI is id with
      | false =>
        have h1 : ¬ 0 ≤ placeF is id := of_decide_eq_false hh
        rw [none_ (by rw [hh]; simp)]
        exact no_and (decide_eq_false (by omega)) (ends_eq _ rfl (by kernel_rfl))
      | true =>
      have h1 : 0 ≤ placeF is id := of_decide_eq_true hh
      refine yes_and (decide_eq_true (by omega)) ?_
      have hc : (mget m id).getD (CK.int IntKind.i64).d = cnt m id := rfl
      rw [hc]
      by_cases h2 : id ∈ seen
      · have : cnt m id = 1 := by rw [hm, if_pos h2]
        rw [none_ (by simp [h2])]; exact no_and (by rw [this]; rfl) (ends_eq _ rfl (by kernel_rfl))
      have hc0 : cnt m id = 0 := by rw [hm, if_neg h2]
      have hlen : placeF is id < (is.length : Int) := by
        rcases place_range is id with ⟨e, _⟩ | ⟨_, h, _⟩
        · omega
        · exact h
      have hnd' : (seen ++ [id]).Nodup := by
        rw [List.nodup_append]
        exact ⟨hnd, by simp, fun a ha b hb' e => h2 (by simp at hb'; rw [← hb', ← e]; exact ha)⟩
      have hsub' : ∀ y ∈ seen ++ [id], y ∈ is.map iI := fun y hy => by
        rcases List.mem_append.1 hy with hy | hy
        · exact hsub y hy
        · simp at hy; rw [hy]; exact (has_item hh).2.1
      have hle := nodup_len hnd' hsub'
      rw [List.length_map, List.length_append, List.length_singleton] at hle
      have e1 : gS is id = iS (el is (placeF is id)) := by unfold gS; rw [el_has hh]
      have e2 : gU is id = iU (el is (placeF is id)) := by unfold gU; rw [el_has hh]
      rw [depthGo_succ, if_pos ⟨hh, h2⟩, e1, e2] at hR
      have next := fun n' hn0 hn1 hR' => ih (iU (el is (placeF is id))) (seen ++ [id]) (mput m id (cnt m id + 1)) n' R (marks_put hm h2) hnd' hsub' (by rw [List.length_append, List.length_singleton]; omega) hn0 hn1 hR'
      refine yes_and (by rw [hc0]; rfl) ⟨by rw [hc0]; exact ⟨by omega, by omega⟩, h1, hlen, ?_⟩
      by_cases h3 : iS (el is (placeF is id)) = 1
      · rw [if_pos h3] at hR
        exact yes_and (beq_iff_eq.2 h3) ⟨⟨by omega, by omega⟩, h1, hlen, next (n + 1) (by omega) (by rw [List.length_append, List.length_singleton]; omega) (by omega)⟩
      · rw [if_neg h3] at hR
        exact no_and (beq_eq_false_iff_ne.2 h3) ⟨h1, hlen, next n h0 (by rw [List.length_append, List.length_singleton]; omega) (by omega)⟩
  refine go hz hX tabDp_ok Tryd.func15 (trDp ck nx ps is cs ws id) ?_
  exact loop (is.length + 1) id [] [] 0 _ (fun k => by rfl) List.nodup_nil (by simp) (by simp) (by omega) (by simp) (by unfold depthF; omega)
end Ds

namespace Ds
open Go Go.Sx Go.Proofs Lf
end Ds

namespace Ds
open Go Go.Sx Go.Proofs Lf
end Ds

namespace Ds
open Go Go.Sx Go.Proofs Lf
theorem get_at {is : Is} {id : Int} (h : hasI is id = true) : ∃ h2 : (placeF is id).toNat < is.length, getI is id = is[(placeF is id).toNat] ∧ iI is[(placeF is id).toNat] = id := by
  rcases place_range is id with ⟨e, _⟩ | ⟨_, h1, h2, h3⟩
  · have := of_decide_eq_true h; omega
  · refine ⟨h2, ?_, h3⟩
    rw [el_has h]
    exact getD_lt h2
theorem get_no {is : Is} {id : Int} (h : hasI is id = false) : getI is id = CL.d cI := by
  show el is (whereF is id) = _
  unfold whereF
  rw [if_neg (of_decide_eq_false h)]
  show is.getD (is.length : Int).toNat (CL.d cI) = _
  simp [List.getD]
theorem get_at' {is : Is} {id : Int} (h : hasI is id = true) : is[(placeF is id).toNat]? = some (getI is id) ∧ iI (getI is id) = id := by
  obtain ⟨h2, h3, h4⟩ := get_at h
  rw [h3]
  exact ⟨List.getElem?_eq_getElem h2, h4⟩
end Ds

/-! A package variable that is a map of rows of bytes, and stands: how it is loaded, and what is found in it. -/
namespace Go.Sx
open Go

/-- What the variable bears: the map, and what stands at a key, as the model has them. -/
structure MapVar (P : Program) (Z : Glob) (g : Nat) (t : TypeId) (row : Int → List Int) where
  m : Value
  at_ : Int → Value
  m1 : m.oneCell' = true
  at1 : ∀ n, (at_ n).oneCell' = true
  load : ∀ (o : Oper) (e : Operand → Value) (w : World), o.op = .load t (.global g) → e (.global g) = .pointer (some ⟨g, 0, none⟩) → Z.ok w → (execOp e o).run P w = .ok (.value m) w
  look : ∀ (w : World) (n : Int), Z.ok w → (Instr.lookup t m (.int .u8 n) false).run P w = .ok (at_ n) w
  row_ : ∀ (w : World) (n : Int), Z.ok w → DenS (fun _ => False) w (.ro (.ints .u8 (row n))) (at_ n)

section
variable {ρ ρ' : Nat → Value} {H H' H1 H2 : AHeap} {G O O' : Nat → Prop} {w w' w1 w2 : World} {P : Program} {X : Ctx} {K : List AObj → AV → Prop} {Z : Glob}

/-- Whether an operation is done, told by the slots. -/
def gOk (ops : Array Oper) (o : Oper) (tmps : List AV) : Bool :=
  match o.guard with
  | none => true
  | some (g, want) => match (ops[g]?).bind (·.dst) with
    | some d => (match tmps.getD d (.s .junk) with
      | .s (.blit b) => b == want
      | .s (.bool b) => b == want
      | _ => false)
    | none => false

theorem gOk_wanted {ops : Array Oper} {o : Oper} {s : St} {a : Act} (h : gOk ops o s.tmps = true) (hr : Rep X ρ s a w) : Region.wanted o (yielded ops a.tmps) = true := by
  unfold gOk at h
  split at h
  · rename_i hg; simp [Region.wanted, hg]
  · rename_i g want hg
    split at h
    · rename_i d hd
      split at h
      · rename_i b hb
        have := blit_get hr hb
        simp only [Region.wanted, hg, yielded, hd, Option.bind_some, this]
        simpa using h
      · rename_i b hb
        have hlt : d < s.tmps.length := by
          rcases Nat.lt_or_ge d s.tmps.length with h3 | h3
          · exact h3
          · rw [List.getD, List.getElem?_eq_none h3] at hb
            simp at hb
        have h2 := DenS_of_V (by simp) (hb ▸ hr.den d)
        have hlt2 : d < a.tmps.size := by rw [hr.size] at hlt; exact hlt
        have : a.tmps[d]? = some (.bool b) := by
          have h4 : a.tmps.getD d undef = a.tmps[d] := by simp [Array.getD, hlt2]
          rw [h4] at h2
          rw [Array.getElem?_eq_getElem hlt2]
          generalize a.tmps[d] = u at h2
          cases h2
          rfl
        simp only [Region.wanted, hg, yielded, hd, Option.bind_some, this]
        simpa using h
      · cases h
    · cases h

/-- One operation, by a rule of its own, also behind a guard. -/
theorem oneG_safe {f : FuncId} {fn : Func} {key i : Nat} {ops : Array Oper} {o : Oper} {k : List Item} (hat : opAt fn key i = some (ops, o, k)) (hnd : noDefer ops = true) {tmps : List AV} {L : List AObj} {stk : Stk} (hg : gOk ops o tmps = true)
    (hin : (stk.plain || slotsIn (Cfg.n ⟨tmps, L, [], stk⟩) ops) = true)
    (h : ∀ G E ρ a w, Rep (X.at G E) ρ ⟨tmps, L⟩ a w → Yields P o a.eval w (fun v w' => ∃ q ρ', Rep (X.at G E) ρ' (St.put ⟨tmps, L⟩ o.dst q) (a.put o.dst v) w' ∧
      Safe P f X K ⟨(St.put ⟨tmps, L⟩ o.dst q).tmps, (St.put ⟨tmps, L⟩ o.dst q).H, cal fn key (i + 1), stk⟩)) : Safe P f X K ⟨tmps, L, cal fn key i, stk⟩ := by
  obtain ⟨ho, hc⟩ : ops[i]? = some o ∧ ∀ j, cal fn key j = .inRegion ops (List.range' j (ops.size - j)) :: k := by
    unfold opAt at hat
    split at hat
    · rename_i n ops' d k' hh
      simp only [Option.map_eq_some_iff, Prod.mk.injEq] at hat
      obtain ⟨o', e1, rfl, rfl, rfl⟩ := hat
      exact ⟨e1, fun j => by unfold cal; rw [hh]⟩
    · cases hat
  intro G E ρ a w hG1 hG2 hr b t fs hw
  obtain ⟨rest, Ds, htop0, hplain, hwf⟩ := hw.top (c := ⟨tmps, L, [], stk⟩) hr.dp.len
  have htop : TopR (Cfg.n ⟨tmps, L, [], stk⟩) rest Ds a t := by
    have e : (⟨a.tmps.toList.toArray, []⟩ : Act) = a := by
      have := hr.defers
      cases a
      simp at this ⊢
      exact this
    rw [e] at htop0
    exact htop0
  have hin' : InTop (Cfg.n ⟨tmps, L, [], stk⟩) rest ops := or_in hin hplain (fun x => x)
  have hdst := (hin'.op ho).imp (fun x => x) (·.2.1)
  have hi : i < ops.size := (Array.getElem?_eq_some_iff.1 ho).1
  have hrange : List.range' i (ops.size - i) = i :: List.range' (i + 1) (ops.size - (i + 1)) := by
    rw [show ops.size - i = ops.size - (i + 1) + 1 from by omega, List.range'_succ]
  have hy' := (h G E ρ a w hr).congr (htop.same hin' ho).1
  have hwant : Region.wanted o (yielded ops t.tmps) = true := by rw [(htop.same hin' ho).2]; exact gOk_wanted hg hr
  show GoesM P f (Post X K) b t (cal fn key i) fs w
  rw [hc i, hrange]
  intro cs
  obtain ⟨v, w', ⟨q, ρ', hr', hs⟩, hst⟩ := op_step ho hwant (defer_ne hnd ho) hy' b k (fs ++ cs) (rest := List.range' (i + 1) (ops.size - (i + 1)))
  have hput := htop.put hdst v
  have := hs G E ρ' _ w' hG1 hG2 hr' b (t.put o.dst v) fs (hwf _ _ hput hr'.defers)
  rw [hc (i + 1)] at this
  obtain ⟨e, w2, fr, g1, g2, g3⟩ := this cs
  exact ⟨e, w2, fr, g1, Comes.of_steps hst g2, g3⟩

theorem put_none {s : St} {d : Option Tmp} {r : Nat → AV} : (s.put d ⟨[], [], [], r⟩).look = s.look := by
  funext id
  show (s.H ++ [])[id]? = s.H[id]?
  rw [List.append_nil]
def loadOf (g : Nat) (x : Array Oper × Oper × List Item) : Option (TypeId × Tmp) := match x.2.1.op, x.2.1.dst with
  | .load t (.global g'), some d => bif noDefer x.1 && g.beq g' then some (t, d) else none
  | _, _ => none
def lookOf (x : Array Oper × Oper × List Item) : Option (TypeId × Tmp × Tmp × Tmp) := match x.2.1.op, x.2.1.dst with
  | .lookup t (.tmp y) (.tmp z) false, some d => bif noDefer x.1 then some (t, y, z, d) else none
  | _, _ => none

/-- The variable is loaded. -/
theorem gload_safe {g : Nat} {t : TypeId} {row : Int → List Int} (KV : MapVar P Z g t row) (hz : ZCtx Z X) {f : FuncId} {fn : Func} {key i : Nat} {d : Tmp} (hat : (opAt fn key i).bind (loadOf g) = some (t, d)) {tmps : List AV} {L : List AObj} {stk : Stk}
    (hg : ((opAt fn key i).all fun y => gOk y.1 y.2.1 tmps) = true) (hin : (stk.plain || ((opAt fn key i).any fun y => slotsIn (Cfg.n ⟨tmps, L, [], stk⟩) y.1)) = true)
    (h : Safe P f X K ⟨tmps.set d (.s (.raw KV.m [])), L, cal fn key (i + 1), stk⟩) : Safe P f X K ⟨tmps, L, cal fn key i, stk⟩ := by
  obtain ⟨⟨ops, o, k⟩, h1, h2⟩ := Option.bind_eq_some_iff.1 hat
  rw [h1] at hin hg
  unfold loadOf at h2
  split at h2
  · rename_i t' g' d' e2 e3
    simp only [] at e2 e3
    rw [Bool.cond_eq_ite] at h2
    split at h2
    · rename_i hnd
      simp only [Bool.and_eq_true, Nat.beq_eq] at hnd
      obtain ⟨hnd, rfl⟩ := hnd
      simp only [Option.some.injEq, Prod.mk.injEq] at h2
      obtain ⟨rfl, rfl⟩ := h2
      refine oneG_safe h1 hnd (by simpa using hg) (by simpa using hin) fun G E ρ a w hr => ?_
      have hzw := (zed (hz.at G E) hr.frm hr.sat hr.from_).1
      unfold Yields
      rw [KV.load o a.eval w e2 rfl hzw]
      have hgood : Good ρ (St.look ⟨tmps, L⟩) (X.at G E).G w (St.put ⟨tmps, L⟩ o.dst ⟨[], [], [], fun _ => .s (.raw KV.m [])⟩).look (.s (.raw KV.m [])) KV.m w := by
        rw [put_none]; exact Good.val hr.sat (DenV_s (.raw _ _ KV.m1))
      obtain ⟨ρ', hr'⟩ := hr.good (q := ⟨[], [], [], fun _ => .s (.raw KV.m [])⟩) (.inl rfl) hgood
      refine ⟨_, ρ', hr', ?_⟩
      rw [e3]
      simpa [St.put, upList, setSlot] using h
    · cases h2
  · cases h2

/-- What stands at a key is looked up. -/
theorem glook_safe {g : Nat} {t : TypeId} {row : Int → List Int} (KV : MapVar P Z g t row) (hz : ZCtx Z X) {f : FuncId} {fn : Func} {key i : Nat} {y z d : Tmp} (hat : (opAt fn key i).bind lookOf = some (t, y, z, d)) {tmps : List AV} {L : List AObj} {stk : Stk}
    (hg : ((opAt fn key i).all fun y => gOk y.1 y.2.1 tmps) = true) (hin : (stk.plain || ((opAt fn key i).any fun y => slotsIn (Cfg.n ⟨tmps, L, [], stk⟩) y.1)) = true)
    (hy : tmps.getD y (.s .junk) = .s (.raw KV.m [])) {n : Int} (hn : tmps.getD z (.s .junk) = .s (.int .u8 n))
    (h : Safe P f X K ⟨tmps.set d (.s (.raw (KV.at_ n) (row n))), L, cal fn key (i + 1), stk⟩) : Safe P f X K ⟨tmps, L, cal fn key i, stk⟩ := by
  obtain ⟨⟨ops, o, k⟩, h1, h2⟩ := Option.bind_eq_some_iff.1 hat
  rw [h1] at hin hg
  unfold lookOf at h2
  split at h2
  · rename_i t' y' z' d' e2 e3
    simp only [] at e2 e3
    rw [Bool.cond_eq_ite] at h2
    split at h2
    · rename_i hnd
      simp only [Option.some.injEq, Prod.mk.injEq] at h2
      obtain ⟨rfl, rfl, rfl, rfl⟩ := h2
      refine oneG_safe h1 hnd (by simpa using hg) (by simpa using hin) fun G E ρ a w hr => ?_
      have hzw := (zed (hz.at G E) hr.frm hr.sat hr.from_).1
      have ey : a.eval (.tmp y') = KV.m := by
        have hd := hr.den y'
        rw [show (St.tmps ⟨tmps, L⟩).getD y' (.s .junk) = .s (.raw KV.m []) from hy] at hd
        have := DenS_of_V (by simp) hd
        show a.tmps.getD y' undef = _
        generalize a.tmps.getD y' undef = u at this
        cases this
        rfl
      have ez : a.eval (.tmp z') = .int .u8 n := by
        have hd := hr.den z'
        rw [show (St.tmps ⟨tmps, L⟩).getD z' (.s .junk) = .s (.int .u8 n) from hn] at hd
        have := DenS_of_V (by simp) hd
        show a.tmps.getD z' undef = _
        generalize a.tmps.getD z' undef = u at this
        cases this
        rfl
      refine yields_new (s := Instr.lookup t' (a.eval (.tmp y')) (a.eval (.tmp z')) false) ⟨KV.at_ n, w, by rw [ey, ez]; exact KV.look w n hzw, ?_⟩ (by simp only [execOp, e2])
      have hgood : Good ρ (St.look ⟨tmps, L⟩) (X.at G E).G w (St.put ⟨tmps, L⟩ o.dst ⟨[], [], [], fun _ => .s (.raw (KV.at_ n) (row n))⟩).look (.s (.raw (KV.at_ n) (row n))) (KV.at_ n) w := by rw [put_none]; exact Good.val hr.sat (DenV_s (.raw _ _ (KV.at1 n)))
      obtain ⟨ρ', hr'⟩ := hr.good (q := ⟨[], [], [], fun _ => .s (.raw (KV.at_ n) (row n))⟩) (.inl rfl) hgood
      refine ⟨_, ρ', hr', ?_⟩
      rw [e3]
      simpa [St.put, upList, setSlot] using h
    · cases h2
  · cases h2

/-- What is asked of such a row, of a function that answers a truth. -/
def sumKV (S : Value → List Int → Prop) (F : List Int → Int → Bool) : Nat → List AV → RM Res := fun _ args =>
  match args with
  | [.s (.raw v zs), .s (.int .u8 n)] => .ret ⟨[S v zs], [], [], fun _ => .s (.bool (F zs n))⟩
  | _ => .fail "a row that stands in a variable"

theorem Good.outer (hs : Sat ρ H G w) {ρ1 : Nat → Value} {H1 H2 : AHeap} (h1 : ∀ b, ¬ Own ρ1 H1 b) {r r2 : AV} {v : Value} (hg : Good ρ1 H1 (fun _ => False) w H2 r v w') (hr : ∀ (ρ : Nat → Value) (H : AHeap) (O : Nat → Prop), DenV ρ H O w' r2 v) : Good ρ H G w H r2 v w' := by
  obtain ⟨ρ', s', d', st', fr⟩ := hg
  have hheap : ∀ b, b < w.heap.size → w'.heap[b]? = w.heap[b]? := fun b hb => fr.heap b hb (h1 b)
  have st : Step ρ H (Hot ρ H G) w ρ H (Hot ρ H G) w' := ⟨fun _ _ _ => rfl, fun _ o h => ⟨o, h, fun c' e' e => ⟨c', e', e, rfl, rfl⟩⟩, fun _ h => .inl h, fun b hb _ => hheap b hb, st'.size⟩
  have hlow : ∀ id o, H id = some o → ∀ b, o.alive = true → blk (ρ id) = some b → w'.heap[b]? = w.heap[b]? := fun id o ho b hal hb => hheap b (own_lt hs ⟨id, o, ho, hal, hb⟩)
  exact ⟨ρ, ⟨fun id o ho => (hs.obj id o ho).step st (hlow id o ho), hs.inj, hs.apart, fun b hb => Nat.lt_of_lt_of_le (hs.low b hb) st'.size⟩, hr _ _ _, st, ⟨fr.os, fr.tape, fr.output, fun b hb _ => hheap b hb⟩⟩

theorem sumKV_ok {g : Nat} {t e : TypeId} {row : Int → List Int} (KV : MapVar P Z g t row) {f : FuncId} {F : List Int → Int → Bool} (h : FnOk P Z f [.b (.row (.ints .u8) e), .b (.int .u8)] [.b .bool] (fun _ => []) (fun (l, x, ()) => (F l x, ()))) :
    SOk1 P Z f (sumKV (fun v zs => ∃ n, v = KV.at_ n ∧ zs = row n) F) := by
  intro base args H q hq hn ρ G w vs hb hz hs hd
  unfold sumKV at hq
  split at hq
  · rename_i v zs x
    simp only [RM.eval, Option.some.injEq] at hq
    subst hq
    obtain ⟨⟨n, rfl, rfl⟩, _⟩ := hn
    obtain ⟨v1, r1, rfl, d1, hd⟩ := DenL_cons.1 hd
    obtain ⟨v2, r2, rfl, d2, hd⟩ := DenL_cons.1 hd
    obtain rfl := DenL_nil.1 hd
    have d1 := DenS_of_V (by simp) d1
    have d2 := DenS_of_V (by simp) d2
    cases d1
    cases d2
    have hot : ∀ b, Hot (fun _ => undef) (fun _ => none) (fun _ => False) b → False := fun b hb => by
      rcases hb with ⟨j, x, hx, _⟩ | hb
      · cases hx
      · exact hb
    have eqH : Hot (fun _ => undef) (fun _ => none) (fun _ => False) = (fun _ => False) := funext fun b => propext ⟨hot b, False.elim⟩
    have hd3 : DenL (fun _ => undef) (fun _ => none) (Hot (fun _ => undef) (fun _ => none) (fun _ => False)) w (AL.av [.b (.row (.ints .u8) e), .b (.int .u8)] (row n, x, ())) [KV.at_ n, .int .u8 x] :=
      DenL_cons.2 ⟨_, _, rfl, DenV_s (by rw [eqH]; exact KV.row_ w n hz.1), DenL_cons.2 ⟨_, _, rfl, DenV_s (.int _ _), DenL_nil.2 rfl⟩⟩
    refine (h (row n, x, ()) (AL.okL hd3) trivial (fun _ => False) w _ (fun b hb => hb.elim) hz.1 hd3).mono ?_
    rintro en w' ⟨v, rfl, hg⟩
    refine ⟨v, rfl, ?_⟩
    have hg2 := hg
    obtain ⟨ρ', s', d', _, _⟩ := hg2
    have d' := DenS_of_V (x := .bool (F (row n) x)) (by simp) d'
    cases d'
    rw [resH_nil]
    exact Good.outer hs (fun b hb => by obtain ⟨j, x, hx, _⟩ := hb; cases hx) hg (fun ρ H O => DenV_s (.bool _))
  · simp [RM.eval] at hq

/-- A truth that is known, told as a literal. -/
theorem slot_blit_safe {f : FuncId} {tmps : List AV} {L : List AObj} {todo : List Item} {stk : Stk} {t : Nat} {b : Bool} (ht : tmps.getD t (.s .junk) = .s (.bool b))
    (h : Safe P f X K ⟨tmps.set t (.s (.blit b)), L, todo, stk⟩) : Safe P f X K ⟨tmps, L, todo, stk⟩ := by
  intro G E ρ a w hG1 hG2 hr b t' fs hw
  exact h G E ρ a w hG1 hG2 (hr.refine (d := t) (x := .s (.bool _)) ht bool_refine) b t' fs hw
end
end Go.Sx

namespace Ds
open Go Go.Sx Go.Proofs Lf
def scnF (k : Int) : Bool := [(11 : Int), 12, 13].contains k
theorem trSc0 (x : Int) : run P tabAc.sum Tryd.f62 [] (start Tryd.f62 [avU x] []) =
  Tree.ret [AObj.vec (Con.ints IntKind.u8 [(11 : Int), (12 : Int), (13 : Int)]) (5 : Nat)] (AV.s (SV.bool ([(11 : Int), (12 : Int), (13 : Int)].contains x))) := by kernel_rfl
abbrev sumSc0 := sumOf [tU8] [tBool] (fun _ => []) (fun (k, ()) => (scnF k, ()))
def tabSc : Tab := [(61, sumNo), (15, sumDp), (62, sumSc0), (19, sumFi)]
def nsSc : List (Nat × Norm) := [(8, ⟨[], [2, 3, 5, 6], 0, [(2, 9, true, .typ cV [], eV), (2, 10, true, .strs [], 9)]⟩)]
theorem trSc (ck nx : Int) (ps : Ps) (is : Is) (cs : Cs) (ws : Ws) (x : CL cI) : run P tabSc.sum Tryd.f33 nsSc (start Tryd.f33 [avSt ck nx ps is cs ws, avIt x] []) =
  Tree.ite (iF x != (-1 : Int)) (Tree.ret [AObj.own [AV.s (SV.int IntKind.i64 ck), AV.s (SV.int IntKind.i64 nx), AV.s (SV.ro (Con.typ cP ps)), AV.s (SV.ro (Con.typ cI is)), AV.s (SV.ro (Con.typ cC cs)), AV.s (SV.ro (Con.typ cW ws))] (27 : Nat), AObj.own [AV.s (SV.int IntKind.i64 (iI x)), AV.s (SV.int IntKind.i64 (iU x)), AV.s (SV.int IntKind.u8 (iS x)), AV.s (SV.str (iP x)), AV.s (SV.int IntKind.i64 (iN x)), AV.s (SV.int IntKind.i64 (iF x)), AV.s (SV.int IntKind.u8 (iW x)), AV.s (SV.str (iC x))] (31 : Nat), AObj.own [AV.s (SV.str (nN (ndF ps (iP x) (iN x)))), AV.s (SV.int IntKind.u8 (nK (ndF ps (iP x) (iN x)))), AV.s (SV.int IntKind.i64 (nI (ndF ps (iP x) (iN x)))), AV.s (SV.int IntKind.i64 (nO (ndF ps (iP x) (iN x)))), AV.s (SV.int IntKind.u8 (nE (ndF ps (iP x) (iN x)))), AV.s (SV.str (nY (ndF ps (iP x) (iN x)))), AV.s (SV.str (nT (ndF ps (iP x) (iN x)))), AV.s (SV.str (nS (ndF ps (iP x) (iN x)))), AV.s (SV.bool (nB (ndF ps (iP x) (iN x)))), AV.s (SV.ro (Con.typ cV (nV (ndF ps (iP x) (iN x))))), AV.s (SV.ro (Con.strs (nZ (ndF ps (iP x) (iN x)))))] (45 : Nat)] (AV.s (SV.blit false)))
  (Tree.ite (iW x != (0 : Int)) (Tree.ret [AObj.own [AV.s (SV.int IntKind.i64 ck), AV.s (SV.int IntKind.i64 nx), AV.s (SV.ro (Con.typ cP ps)), AV.s (SV.ro (Con.typ cI is)), AV.s (SV.ro (Con.typ cC cs)), AV.s (SV.ro (Con.typ cW ws))] (27 : Nat), AObj.own [AV.s (SV.int IntKind.i64 (iI x)), AV.s (SV.int IntKind.i64 (iU x)), AV.s (SV.int IntKind.u8 (iS x)), AV.s (SV.str (iP x)), AV.s (SV.int IntKind.i64 (iN x)), AV.s (SV.int IntKind.i64 (iF x)), AV.s (SV.int IntKind.u8 (iW x)), AV.s (SV.str (iC x))] (31 : Nat), AObj.own [AV.s (SV.str (nN (ndF ps (iP x) (iN x)))), AV.s (SV.int IntKind.u8 (nK (ndF ps (iP x) (iN x)))), AV.s (SV.int IntKind.i64 (nI (ndF ps (iP x) (iN x)))), AV.s (SV.int IntKind.i64 (nO (ndF ps (iP x) (iN x)))), AV.s (SV.int IntKind.u8 (nE (ndF ps (iP x) (iN x)))), AV.s (SV.str (nY (ndF ps (iP x) (iN x)))), AV.s (SV.str (nT (ndF ps (iP x) (iN x)))), AV.s (SV.str (nS (ndF ps (iP x) (iN x)))), AV.s (SV.bool (nB (ndF ps (iP x) (iN x)))), AV.s (SV.ro (Con.typ cV (nV (ndF ps (iP x) (iN x))))), AV.s (SV.ro (Con.strs (nZ (ndF ps (iP x) (iN x)))))] (45 : Nat)] (AV.s (SV.blit false)))
    (Tree.ite (!decide (iC x = ByteArray.empty)) (Tree.ret [AObj.own [AV.s (SV.int IntKind.i64 ck), AV.s (SV.int IntKind.i64 nx), AV.s (SV.ro (Con.typ cP ps)), AV.s (SV.ro (Con.typ cI is)), AV.s (SV.ro (Con.typ cC cs)), AV.s (SV.ro (Con.typ cW ws))] (27 : Nat), AObj.own [AV.s (SV.int IntKind.i64 (iI x)), AV.s (SV.int IntKind.i64 (iU x)), AV.s (SV.int IntKind.u8 (iS x)), AV.s (SV.str (iP x)), AV.s (SV.int IntKind.i64 (iN x)), AV.s (SV.int IntKind.i64 (iF x)), AV.s (SV.int IntKind.u8 (iW x)), AV.s (SV.str (iC x))] (31 : Nat), AObj.own [AV.s (SV.str (nN (ndF ps (iP x) (iN x)))), AV.s (SV.int IntKind.u8 (nK (ndF ps (iP x) (iN x)))), AV.s (SV.int IntKind.i64 (nI (ndF ps (iP x) (iN x)))), AV.s (SV.int IntKind.i64 (nO (ndF ps (iP x) (iN x)))), AV.s (SV.int IntKind.u8 (nE (ndF ps (iP x) (iN x)))), AV.s (SV.str (nY (ndF ps (iP x) (iN x)))), AV.s (SV.str (nT (ndF ps (iP x) (iN x)))), AV.s (SV.str (nS (ndF ps (iP x) (iN x)))), AV.s (SV.bool (nB (ndF ps (iP x) (iN x)))), AV.s (SV.ro (Con.typ cV (nV (ndF ps (iP x) (iN x))))), AV.s (SV.ro (Con.strs (nZ (ndF ps (iP x) (iN x)))))] (45 : Nat)] (AV.s (SV.blit false)))
      (Tree.ite (decide (depthF is (iI x) > (12 : Int))) (Tree.ret [AObj.own [AV.s (SV.int IntKind.i64 ck), AV.s (SV.int IntKind.i64 nx), AV.s (SV.ro (Con.typ cP ps)), AV.s (SV.ro (Con.typ cI is)), AV.s (SV.ro (Con.typ cC cs)), AV.s (SV.ro (Con.typ cW ws))] (27 : Nat), AObj.own [AV.s (SV.int IntKind.i64 (iI x)), AV.s (SV.int IntKind.i64 (iU x)), AV.s (SV.int IntKind.u8 (iS x)), AV.s (SV.str (iP x)), AV.s (SV.int IntKind.i64 (iN x)), AV.s (SV.int IntKind.i64 (iF x)), AV.s (SV.int IntKind.u8 (iW x)), AV.s (SV.str (iC x))] (31 : Nat), AObj.own [AV.s (SV.str (nN (ndF ps (iP x) (iN x)))), AV.s (SV.int IntKind.u8 (nK (ndF ps (iP x) (iN x)))), AV.s (SV.int IntKind.i64 (nI (ndF ps (iP x) (iN x)))), AV.s (SV.int IntKind.i64 (nO (ndF ps (iP x) (iN x)))), AV.s (SV.int IntKind.u8 (nE (ndF ps (iP x) (iN x)))), AV.s (SV.str (nY (ndF ps (iP x) (iN x)))), AV.s (SV.str (nT (ndF ps (iP x) (iN x)))), AV.s (SV.str (nS (ndF ps (iP x) (iN x)))), AV.s (SV.bool (nB (ndF ps (iP x) (iN x)))), AV.s (SV.ro (Con.typ cV (nV (ndF ps (iP x) (iN x))))), AV.s (SV.ro (Con.strs (nZ (ndF ps (iP x) (iN x)))))] (45 : Nat)] (AV.s (SV.blit false)))
        (Tree.ite (iN x != (-1 : Int))
          (Tree.ite (!hasN ps (iP x) (iN x)) (Tree.ret [AObj.own [AV.s (SV.int IntKind.i64 ck), AV.s (SV.int IntKind.i64 nx), AV.s (SV.ro (Con.typ cP ps)), AV.s (SV.ro (Con.typ cI is)), AV.s (SV.ro (Con.typ cC cs)), AV.s (SV.ro (Con.typ cW ws))] (27 : Nat), AObj.own [AV.s (SV.int IntKind.i64 (iI x)), AV.s (SV.int IntKind.i64 (iU x)), AV.s (SV.int IntKind.u8 (iS x)), AV.s (SV.str (iP x)), AV.s (SV.int IntKind.i64 (iN x)), AV.s (SV.int IntKind.i64 (iF x)), AV.s (SV.int IntKind.u8 (iW x)), AV.s (SV.str (iC x))] (31 : Nat), AObj.own [AV.s (SV.str (nN (ndF ps (iP x) (iN x)))), AV.s (SV.int IntKind.u8 (nK (ndF ps (iP x) (iN x)))), AV.s (SV.int IntKind.i64 (nI (ndF ps (iP x) (iN x)))), AV.s (SV.int IntKind.i64 (nO (ndF ps (iP x) (iN x)))), AV.s (SV.int IntKind.u8 (nE (ndF ps (iP x) (iN x)))), AV.s (SV.str (nY (ndF ps (iP x) (iN x)))), AV.s (SV.str (nT (ndF ps (iP x) (iN x)))), AV.s (SV.str (nS (ndF ps (iP x) (iN x)))), AV.s (SV.bool (nB (ndF ps (iP x) (iN x)))), AV.s (SV.ro (Con.typ cV (nV (ndF ps (iP x) (iN x))))), AV.s (SV.ro (Con.strs (nZ (ndF ps (iP x) (iN x)))))] (45 : Nat)] (AV.s (SV.blit false)))
            (Tree.ite (!scnF (nK (ndF ps (iP x) (iN x)))) (Tree.ret [AObj.own [AV.s (SV.int IntKind.i64 ck), AV.s (SV.int IntKind.i64 nx), AV.s (SV.ro (Con.typ cP ps)), AV.s (SV.ro (Con.typ cI is)), AV.s (SV.ro (Con.typ cC cs)), AV.s (SV.ro (Con.typ cW ws))] (27 : Nat), AObj.own [AV.s (SV.int IntKind.i64 (iI x)), AV.s (SV.int IntKind.i64 (iU x)), AV.s (SV.int IntKind.u8 (iS x)), AV.s (SV.str (iP x)), AV.s (SV.int IntKind.i64 (iN x)), AV.s (SV.int IntKind.i64 (iF x)), AV.s (SV.int IntKind.u8 (iW x)), AV.s (SV.str (iC x))] (31 : Nat), AObj.own [AV.s (SV.str (nN (ndF ps (iP x) (iN x)))), AV.s (SV.int IntKind.u8 (nK (ndF ps (iP x) (iN x)))), AV.s (SV.int IntKind.i64 (nI (ndF ps (iP x) (iN x)))), AV.s (SV.int IntKind.i64 (nO (ndF ps (iP x) (iN x)))), AV.s (SV.int IntKind.u8 (nE (ndF ps (iP x) (iN x)))), AV.s (SV.str (nY (ndF ps (iP x) (iN x)))), AV.s (SV.str (nT (ndF ps (iP x) (iN x)))), AV.s (SV.str (nS (ndF ps (iP x) (iN x)))), AV.s (SV.bool (nB (ndF ps (iP x) (iN x)))), AV.s (SV.ro (Con.typ cV (nV (ndF ps (iP x) (iN x))))), AV.s (SV.ro (Con.strs (nZ (ndF ps (iP x) (iN x)))))] (45 : Nat)] (AV.s (SV.blit false))) (Tree.ite (iU x == (0 : Int)) (Tree.ret [AObj.own [AV.s (SV.int IntKind.i64 ck), AV.s (SV.int IntKind.i64 nx), AV.s (SV.ro (Con.typ cP ps)), AV.s (SV.ro (Con.typ cI is)), AV.s (SV.ro (Con.typ cC cs)), AV.s (SV.ro (Con.typ cW ws))] (27 : Nat), AObj.own [AV.s (SV.int IntKind.i64 (iI x)), AV.s (SV.int IntKind.i64 (iU x)), AV.s (SV.int IntKind.u8 (iS x)), AV.s (SV.str (iP x)), AV.s (SV.int IntKind.i64 (iN x)), AV.s (SV.int IntKind.i64 (iF x)), AV.s (SV.int IntKind.u8 (iW x)), AV.s (SV.str (iC x))] (31 : Nat), AObj.own [AV.s (SV.str (nN (ndF ps (iP x) (iN x)))), AV.s (SV.int IntKind.u8 (nK (ndF ps (iP x) (iN x)))), AV.s (SV.int IntKind.i64 (nI (ndF ps (iP x) (iN x)))), AV.s (SV.int IntKind.i64 (nO (ndF ps (iP x) (iN x)))), AV.s (SV.int IntKind.u8 (nE (ndF ps (iP x) (iN x)))), AV.s (SV.str (nY (ndF ps (iP x) (iN x)))), AV.s (SV.str (nT (ndF ps (iP x) (iN x)))), AV.s (SV.str (nS (ndF ps (iP x) (iN x)))), AV.s (SV.bool (nB (ndF ps (iP x) (iN x)))), AV.s (SV.ro (Con.typ cV (nV (ndF ps (iP x) (iN x))))), AV.s (SV.ro (Con.strs (nZ (ndF ps (iP x) (iN x)))))] (45 : Nat)] (AV.s (SV.bool (iN x == (-1 : Int))))) (Tree.at (Cfg.mk (sl (129 : Nat) [((2 : Nat), AV.ptr (0 : Nat) (0 : Nat)), ((3 : Nat), AV.ptr (1 : Nat) (0 : Nat)), ((5 : Nat), AV.ptr (2 : Nat) (0 : Nat)), ((6 : Nat), AV.s (SV.bool (hasN ps (iP x) (iN x))))]) [AObj.own [AV.s (SV.int IntKind.i64 ck), AV.s (SV.int IntKind.i64 nx), AV.s (SV.ro (Con.typ cP ps)), AV.s (SV.ro (Con.typ cI is)), AV.s (SV.ro (Con.typ cC cs)), AV.s (SV.ro (Con.typ cW ws))] (27 : Nat), AObj.own [AV.s (SV.int IntKind.i64 (iI x)), AV.s (SV.int IntKind.i64 (iU x)), AV.s (SV.int IntKind.u8 (iS x)), AV.s (SV.str (iP x)), AV.s (SV.int IntKind.i64 (iN x)), AV.s (SV.int IntKind.i64 (iF x)), AV.s (SV.int IntKind.u8 (iW x)), AV.s (SV.str (iC x))] (31 : Nat), AObj.own [AV.s (SV.str (nN (ndF ps (iP x) (iN x)))), AV.s (SV.int IntKind.u8 (nK (ndF ps (iP x) (iN x)))), AV.s (SV.int IntKind.i64 (nI (ndF ps (iP x) (iN x)))), AV.s (SV.int IntKind.i64 (nO (ndF ps (iP x) (iN x)))), AV.s (SV.int IntKind.u8 (nE (ndF ps (iP x) (iN x)))), AV.s (SV.str (nY (ndF ps (iP x) (iN x)))), AV.s (SV.str (nT (ndF ps (iP x) (iN x)))), AV.s (SV.str (nS (ndF ps (iP x) (iN x)))), AV.s (SV.bool (nB (ndF ps (iP x) (iN x)))), AV.s (SV.ro (Con.typ cV (nV (ndF ps (iP x) (iN x))))), AV.s (SV.ro (Con.strs (nZ (ndF ps (iP x) (iN x)))))] (45 : Nat)] (hr Tryd.f33 (8 : Nat)) (Stk.mk none false (0 : Nat) [] (0 : Nat)))))))
          (Tree.ite (iU x == (0 : Int)) (Tree.ret [AObj.own [AV.s (SV.int IntKind.i64 ck), AV.s (SV.int IntKind.i64 nx), AV.s (SV.ro (Con.typ cP ps)), AV.s (SV.ro (Con.typ cI is)), AV.s (SV.ro (Con.typ cC cs)), AV.s (SV.ro (Con.typ cW ws))] (27 : Nat), AObj.own [AV.s (SV.int IntKind.i64 (iI x)), AV.s (SV.int IntKind.i64 (iU x)), AV.s (SV.int IntKind.u8 (iS x)), AV.s (SV.str (iP x)), AV.s (SV.int IntKind.i64 (iN x)), AV.s (SV.int IntKind.i64 (iF x)), AV.s (SV.int IntKind.u8 (iW x)), AV.s (SV.str (iC x))] (31 : Nat), AObj.own [AV.s (SV.str (nN (ndF ps (iP x) (iN x)))), AV.s (SV.int IntKind.u8 (nK (ndF ps (iP x) (iN x)))), AV.s (SV.int IntKind.i64 (nI (ndF ps (iP x) (iN x)))), AV.s (SV.int IntKind.i64 (nO (ndF ps (iP x) (iN x)))), AV.s (SV.int IntKind.u8 (nE (ndF ps (iP x) (iN x)))), AV.s (SV.str (nY (ndF ps (iP x) (iN x)))), AV.s (SV.str (nT (ndF ps (iP x) (iN x)))), AV.s (SV.str (nS (ndF ps (iP x) (iN x)))), AV.s (SV.bool (nB (ndF ps (iP x) (iN x)))), AV.s (SV.ro (Con.typ cV (nV (ndF ps (iP x) (iN x))))), AV.s (SV.ro (Con.strs (nZ (ndF ps (iP x) (iN x)))))] (45 : Nat)] (AV.s (SV.bool (iN x == (-1 : Int))))) (Tree.at (Cfg.mk (sl (129 : Nat) [((2 : Nat), AV.ptr (0 : Nat) (0 : Nat)), ((3 : Nat), AV.ptr (1 : Nat) (0 : Nat)), ((5 : Nat), AV.ptr (2 : Nat) (0 : Nat)), ((6 : Nat), AV.s (SV.bool (hasN ps (iP x) (iN x))))]) [AObj.own [AV.s (SV.int IntKind.i64 ck), AV.s (SV.int IntKind.i64 nx), AV.s (SV.ro (Con.typ cP ps)), AV.s (SV.ro (Con.typ cI is)), AV.s (SV.ro (Con.typ cC cs)), AV.s (SV.ro (Con.typ cW ws))] (27 : Nat), AObj.own [AV.s (SV.int IntKind.i64 (iI x)), AV.s (SV.int IntKind.i64 (iU x)), AV.s (SV.int IntKind.u8 (iS x)), AV.s (SV.str (iP x)), AV.s (SV.int IntKind.i64 (iN x)), AV.s (SV.int IntKind.i64 (iF x)), AV.s (SV.int IntKind.u8 (iW x)), AV.s (SV.str (iC x))] (31 : Nat), AObj.own [AV.s (SV.str (nN (ndF ps (iP x) (iN x)))), AV.s (SV.int IntKind.u8 (nK (ndF ps (iP x) (iN x)))), AV.s (SV.int IntKind.i64 (nI (ndF ps (iP x) (iN x)))), AV.s (SV.int IntKind.i64 (nO (ndF ps (iP x) (iN x)))), AV.s (SV.int IntKind.u8 (nE (ndF ps (iP x) (iN x)))), AV.s (SV.str (nY (ndF ps (iP x) (iN x)))), AV.s (SV.str (nT (ndF ps (iP x) (iN x)))), AV.s (SV.str (nS (ndF ps (iP x) (iN x)))), AV.s (SV.bool (nB (ndF ps (iP x) (iN x)))), AV.s (SV.ro (Con.typ cV (nV (ndF ps (iP x) (iN x))))), AV.s (SV.ro (Con.strs (nZ (ndF ps (iP x) (iN x)))))] (45 : Nat)] (hr Tryd.f33 (8 : Nat)) (Stk.mk none false (0 : Nat) [] (0 : Nat))))))))) := by kernel_rfl
noncomputable def cSc (ck nx : Int) (ps : Ps) (is : Is) (cs : Cs) (ws : Ws) (x : CL cI) (n : CL cN) (b : Bool) : Cfg := ⟨sl 129 [(2, .ptr 0 0), (3, .ptr 1 0), (5, .ptr 2 0), (6, .s (.bool b))], [obSt ck nx ps is cs ws, obIt x, obNo n], hr Tryd.f33 8, {}⟩
theorem midSc (ck nx : Int) (ps : Ps) (is : Is) (cs : Cs) (ws : Ws) (x : CL cI) (n : CL cN) (b : Bool) : run P tabSc.sum Tryd.f33 nsSc (cSc ck nx ps is cs ws x n b) =
  Tree.ite (gS is (iU x) == (1 : Int))
  (Tree.ite b (Tree.ite (nK n == (13 : Int)) (Tree.ite (decide (gP is (iU x) = iP x)) (Tree.ret [AObj.own [AV.s (SV.int IntKind.i64 ck), AV.s (SV.int IntKind.i64 nx), AV.s (SV.ro (Con.typ cP ps)), AV.s (SV.ro (Con.typ cI is)), AV.s (SV.ro (Con.typ cC cs)), AV.s (SV.ro (Con.typ cW ws))] (27 : Nat), AObj.own [AV.s (SV.int IntKind.i64 (iI x)), AV.s (SV.int IntKind.i64 (iU x)), AV.s (SV.int IntKind.u8 (iS x)), AV.s (SV.str (iP x)), AV.s (SV.int IntKind.i64 (iN x)), AV.s (SV.int IntKind.i64 (iF x)), AV.s (SV.int IntKind.u8 (iW x)), AV.s (SV.str (iC x))] (31 : Nat), AObj.own [AV.s (SV.str (nN n)), AV.s (SV.int IntKind.u8 (nK n)), AV.s (SV.int IntKind.i64 (nI n)), AV.s (SV.int IntKind.i64 (nO n)), AV.s (SV.int IntKind.u8 (nE n)), AV.s (SV.str (nY n)), AV.s (SV.str (nT n)), AV.s (SV.str (nS n)), AV.s (SV.bool (nB n)), AV.s (SV.ro (Con.typ cV (nV n))), AV.s (SV.ro (Con.strs (nZ n)))] (45 : Nat), AObj.own [AV.s (SV.int IntKind.i64 (gI is (iU x))), AV.s (SV.int IntKind.i64 (gU is (iU x))), AV.s (SV.int IntKind.u8 (gS is (iU x))), AV.s (SV.str (gP is (iU x))), AV.s (SV.int IntKind.i64 (gN is (iU x))), AV.s (SV.int IntKind.i64 (gF is (iU x))), AV.s (SV.int IntKind.u8 (gW is (iU x))), AV.s (SV.str (gC is (iU x)))] (31 : Nat)] (AV.s (SV.bool (nI n == gN is (iU x))))) (Tree.ret [AObj.own [AV.s (SV.int IntKind.i64 ck), AV.s (SV.int IntKind.i64 nx), AV.s (SV.ro (Con.typ cP ps)), AV.s (SV.ro (Con.typ cI is)), AV.s (SV.ro (Con.typ cC cs)), AV.s (SV.ro (Con.typ cW ws))] (27 : Nat), AObj.own [AV.s (SV.int IntKind.i64 (iI x)), AV.s (SV.int IntKind.i64 (iU x)), AV.s (SV.int IntKind.u8 (iS x)), AV.s (SV.str (iP x)), AV.s (SV.int IntKind.i64 (iN x)), AV.s (SV.int IntKind.i64 (iF x)), AV.s (SV.int IntKind.u8 (iW x)), AV.s (SV.str (iC x))] (31 : Nat), AObj.own [AV.s (SV.str (nN n)), AV.s (SV.int IntKind.u8 (nK n)), AV.s (SV.int IntKind.i64 (nI n)), AV.s (SV.int IntKind.i64 (nO n)), AV.s (SV.int IntKind.u8 (nE n)), AV.s (SV.str (nY n)), AV.s (SV.str (nT n)), AV.s (SV.str (nS n)), AV.s (SV.bool (nB n)), AV.s (SV.ro (Con.typ cV (nV n))), AV.s (SV.ro (Con.strs (nZ n)))] (45 : Nat), AObj.own [AV.s (SV.int IntKind.i64 (gI is (iU x))), AV.s (SV.int IntKind.i64 (gU is (iU x))), AV.s (SV.int IntKind.u8 (gS is (iU x))), AV.s (SV.str (gP is (iU x))), AV.s (SV.int IntKind.i64 (gN is (iU x))), AV.s (SV.int IntKind.i64 (gF is (iU x))), AV.s (SV.int IntKind.u8 (gW is (iU x))), AV.s (SV.str (gC is (iU x)))] (31 : Nat)] (AV.s (SV.blit false)))) (Tree.ret [AObj.own [AV.s (SV.int IntKind.i64 ck), AV.s (SV.int IntKind.i64 nx), AV.s (SV.ro (Con.typ cP ps)), AV.s (SV.ro (Con.typ cI is)), AV.s (SV.ro (Con.typ cC cs)), AV.s (SV.ro (Con.typ cW ws))] (27 : Nat), AObj.own [AV.s (SV.int IntKind.i64 (iI x)), AV.s (SV.int IntKind.i64 (iU x)), AV.s (SV.int IntKind.u8 (iS x)), AV.s (SV.str (iP x)), AV.s (SV.int IntKind.i64 (iN x)), AV.s (SV.int IntKind.i64 (iF x)), AV.s (SV.int IntKind.u8 (iW x)), AV.s (SV.str (iC x))] (31 : Nat), AObj.own [AV.s (SV.str (nN n)), AV.s (SV.int IntKind.u8 (nK n)), AV.s (SV.int IntKind.i64 (nI n)), AV.s (SV.int IntKind.i64 (nO n)), AV.s (SV.int IntKind.u8 (nE n)), AV.s (SV.str (nY n)), AV.s (SV.str (nT n)), AV.s (SV.str (nS n)), AV.s (SV.bool (nB n)), AV.s (SV.ro (Con.typ cV (nV n))), AV.s (SV.ro (Con.strs (nZ n)))] (45 : Nat), AObj.own [AV.s (SV.int IntKind.i64 (gI is (iU x))), AV.s (SV.int IntKind.i64 (gU is (iU x))), AV.s (SV.int IntKind.u8 (gS is (iU x))), AV.s (SV.str (gP is (iU x))), AV.s (SV.int IntKind.i64 (gN is (iU x))), AV.s (SV.int IntKind.i64 (gF is (iU x))), AV.s (SV.int IntKind.u8 (gW is (iU x))), AV.s (SV.str (gC is (iU x)))] (31 : Nat)] (AV.s (SV.blit false))))
    (Tree.ret [AObj.own [AV.s (SV.int IntKind.i64 ck), AV.s (SV.int IntKind.i64 nx), AV.s (SV.ro (Con.typ cP ps)), AV.s (SV.ro (Con.typ cI is)), AV.s (SV.ro (Con.typ cC cs)), AV.s (SV.ro (Con.typ cW ws))] (27 : Nat), AObj.own [AV.s (SV.int IntKind.i64 (iI x)), AV.s (SV.int IntKind.i64 (iU x)), AV.s (SV.int IntKind.u8 (iS x)), AV.s (SV.str (iP x)), AV.s (SV.int IntKind.i64 (iN x)), AV.s (SV.int IntKind.i64 (iF x)), AV.s (SV.int IntKind.u8 (iW x)), AV.s (SV.str (iC x))] (31 : Nat), AObj.own [AV.s (SV.str (nN n)), AV.s (SV.int IntKind.u8 (nK n)), AV.s (SV.int IntKind.i64 (nI n)), AV.s (SV.int IntKind.i64 (nO n)), AV.s (SV.int IntKind.u8 (nE n)), AV.s (SV.str (nY n)), AV.s (SV.str (nT n)), AV.s (SV.str (nS n)), AV.s (SV.bool (nB n)), AV.s (SV.ro (Con.typ cV (nV n))), AV.s (SV.ro (Con.strs (nZ n)))] (45 : Nat), AObj.own [AV.s (SV.int IntKind.i64 (gI is (iU x))), AV.s (SV.int IntKind.i64 (gU is (iU x))), AV.s (SV.int IntKind.u8 (gS is (iU x))), AV.s (SV.str (gP is (iU x))), AV.s (SV.int IntKind.i64 (gN is (iU x))), AV.s (SV.int IntKind.i64 (gF is (iU x))), AV.s (SV.int IntKind.u8 (gW is (iU x))), AV.s (SV.str (gC is (iU x)))] (31 : Nat)] (AV.s (SV.blit false))))
  (Tree.ite (!hasN ps (gP is (iU x)) (gN is (iU x))) (Tree.ret [AObj.own [AV.s (SV.int IntKind.i64 ck), AV.s (SV.int IntKind.i64 nx), AV.s (SV.ro (Con.typ cP ps)), AV.s (SV.ro (Con.typ cI is)), AV.s (SV.ro (Con.typ cC cs)), AV.s (SV.ro (Con.typ cW ws))] (27 : Nat), AObj.own [AV.s (SV.int IntKind.i64 (iI x)), AV.s (SV.int IntKind.i64 (iU x)), AV.s (SV.int IntKind.u8 (iS x)), AV.s (SV.str (iP x)), AV.s (SV.int IntKind.i64 (iN x)), AV.s (SV.int IntKind.i64 (iF x)), AV.s (SV.int IntKind.u8 (iW x)), AV.s (SV.str (iC x))] (31 : Nat), AObj.own [AV.s (SV.str (nN n)), AV.s (SV.int IntKind.u8 (nK n)), AV.s (SV.int IntKind.i64 (nI n)), AV.s (SV.int IntKind.i64 (nO n)), AV.s (SV.int IntKind.u8 (nE n)), AV.s (SV.str (nY n)), AV.s (SV.str (nT n)), AV.s (SV.str (nS n)), AV.s (SV.bool (nB n)), AV.s (SV.ro (Con.typ cV (nV n))), AV.s (SV.ro (Con.strs (nZ n)))] (45 : Nat), AObj.own [AV.s (SV.int IntKind.i64 (gI is (iU x))), AV.s (SV.int IntKind.i64 (gU is (iU x))), AV.s (SV.int IntKind.u8 (gS is (iU x))), AV.s (SV.str (gP is (iU x))), AV.s (SV.int IntKind.i64 (gN is (iU x))), AV.s (SV.int IntKind.i64 (gF is (iU x))), AV.s (SV.int IntKind.u8 (gW is (iU x))), AV.s (SV.str (gC is (iU x)))] (31 : Nat), AObj.own [AV.s (SV.str (nN (ndF ps (gP is (iU x)) (gN is (iU x))))), AV.s (SV.int IntKind.u8 (nK (ndF ps (gP is (iU x)) (gN is (iU x))))), AV.s (SV.int IntKind.i64 (nI (ndF ps (gP is (iU x)) (gN is (iU x))))), AV.s (SV.int IntKind.i64 (nO (ndF ps (gP is (iU x)) (gN is (iU x))))), AV.s (SV.int IntKind.u8 (nE (ndF ps (gP is (iU x)) (gN is (iU x))))), AV.s (SV.str (nY (ndF ps (gP is (iU x)) (gN is (iU x))))), AV.s (SV.str (nT (ndF ps (gP is (iU x)) (gN is (iU x))))), AV.s (SV.str (nS (ndF ps (gP is (iU x)) (gN is (iU x))))), AV.s (SV.bool (nB (ndF ps (gP is (iU x)) (gN is (iU x))))), AV.s (SV.ro (Con.typ cV (nV (ndF ps (gP is (iU x)) (gN is (iU x)))))), AV.s (SV.ro (Con.strs (nZ (ndF ps (gP is (iU x)) (gN is (iU x))))))] (45 : Nat)] (AV.s (SV.blit false)))
    (Tree.ite (gW is (iU x) != (3 : Int)) (Tree.ret [AObj.own [AV.s (SV.int IntKind.i64 ck), AV.s (SV.int IntKind.i64 nx), AV.s (SV.ro (Con.typ cP ps)), AV.s (SV.ro (Con.typ cI is)), AV.s (SV.ro (Con.typ cC cs)), AV.s (SV.ro (Con.typ cW ws))] (27 : Nat), AObj.own [AV.s (SV.int IntKind.i64 (iI x)), AV.s (SV.int IntKind.i64 (iU x)), AV.s (SV.int IntKind.u8 (iS x)), AV.s (SV.str (iP x)), AV.s (SV.int IntKind.i64 (iN x)), AV.s (SV.int IntKind.i64 (iF x)), AV.s (SV.int IntKind.u8 (iW x)), AV.s (SV.str (iC x))] (31 : Nat), AObj.own [AV.s (SV.str (nN n)), AV.s (SV.int IntKind.u8 (nK n)), AV.s (SV.int IntKind.i64 (nI n)), AV.s (SV.int IntKind.i64 (nO n)), AV.s (SV.int IntKind.u8 (nE n)), AV.s (SV.str (nY n)), AV.s (SV.str (nT n)), AV.s (SV.str (nS n)), AV.s (SV.bool (nB n)), AV.s (SV.ro (Con.typ cV (nV n))), AV.s (SV.ro (Con.strs (nZ n)))] (45 : Nat), AObj.own [AV.s (SV.int IntKind.i64 (gI is (iU x))), AV.s (SV.int IntKind.i64 (gU is (iU x))), AV.s (SV.int IntKind.u8 (gS is (iU x))), AV.s (SV.str (gP is (iU x))), AV.s (SV.int IntKind.i64 (gN is (iU x))), AV.s (SV.int IntKind.i64 (gF is (iU x))), AV.s (SV.int IntKind.u8 (gW is (iU x))), AV.s (SV.str (gC is (iU x)))] (31 : Nat), AObj.own [AV.s (SV.str (nN (ndF ps (gP is (iU x)) (gN is (iU x))))), AV.s (SV.int IntKind.u8 (nK (ndF ps (gP is (iU x)) (gN is (iU x))))), AV.s (SV.int IntKind.i64 (nI (ndF ps (gP is (iU x)) (gN is (iU x))))), AV.s (SV.int IntKind.i64 (nO (ndF ps (gP is (iU x)) (gN is (iU x))))), AV.s (SV.int IntKind.u8 (nE (ndF ps (gP is (iU x)) (gN is (iU x))))), AV.s (SV.str (nY (ndF ps (gP is (iU x)) (gN is (iU x))))), AV.s (SV.str (nT (ndF ps (gP is (iU x)) (gN is (iU x))))), AV.s (SV.str (nS (ndF ps (gP is (iU x)) (gN is (iU x))))), AV.s (SV.bool (nB (ndF ps (gP is (iU x)) (gN is (iU x))))), AV.s (SV.ro (Con.typ cV (nV (ndF ps (gP is (iU x)) (gN is (iU x)))))), AV.s (SV.ro (Con.strs (nZ (ndF ps (gP is (iU x)) (gN is (iU x))))))] (45 : Nat)] (AV.s (SV.blit false)))
      (Tree.ite (iN x == (-1 : Int)) (Tree.ite (nK (ndF ps (gP is (iU x)) (gN is (iU x))) == (14 : Int)) (Tree.ret [AObj.own [AV.s (SV.int IntKind.i64 ck), AV.s (SV.int IntKind.i64 nx), AV.s (SV.ro (Con.typ cP ps)), AV.s (SV.ro (Con.typ cI is)), AV.s (SV.ro (Con.typ cC cs)), AV.s (SV.ro (Con.typ cW ws))] (27 : Nat), AObj.own [AV.s (SV.int IntKind.i64 (iI x)), AV.s (SV.int IntKind.i64 (iU x)), AV.s (SV.int IntKind.u8 (iS x)), AV.s (SV.str (iP x)), AV.s (SV.int IntKind.i64 (iN x)), AV.s (SV.int IntKind.i64 (iF x)), AV.s (SV.int IntKind.u8 (iW x)), AV.s (SV.str (iC x))] (31 : Nat), AObj.own [AV.s (SV.str (nN n)), AV.s (SV.int IntKind.u8 (nK n)), AV.s (SV.int IntKind.i64 (nI n)), AV.s (SV.int IntKind.i64 (nO n)), AV.s (SV.int IntKind.u8 (nE n)), AV.s (SV.str (nY n)), AV.s (SV.str (nT n)), AV.s (SV.str (nS n)), AV.s (SV.bool (nB n)), AV.s (SV.ro (Con.typ cV (nV n))), AV.s (SV.ro (Con.strs (nZ n)))] (45 : Nat), AObj.own [AV.s (SV.int IntKind.i64 (gI is (iU x))), AV.s (SV.int IntKind.i64 (gU is (iU x))), AV.s (SV.int IntKind.u8 (gS is (iU x))), AV.s (SV.str (gP is (iU x))), AV.s (SV.int IntKind.i64 (gN is (iU x))), AV.s (SV.int IntKind.i64 (gF is (iU x))), AV.s (SV.int IntKind.u8 (gW is (iU x))), AV.s (SV.str (gC is (iU x)))] (31 : Nat), AObj.own [AV.s (SV.str (nN (ndF ps (gP is (iU x)) (gN is (iU x))))), AV.s (SV.int IntKind.u8 (nK (ndF ps (gP is (iU x)) (gN is (iU x))))), AV.s (SV.int IntKind.i64 (nI (ndF ps (gP is (iU x)) (gN is (iU x))))), AV.s (SV.int IntKind.i64 (nO (ndF ps (gP is (iU x)) (gN is (iU x))))), AV.s (SV.int IntKind.u8 (nE (ndF ps (gP is (iU x)) (gN is (iU x))))), AV.s (SV.str (nY (ndF ps (gP is (iU x)) (gN is (iU x))))), AV.s (SV.str (nT (ndF ps (gP is (iU x)) (gN is (iU x))))), AV.s (SV.str (nS (ndF ps (gP is (iU x)) (gN is (iU x))))), AV.s (SV.bool (nB (ndF ps (gP is (iU x)) (gN is (iU x))))), AV.s (SV.ro (Con.typ cV (nV (ndF ps (gP is (iU x)) (gN is (iU x)))))), AV.s (SV.ro (Con.strs (nZ (ndF ps (gP is (iU x)) (gN is (iU x))))))] (45 : Nat)] (AV.s (SV.bool (decide (nY (ndF ps (gP is (iU x)) (gN is (iU x))) = iP x))))) (Tree.ret [AObj.own [AV.s (SV.int IntKind.i64 ck), AV.s (SV.int IntKind.i64 nx), AV.s (SV.ro (Con.typ cP ps)), AV.s (SV.ro (Con.typ cI is)), AV.s (SV.ro (Con.typ cC cs)), AV.s (SV.ro (Con.typ cW ws))] (27 : Nat), AObj.own [AV.s (SV.int IntKind.i64 (iI x)), AV.s (SV.int IntKind.i64 (iU x)), AV.s (SV.int IntKind.u8 (iS x)), AV.s (SV.str (iP x)), AV.s (SV.int IntKind.i64 (iN x)), AV.s (SV.int IntKind.i64 (iF x)), AV.s (SV.int IntKind.u8 (iW x)), AV.s (SV.str (iC x))] (31 : Nat), AObj.own [AV.s (SV.str (nN n)), AV.s (SV.int IntKind.u8 (nK n)), AV.s (SV.int IntKind.i64 (nI n)), AV.s (SV.int IntKind.i64 (nO n)), AV.s (SV.int IntKind.u8 (nE n)), AV.s (SV.str (nY n)), AV.s (SV.str (nT n)), AV.s (SV.str (nS n)), AV.s (SV.bool (nB n)), AV.s (SV.ro (Con.typ cV (nV n))), AV.s (SV.ro (Con.strs (nZ n)))] (45 : Nat), AObj.own [AV.s (SV.int IntKind.i64 (gI is (iU x))), AV.s (SV.int IntKind.i64 (gU is (iU x))), AV.s (SV.int IntKind.u8 (gS is (iU x))), AV.s (SV.str (gP is (iU x))), AV.s (SV.int IntKind.i64 (gN is (iU x))), AV.s (SV.int IntKind.i64 (gF is (iU x))), AV.s (SV.int IntKind.u8 (gW is (iU x))), AV.s (SV.str (gC is (iU x)))] (31 : Nat), AObj.own [AV.s (SV.str (nN (ndF ps (gP is (iU x)) (gN is (iU x))))), AV.s (SV.int IntKind.u8 (nK (ndF ps (gP is (iU x)) (gN is (iU x))))), AV.s (SV.int IntKind.i64 (nI (ndF ps (gP is (iU x)) (gN is (iU x))))), AV.s (SV.int IntKind.i64 (nO (ndF ps (gP is (iU x)) (gN is (iU x))))), AV.s (SV.int IntKind.u8 (nE (ndF ps (gP is (iU x)) (gN is (iU x))))), AV.s (SV.str (nY (ndF ps (gP is (iU x)) (gN is (iU x))))), AV.s (SV.str (nT (ndF ps (gP is (iU x)) (gN is (iU x))))), AV.s (SV.str (nS (ndF ps (gP is (iU x)) (gN is (iU x))))), AV.s (SV.bool (nB (ndF ps (gP is (iU x)) (gN is (iU x))))), AV.s (SV.ro (Con.typ cV (nV (ndF ps (gP is (iU x)) (gN is (iU x)))))), AV.s (SV.ro (Con.strs (nZ (ndF ps (gP is (iU x)) (gN is (iU x))))))] (45 : Nat)] (AV.s (SV.blit false))))
        (Tree.ite (decide (gP is (iU x) = iP x)) (Tree.ret [AObj.own [AV.s (SV.int IntKind.i64 ck), AV.s (SV.int IntKind.i64 nx), AV.s (SV.ro (Con.typ cP ps)), AV.s (SV.ro (Con.typ cI is)), AV.s (SV.ro (Con.typ cC cs)), AV.s (SV.ro (Con.typ cW ws))] (27 : Nat), AObj.own [AV.s (SV.int IntKind.i64 (iI x)), AV.s (SV.int IntKind.i64 (iU x)), AV.s (SV.int IntKind.u8 (iS x)), AV.s (SV.str (iP x)), AV.s (SV.int IntKind.i64 (iN x)), AV.s (SV.int IntKind.i64 (iF x)), AV.s (SV.int IntKind.u8 (iW x)), AV.s (SV.str (iC x))] (31 : Nat), AObj.own [AV.s (SV.str (nN n)), AV.s (SV.int IntKind.u8 (nK n)), AV.s (SV.int IntKind.i64 (nI n)), AV.s (SV.int IntKind.i64 (nO n)), AV.s (SV.int IntKind.u8 (nE n)), AV.s (SV.str (nY n)), AV.s (SV.str (nT n)), AV.s (SV.str (nS n)), AV.s (SV.bool (nB n)), AV.s (SV.ro (Con.typ cV (nV n))), AV.s (SV.ro (Con.strs (nZ n)))] (45 : Nat), AObj.own [AV.s (SV.int IntKind.i64 (gI is (iU x))), AV.s (SV.int IntKind.i64 (gU is (iU x))), AV.s (SV.int IntKind.u8 (gS is (iU x))), AV.s (SV.str (gP is (iU x))), AV.s (SV.int IntKind.i64 (gN is (iU x))), AV.s (SV.int IntKind.i64 (gF is (iU x))), AV.s (SV.int IntKind.u8 (gW is (iU x))), AV.s (SV.str (gC is (iU x)))] (31 : Nat), AObj.own [AV.s (SV.str (nN (ndF ps (gP is (iU x)) (gN is (iU x))))), AV.s (SV.int IntKind.u8 (nK (ndF ps (gP is (iU x)) (gN is (iU x))))), AV.s (SV.int IntKind.i64 (nI (ndF ps (gP is (iU x)) (gN is (iU x))))), AV.s (SV.int IntKind.i64 (nO (ndF ps (gP is (iU x)) (gN is (iU x))))), AV.s (SV.int IntKind.u8 (nE (ndF ps (gP is (iU x)) (gN is (iU x))))), AV.s (SV.str (nY (ndF ps (gP is (iU x)) (gN is (iU x))))), AV.s (SV.str (nT (ndF ps (gP is (iU x)) (gN is (iU x))))), AV.s (SV.str (nS (ndF ps (gP is (iU x)) (gN is (iU x))))), AV.s (SV.bool (nB (ndF ps (gP is (iU x)) (gN is (iU x))))), AV.s (SV.ro (Con.typ cV (nV (ndF ps (gP is (iU x)) (gN is (iU x)))))), AV.s (SV.ro (Con.strs (nZ (ndF ps (gP is (iU x)) (gN is (iU x))))))] (45 : Nat)] (AV.s (SV.bool (gN is (iU x) == iN x)))) (Tree.ret [AObj.own [AV.s (SV.int IntKind.i64 ck), AV.s (SV.int IntKind.i64 nx), AV.s (SV.ro (Con.typ cP ps)), AV.s (SV.ro (Con.typ cI is)), AV.s (SV.ro (Con.typ cC cs)), AV.s (SV.ro (Con.typ cW ws))] (27 : Nat), AObj.own [AV.s (SV.int IntKind.i64 (iI x)), AV.s (SV.int IntKind.i64 (iU x)), AV.s (SV.int IntKind.u8 (iS x)), AV.s (SV.str (iP x)), AV.s (SV.int IntKind.i64 (iN x)), AV.s (SV.int IntKind.i64 (iF x)), AV.s (SV.int IntKind.u8 (iW x)), AV.s (SV.str (iC x))] (31 : Nat), AObj.own [AV.s (SV.str (nN n)), AV.s (SV.int IntKind.u8 (nK n)), AV.s (SV.int IntKind.i64 (nI n)), AV.s (SV.int IntKind.i64 (nO n)), AV.s (SV.int IntKind.u8 (nE n)), AV.s (SV.str (nY n)), AV.s (SV.str (nT n)), AV.s (SV.str (nS n)), AV.s (SV.bool (nB n)), AV.s (SV.ro (Con.typ cV (nV n))), AV.s (SV.ro (Con.strs (nZ n)))] (45 : Nat), AObj.own [AV.s (SV.int IntKind.i64 (gI is (iU x))), AV.s (SV.int IntKind.i64 (gU is (iU x))), AV.s (SV.int IntKind.u8 (gS is (iU x))), AV.s (SV.str (gP is (iU x))), AV.s (SV.int IntKind.i64 (gN is (iU x))), AV.s (SV.int IntKind.i64 (gF is (iU x))), AV.s (SV.int IntKind.u8 (gW is (iU x))), AV.s (SV.str (gC is (iU x)))] (31 : Nat), AObj.own [AV.s (SV.str (nN (ndF ps (gP is (iU x)) (gN is (iU x))))), AV.s (SV.int IntKind.u8 (nK (ndF ps (gP is (iU x)) (gN is (iU x))))), AV.s (SV.int IntKind.i64 (nI (ndF ps (gP is (iU x)) (gN is (iU x))))), AV.s (SV.int IntKind.i64 (nO (ndF ps (gP is (iU x)) (gN is (iU x))))), AV.s (SV.int IntKind.u8 (nE (ndF ps (gP is (iU x)) (gN is (iU x))))), AV.s (SV.str (nY (ndF ps (gP is (iU x)) (gN is (iU x))))), AV.s (SV.str (nT (ndF ps (gP is (iU x)) (gN is (iU x))))), AV.s (SV.str (nS (ndF ps (gP is (iU x)) (gN is (iU x))))), AV.s (SV.bool (nB (ndF ps (gP is (iU x)) (gN is (iU x))))), AV.s (SV.ro (Con.typ cV (nV (ndF ps (gP is (iU x)) (gN is (iU x)))))), AV.s (SV.ro (Con.strs (nZ (ndF ps (gP is (iU x)) (gN is (iU x))))))] (45 : Nat)] (AV.s (SV.blit false))))))) := by kernel_rfl
/-! token -/
def kindsF (n : Int) : List Int := if n = 2 then [3] else if n = 3 then [11, 12, 14] else if n = 4 then [6, 10] else if n = 5 then [8, 9] else if n = 6 then [7, 9, 2] else []
def sumH9 (S : Value → List Int → Prop) := sumIf (fun a => match a with | .s (.raw _ _) :: _ => true | _ => false) (sumKV S (fun l x => l.contains x)) sumH8
def tabTk (S : Value → List Int → Prop) : Tab := [(61, sumNo), (19, sumFi), (58, sumH9 S), (14, sumDf), (17, sumKi)]
end Ds

namespace Ds
open Go Go.Sx Go.Proofs Lf
def nsTl : List (Nat × Norm) := [(5, ⟨[], [2, 3, 7], 0, []⟩), (midKey + 5004, ⟨[], [2, 3, 7, 58], 0, []⟩), (midKey + 5007, ⟨[], [2, 3, 7, 58, 59, 61], 0, []⟩), (7, ⟨[], [2, 3], 0, []⟩)]
theorem trTl (S : Value → List Int → Prop) (ck nx : Int) (ps : Ps) (is : Is) (cs : Cs) (ws : Ws) (x : CL cI) : run P (tabTk S).sum Tryd.f34 nsTl (start Tryd.f34 [avSt ck nx ps is cs ws, avIt x] []) =
  Tree.ite (gS is (iU x) != (1 : Int)) (Tree.ret [AObj.own [AV.s (SV.int IntKind.i64 ck), AV.s (SV.int IntKind.i64 nx), AV.s (SV.ro (Con.typ cP ps)), AV.s (SV.ro (Con.typ cI is)), AV.s (SV.ro (Con.typ cC cs)), AV.s (SV.ro (Con.typ cW ws))] (27 : Nat), AObj.own [AV.s (SV.int IntKind.i64 (iI x)), AV.s (SV.int IntKind.i64 (iU x)), AV.s (SV.int IntKind.u8 (iS x)), AV.s (SV.str (iP x)), AV.s (SV.int IntKind.i64 (iN x)), AV.s (SV.int IntKind.i64 (iF x)), AV.s (SV.int IntKind.u8 (iW x)), AV.s (SV.str (iC x))] (31 : Nat), AObj.own [AV.s (SV.int IntKind.i64 (gI is (iU x))), AV.s (SV.int IntKind.i64 (gU is (iU x))), AV.s (SV.int IntKind.u8 (gS is (iU x))), AV.s (SV.str (gP is (iU x))), AV.s (SV.int IntKind.i64 (gN is (iU x))), AV.s (SV.int IntKind.i64 (gF is (iU x))), AV.s (SV.int IntKind.u8 (gW is (iU x))), AV.s (SV.str (gC is (iU x)))] (31 : Nat), AObj.own [AV.s (SV.str (nN (ndF ps (iP x) (iN x)))), AV.s (SV.int IntKind.u8 (nK (ndF ps (iP x) (iN x)))), AV.s (SV.int IntKind.i64 (nI (ndF ps (iP x) (iN x)))), AV.s (SV.int IntKind.i64 (nO (ndF ps (iP x) (iN x)))), AV.s (SV.int IntKind.u8 (nE (ndF ps (iP x) (iN x)))), AV.s (SV.str (nY (ndF ps (iP x) (iN x)))), AV.s (SV.str (nT (ndF ps (iP x) (iN x)))), AV.s (SV.str (nS (ndF ps (iP x) (iN x)))), AV.s (SV.bool (nB (ndF ps (iP x) (iN x)))), AV.s (SV.ro (Con.typ cV (nV (ndF ps (iP x) (iN x))))), AV.s (SV.ro (Con.strs (nZ (ndF ps (iP x) (iN x)))))] (45 : Nat)] (AV.s (SV.blit false)))
  (Tree.ite (!decide (gP is (iU x) = iP x)) (Tree.ret [AObj.own [AV.s (SV.int IntKind.i64 ck), AV.s (SV.int IntKind.i64 nx), AV.s (SV.ro (Con.typ cP ps)), AV.s (SV.ro (Con.typ cI is)), AV.s (SV.ro (Con.typ cC cs)), AV.s (SV.ro (Con.typ cW ws))] (27 : Nat), AObj.own [AV.s (SV.int IntKind.i64 (iI x)), AV.s (SV.int IntKind.i64 (iU x)), AV.s (SV.int IntKind.u8 (iS x)), AV.s (SV.str (iP x)), AV.s (SV.int IntKind.i64 (iN x)), AV.s (SV.int IntKind.i64 (iF x)), AV.s (SV.int IntKind.u8 (iW x)), AV.s (SV.str (iC x))] (31 : Nat), AObj.own [AV.s (SV.int IntKind.i64 (gI is (iU x))), AV.s (SV.int IntKind.i64 (gU is (iU x))), AV.s (SV.int IntKind.u8 (gS is (iU x))), AV.s (SV.str (gP is (iU x))), AV.s (SV.int IntKind.i64 (gN is (iU x))), AV.s (SV.int IntKind.i64 (gF is (iU x))), AV.s (SV.int IntKind.u8 (gW is (iU x))), AV.s (SV.str (gC is (iU x)))] (31 : Nat), AObj.own [AV.s (SV.str (nN (ndF ps (iP x) (iN x)))), AV.s (SV.int IntKind.u8 (nK (ndF ps (iP x) (iN x)))), AV.s (SV.int IntKind.i64 (nI (ndF ps (iP x) (iN x)))), AV.s (SV.int IntKind.i64 (nO (ndF ps (iP x) (iN x)))), AV.s (SV.int IntKind.u8 (nE (ndF ps (iP x) (iN x)))), AV.s (SV.str (nY (ndF ps (iP x) (iN x)))), AV.s (SV.str (nT (ndF ps (iP x) (iN x)))), AV.s (SV.str (nS (ndF ps (iP x) (iN x)))), AV.s (SV.bool (nB (ndF ps (iP x) (iN x)))), AV.s (SV.ro (Con.typ cV (nV (ndF ps (iP x) (iN x))))), AV.s (SV.ro (Con.strs (nZ (ndF ps (iP x) (iN x)))))] (45 : Nat)] (AV.s (SV.blit false)))
    (Tree.ite (!hasN ps (iP x) (iN x)) (Tree.ret [AObj.own [AV.s (SV.int IntKind.i64 ck), AV.s (SV.int IntKind.i64 nx), AV.s (SV.ro (Con.typ cP ps)), AV.s (SV.ro (Con.typ cI is)), AV.s (SV.ro (Con.typ cC cs)), AV.s (SV.ro (Con.typ cW ws))] (27 : Nat), AObj.own [AV.s (SV.int IntKind.i64 (iI x)), AV.s (SV.int IntKind.i64 (iU x)), AV.s (SV.int IntKind.u8 (iS x)), AV.s (SV.str (iP x)), AV.s (SV.int IntKind.i64 (iN x)), AV.s (SV.int IntKind.i64 (iF x)), AV.s (SV.int IntKind.u8 (iW x)), AV.s (SV.str (iC x))] (31 : Nat), AObj.own [AV.s (SV.int IntKind.i64 (gI is (iU x))), AV.s (SV.int IntKind.i64 (gU is (iU x))), AV.s (SV.int IntKind.u8 (gS is (iU x))), AV.s (SV.str (gP is (iU x))), AV.s (SV.int IntKind.i64 (gN is (iU x))), AV.s (SV.int IntKind.i64 (gF is (iU x))), AV.s (SV.int IntKind.u8 (gW is (iU x))), AV.s (SV.str (gC is (iU x)))] (31 : Nat), AObj.own [AV.s (SV.str (nN (ndF ps (iP x) (iN x)))), AV.s (SV.int IntKind.u8 (nK (ndF ps (iP x) (iN x)))), AV.s (SV.int IntKind.i64 (nI (ndF ps (iP x) (iN x)))), AV.s (SV.int IntKind.i64 (nO (ndF ps (iP x) (iN x)))), AV.s (SV.int IntKind.u8 (nE (ndF ps (iP x) (iN x)))), AV.s (SV.str (nY (ndF ps (iP x) (iN x)))), AV.s (SV.str (nT (ndF ps (iP x) (iN x)))), AV.s (SV.str (nS (ndF ps (iP x) (iN x)))), AV.s (SV.bool (nB (ndF ps (iP x) (iN x)))), AV.s (SV.ro (Con.typ cV (nV (ndF ps (iP x) (iN x))))), AV.s (SV.ro (Con.strs (nZ (ndF ps (iP x) (iN x)))))] (45 : Nat)] (AV.s (SV.blit false)))
      (Tree.ite (nI (ndF ps (iP x) (iN x)) != gN is (iU x)) (Tree.ret [AObj.own [AV.s (SV.int IntKind.i64 ck), AV.s (SV.int IntKind.i64 nx), AV.s (SV.ro (Con.typ cP ps)), AV.s (SV.ro (Con.typ cI is)), AV.s (SV.ro (Con.typ cC cs)), AV.s (SV.ro (Con.typ cW ws))] (27 : Nat), AObj.own [AV.s (SV.int IntKind.i64 (iI x)), AV.s (SV.int IntKind.i64 (iU x)), AV.s (SV.int IntKind.u8 (iS x)), AV.s (SV.str (iP x)), AV.s (SV.int IntKind.i64 (iN x)), AV.s (SV.int IntKind.i64 (iF x)), AV.s (SV.int IntKind.u8 (iW x)), AV.s (SV.str (iC x))] (31 : Nat), AObj.own [AV.s (SV.int IntKind.i64 (gI is (iU x))), AV.s (SV.int IntKind.i64 (gU is (iU x))), AV.s (SV.int IntKind.u8 (gS is (iU x))), AV.s (SV.str (gP is (iU x))), AV.s (SV.int IntKind.i64 (gN is (iU x))), AV.s (SV.int IntKind.i64 (gF is (iU x))), AV.s (SV.int IntKind.u8 (gW is (iU x))), AV.s (SV.str (gC is (iU x)))] (31 : Nat), AObj.own [AV.s (SV.str (nN (ndF ps (iP x) (iN x)))), AV.s (SV.int IntKind.u8 (nK (ndF ps (iP x) (iN x)))), AV.s (SV.int IntKind.i64 (nI (ndF ps (iP x) (iN x)))), AV.s (SV.int IntKind.i64 (nO (ndF ps (iP x) (iN x)))), AV.s (SV.int IntKind.u8 (nE (ndF ps (iP x) (iN x)))), AV.s (SV.str (nY (ndF ps (iP x) (iN x)))), AV.s (SV.str (nT (ndF ps (iP x) (iN x)))), AV.s (SV.str (nS (ndF ps (iP x) (iN x)))), AV.s (SV.bool (nB (ndF ps (iP x) (iN x)))), AV.s (SV.ro (Con.typ cV (nV (ndF ps (iP x) (iN x))))), AV.s (SV.ro (Con.strs (nZ (ndF ps (iP x) (iN x)))))] (45 : Nat)] (AV.s (SV.blit false)))
        (Tree.ite (!(!decide (iC x = ByteArray.empty)) == (iW x == (6 : Int))) (Tree.ret [AObj.own [AV.s (SV.int IntKind.i64 ck), AV.s (SV.int IntKind.i64 nx), AV.s (SV.ro (Con.typ cP ps)), AV.s (SV.ro (Con.typ cI is)), AV.s (SV.ro (Con.typ cC cs)), AV.s (SV.ro (Con.typ cW ws))] (27 : Nat), AObj.own [AV.s (SV.int IntKind.i64 (iI x)), AV.s (SV.int IntKind.i64 (iU x)), AV.s (SV.int IntKind.u8 (iS x)), AV.s (SV.str (iP x)), AV.s (SV.int IntKind.i64 (iN x)), AV.s (SV.int IntKind.i64 (iF x)), AV.s (SV.int IntKind.u8 (iW x)), AV.s (SV.str (iC x))] (31 : Nat), AObj.own [AV.s (SV.int IntKind.i64 (gI is (iU x))), AV.s (SV.int IntKind.i64 (gU is (iU x))), AV.s (SV.int IntKind.u8 (gS is (iU x))), AV.s (SV.str (gP is (iU x))), AV.s (SV.int IntKind.i64 (gN is (iU x))), AV.s (SV.int IntKind.i64 (gF is (iU x))), AV.s (SV.int IntKind.u8 (gW is (iU x))), AV.s (SV.str (gC is (iU x)))] (31 : Nat), AObj.own [AV.s (SV.str (nN (ndF ps (iP x) (iN x)))), AV.s (SV.int IntKind.u8 (nK (ndF ps (iP x) (iN x)))), AV.s (SV.int IntKind.i64 (nI (ndF ps (iP x) (iN x)))), AV.s (SV.int IntKind.i64 (nO (ndF ps (iP x) (iN x)))), AV.s (SV.int IntKind.u8 (nE (ndF ps (iP x) (iN x)))), AV.s (SV.str (nY (ndF ps (iP x) (iN x)))), AV.s (SV.str (nT (ndF ps (iP x) (iN x)))), AV.s (SV.str (nS (ndF ps (iP x) (iN x)))), AV.s (SV.bool (nB (ndF ps (iP x) (iN x)))), AV.s (SV.ro (Con.typ cV (nV (ndF ps (iP x) (iN x))))), AV.s (SV.ro (Con.strs (nZ (ndF ps (iP x) (iN x)))))] (45 : Nat)] (AV.s (SV.blit false))) (Tree.at (Cfg.mk (sl (124 : Nat) [((2 : Nat), AV.ptr (0 : Nat) (0 : Nat)), ((3 : Nat), AV.ptr (1 : Nat) (0 : Nat)), ((7 : Nat), AV.ptr (2 : Nat) (0 : Nat))]) [AObj.own [AV.s (SV.int IntKind.i64 ck), AV.s (SV.int IntKind.i64 nx), AV.s (SV.ro (Con.typ cP ps)), AV.s (SV.ro (Con.typ cI is)), AV.s (SV.ro (Con.typ cC cs)), AV.s (SV.ro (Con.typ cW ws))] (27 : Nat), AObj.own [AV.s (SV.int IntKind.i64 (iI x)), AV.s (SV.int IntKind.i64 (iU x)), AV.s (SV.int IntKind.u8 (iS x)), AV.s (SV.str (iP x)), AV.s (SV.int IntKind.i64 (iN x)), AV.s (SV.int IntKind.i64 (iF x)), AV.s (SV.int IntKind.u8 (iW x)), AV.s (SV.str (iC x))] (31 : Nat), AObj.own [AV.s (SV.str (nN (ndF ps (iP x) (iN x)))), AV.s (SV.int IntKind.u8 (nK (ndF ps (iP x) (iN x)))), AV.s (SV.int IntKind.i64 (nI (ndF ps (iP x) (iN x)))), AV.s (SV.int IntKind.i64 (nO (ndF ps (iP x) (iN x)))), AV.s (SV.int IntKind.u8 (nE (ndF ps (iP x) (iN x)))), AV.s (SV.str (nY (ndF ps (iP x) (iN x)))), AV.s (SV.str (nT (ndF ps (iP x) (iN x)))), AV.s (SV.str (nS (ndF ps (iP x) (iN x)))), AV.s (SV.bool (nB (ndF ps (iP x) (iN x)))), AV.s (SV.ro (Con.typ cV (nV (ndF ps (iP x) (iN x))))), AV.s (SV.ro (Con.strs (nZ (ndF ps (iP x) (iN x)))))] (45 : Nat)] (hr Tryd.f34 (5 : Nat)) (Stk.mk none false (0 : Nat) [] (0 : Nat)))))))) := by kernel_rfl
noncomputable def cTlA (ck nx : Int) (ps : Ps) (is : Is) (cs : Cs) (ws : Ws) (x : CL cI) (n : CL cN) : Cfg := ⟨sl 124 [(2, .ptr 0 0), (3, .ptr 1 0), (7, .ptr 2 0)], [obSt ck nx ps is cs ws, obIt x, obNo n], hr Tryd.f34 5, {}⟩
theorem midTlA (S : Value → List Int → Prop) (ck nx : Int) (ps : Ps) (is : Is) (cs : Cs) (ws : Ws) (x : CL cI) (n : CL cN) : run P (tabTk S).sum Tryd.f34 nsTl (cTlA ck nx ps is cs ws x n) =
  Tree.ite (iW x != (1 : Int)) (Tree.at (Cfg.mk (sl (124 : Nat) [((2 : Nat), AV.ptr (0 : Nat) (0 : Nat)), ((3 : Nat), AV.ptr (1 : Nat) (0 : Nat)), ((7 : Nat), AV.ptr (2 : Nat) (0 : Nat)), ((58 : Nat), AV.s (SV.bool true))]) [AObj.own [AV.s (SV.int IntKind.i64 ck), AV.s (SV.int IntKind.i64 nx), AV.s (SV.ro (Con.typ cP ps)), AV.s (SV.ro (Con.typ cI is)), AV.s (SV.ro (Con.typ cC cs)), AV.s (SV.ro (Con.typ cW ws))] (27 : Nat), AObj.own [AV.s (SV.int IntKind.i64 (iI x)), AV.s (SV.int IntKind.i64 (iU x)), AV.s (SV.int IntKind.u8 (iS x)), AV.s (SV.str (iP x)), AV.s (SV.int IntKind.i64 (iN x)), AV.s (SV.int IntKind.i64 (iF x)), AV.s (SV.int IntKind.u8 (iW x)), AV.s (SV.str (iC x))] (31 : Nat), AObj.own [AV.s (SV.str (nN n)), AV.s (SV.int IntKind.u8 (nK n)), AV.s (SV.int IntKind.i64 (nI n)), AV.s (SV.int IntKind.i64 (nO n)), AV.s (SV.int IntKind.u8 (nE n)), AV.s (SV.str (nY n)), AV.s (SV.str (nT n)), AV.s (SV.str (nS n)), AV.s (SV.bool (nB n)), AV.s (SV.ro (Con.typ cV (nV n))), AV.s (SV.ro (Con.strs (nZ n)))] (45 : Nat)] (cal Tryd.f34 (5 : Nat) (4 : Nat)) (Stk.mk none false (0 : Nat) [] (5 : Nat)))) (Tree.at (Cfg.mk (sl (124 : Nat) [((2 : Nat), AV.ptr (0 : Nat) (0 : Nat)), ((3 : Nat), AV.ptr (1 : Nat) (0 : Nat))]) [AObj.own [AV.s (SV.int IntKind.i64 ck), AV.s (SV.int IntKind.i64 nx), AV.s (SV.ro (Con.typ cP ps)), AV.s (SV.ro (Con.typ cI is)), AV.s (SV.ro (Con.typ cC cs)), AV.s (SV.ro (Con.typ cW ws))] (27 : Nat), AObj.own [AV.s (SV.int IntKind.i64 (iI x)), AV.s (SV.int IntKind.i64 (iU x)), AV.s (SV.int IntKind.u8 (iS x)), AV.s (SV.str (iP x)), AV.s (SV.int IntKind.i64 (iN x)), AV.s (SV.int IntKind.i64 (iF x)), AV.s (SV.int IntKind.u8 (iW x)), AV.s (SV.str (iC x))] (31 : Nat)] (hr Tryd.f34 (7 : Nat)) (Stk.mk none false (0 : Nat) [] (0 : Nat)))) := by kernel_rfl
noncomputable def cTlB (ck nx : Int) (ps : Ps) (is : Is) (cs : Cs) (ws : Ws) (x : CL cI) (n : CL cN) : Cfg := ⟨sl 124 [(2, .ptr 0 0), (3, .ptr 1 0), (7, .ptr 2 0), (58, .s (.bool true))], [obSt ck nx ps is cs ws, obIt x, obNo n], cal Tryd.f34 5 4, kk 5⟩
noncomputable def cTlB2 (ck nx : Int) (ps : Ps) (is : Is) (cs : Cs) (ws : Ws) (x : CL cI) (n : CL cN) (m : Value) : Cfg := ⟨sl 124 [(2, .ptr 0 0), (3, .ptr 1 0), (7, .ptr 2 0), (58, .s (.blit true)), (59, .s (.raw m []))], [obSt ck nx ps is cs ws, obIt x, obNo n], cal Tryd.f34 5 5, kk 5⟩
theorem midTlB (S : Value → List Int → Prop) (ck nx : Int) (ps : Ps) (is : Is) (cs : Cs) (ws : Ws) (x : CL cI) (n : CL cN) (m : Value) : run P (tabTk S).sum Tryd.f34 nsTl (cTlB2 ck nx ps is cs ws x n m) =
  Tree.at (Cfg.mk (sl (124 : Nat) [((2 : Nat), AV.ptr (0 : Nat) (0 : Nat)), ((3 : Nat), AV.ptr (1 : Nat) (0 : Nat)), ((7 : Nat), AV.ptr (2 : Nat) (0 : Nat)), ((58 : Nat), AV.s (SV.bool true)), ((59 : Nat), AV.s (SV.raw m [])), ((61 : Nat), AV.s (SV.int IntKind.u8 (iW x)))]) [AObj.own [AV.s (SV.int IntKind.i64 ck), AV.s (SV.int IntKind.i64 nx), AV.s (SV.ro (Con.typ cP ps)), AV.s (SV.ro (Con.typ cI is)), AV.s (SV.ro (Con.typ cC cs)), AV.s (SV.ro (Con.typ cW ws))] (27 : Nat), AObj.own [AV.s (SV.int IntKind.i64 (iI x)), AV.s (SV.int IntKind.i64 (iU x)), AV.s (SV.int IntKind.u8 (iS x)), AV.s (SV.str (iP x)), AV.s (SV.int IntKind.i64 (iN x)), AV.s (SV.int IntKind.i64 (iF x)), AV.s (SV.int IntKind.u8 (iW x)), AV.s (SV.str (iC x))] (31 : Nat), AObj.own [AV.s (SV.str (nN n)), AV.s (SV.int IntKind.u8 (nK n)), AV.s (SV.int IntKind.i64 (nI n)), AV.s (SV.int IntKind.i64 (nO n)), AV.s (SV.int IntKind.u8 (nE n)), AV.s (SV.str (nY n)), AV.s (SV.str (nT n)), AV.s (SV.str (nS n)), AV.s (SV.bool (nB n)), AV.s (SV.ro (Con.typ cV (nV n))), AV.s (SV.ro (Con.strs (nZ n)))] (45 : Nat)] (cal Tryd.f34 (5 : Nat) (7 : Nat)) (Stk.mk none false (0 : Nat) [] (5 : Nat))) := by kernel_rfl
noncomputable def cTlC2 (ck nx : Int) (ps : Ps) (is : Is) (cs : Cs) (ws : Ws) (x : CL cI) (n : CL cN) (m v : Value) (zs : List Int) : Cfg := ⟨sl 124 [(2, .ptr 0 0), (3, .ptr 1 0), (7, .ptr 2 0), (58, .s (.blit true)), (59, .s (.raw m [])), (61, avU (iW x)), (62, .s (.raw v zs))], [obSt ck nx ps is cs ws, obIt x, obNo n], cal Tryd.f34 5 8, kk 5⟩
theorem midTlC (S : Value → List Int → Prop) (ck nx : Int) (ps : Ps) (is : Is) (cs : Cs) (ws : Ws) (x : CL cI) (n : CL cN) (m v : Value) (zs : List Int) : run P (tabTk S).sum Tryd.f34 nsTl (cTlC2 ck nx ps is cs ws x n m v zs) =
  Tree.need (S v zs)
  (Tree.ite (!zs.contains (nK n)) (Tree.ret [AObj.own [AV.s (SV.int IntKind.i64 ck), AV.s (SV.int IntKind.i64 nx), AV.s (SV.ro (Con.typ cP ps)), AV.s (SV.ro (Con.typ cI is)), AV.s (SV.ro (Con.typ cC cs)), AV.s (SV.ro (Con.typ cW ws))] (27 : Nat), AObj.own [AV.s (SV.int IntKind.i64 (iI x)), AV.s (SV.int IntKind.i64 (iU x)), AV.s (SV.int IntKind.u8 (iS x)), AV.s (SV.str (iP x)), AV.s (SV.int IntKind.i64 (iN x)), AV.s (SV.int IntKind.i64 (iF x)), AV.s (SV.int IntKind.u8 (iW x)), AV.s (SV.str (iC x))] (31 : Nat), AObj.own [AV.s (SV.str (nN n)), AV.s (SV.int IntKind.u8 (nK n)), AV.s (SV.int IntKind.i64 (nI n)), AV.s (SV.int IntKind.i64 (nO n)), AV.s (SV.int IntKind.u8 (nE n)), AV.s (SV.str (nY n)), AV.s (SV.str (nT n)), AV.s (SV.str (nS n)), AV.s (SV.bool (nB n)), AV.s (SV.ro (Con.typ cV (nV n))), AV.s (SV.ro (Con.strs (nZ n)))] (45 : Nat)] (AV.s (SV.blit false)))
    (Tree.ite (iF x != (-1 : Int))
      (Tree.ite (decide (iF x < (0 : Int))) (Tree.ret [AObj.own [AV.s (SV.int IntKind.i64 ck), AV.s (SV.int IntKind.i64 nx), AV.s (SV.ro (Con.typ cP ps)), AV.s (SV.ro (Con.typ cI is)), AV.s (SV.ro (Con.typ cC cs)), AV.s (SV.ro (Con.typ cW ws))] (27 : Nat), AObj.own [AV.s (SV.int IntKind.i64 (iI x)), AV.s (SV.int IntKind.i64 (iU x)), AV.s (SV.int IntKind.u8 (iS x)), AV.s (SV.str (iP x)), AV.s (SV.int IntKind.i64 (iN x)), AV.s (SV.int IntKind.i64 (iF x)), AV.s (SV.int IntKind.u8 (iW x)), AV.s (SV.str (iC x))] (31 : Nat), AObj.own [AV.s (SV.str (nN n)), AV.s (SV.int IntKind.u8 (nK n)), AV.s (SV.int IntKind.i64 (nI n)), AV.s (SV.int IntKind.i64 (nO n)), AV.s (SV.int IntKind.u8 (nE n)), AV.s (SV.str (nY n)), AV.s (SV.str (nT n)), AV.s (SV.str (nS n)), AV.s (SV.bool (nB n)), AV.s (SV.ro (Con.typ cV (nV n))), AV.s (SV.ro (Con.strs (nZ n)))] (45 : Nat), AObj.own [AV.s (SV.str (pN (getP ps (iP x)))), AV.s (SV.ro (Con.typ cV (pV (getP ps (iP x))))), AV.s (SV.ro (Con.typ cN (pO (getP ps (iP x))))), AV.s (SV.ro (Con.typ cF (pF (getP ps (iP x)))))] (40 : Nat)] (AV.s (SV.blit false)))
        (Tree.ite (decide (iF x ≥ (↑(pF (getP ps (iP x))).length : Int))) (Tree.ret [AObj.own [AV.s (SV.int IntKind.i64 ck), AV.s (SV.int IntKind.i64 nx), AV.s (SV.ro (Con.typ cP ps)), AV.s (SV.ro (Con.typ cI is)), AV.s (SV.ro (Con.typ cC cs)), AV.s (SV.ro (Con.typ cW ws))] (27 : Nat), AObj.own [AV.s (SV.int IntKind.i64 (iI x)), AV.s (SV.int IntKind.i64 (iU x)), AV.s (SV.int IntKind.u8 (iS x)), AV.s (SV.str (iP x)), AV.s (SV.int IntKind.i64 (iN x)), AV.s (SV.int IntKind.i64 (iF x)), AV.s (SV.int IntKind.u8 (iW x)), AV.s (SV.str (iC x))] (31 : Nat), AObj.own [AV.s (SV.str (nN n)), AV.s (SV.int IntKind.u8 (nK n)), AV.s (SV.int IntKind.i64 (nI n)), AV.s (SV.int IntKind.i64 (nO n)), AV.s (SV.int IntKind.u8 (nE n)), AV.s (SV.str (nY n)), AV.s (SV.str (nT n)), AV.s (SV.str (nS n)), AV.s (SV.bool (nB n)), AV.s (SV.ro (Con.typ cV (nV n))), AV.s (SV.ro (Con.strs (nZ n)))] (45 : Nat), AObj.own [AV.s (SV.str (pN (getP ps (iP x)))), AV.s (SV.ro (Con.typ cV (pV (getP ps (iP x))))), AV.s (SV.ro (Con.typ cN (pO (getP ps (iP x))))), AV.s (SV.ro (Con.typ cF (pF (getP ps (iP x)))))] (40 : Nat)] (AV.s (SV.blit false)))
          (Tree.need ((0 : Int) ≤ iF x)
            (Tree.need (iF x < (↑(pF (getP ps (iP x))).length : Int))
              (Tree.ite (fB (el (pF (getP ps (iP x))) (iF x)) != iN x) (Tree.ret [AObj.own [AV.s (SV.int IntKind.i64 ck), AV.s (SV.int IntKind.i64 nx), AV.s (SV.ro (Con.typ cP ps)), AV.s (SV.ro (Con.typ cI is)), AV.s (SV.ro (Con.typ cC cs)), AV.s (SV.ro (Con.typ cW ws))] (27 : Nat), AObj.own [AV.s (SV.int IntKind.i64 (iI x)), AV.s (SV.int IntKind.i64 (iU x)), AV.s (SV.int IntKind.u8 (iS x)), AV.s (SV.str (iP x)), AV.s (SV.int IntKind.i64 (iN x)), AV.s (SV.int IntKind.i64 (iF x)), AV.s (SV.int IntKind.u8 (iW x)), AV.s (SV.str (iC x))] (31 : Nat), AObj.own [AV.s (SV.str (nN n)), AV.s (SV.int IntKind.u8 (nK n)), AV.s (SV.int IntKind.i64 (nI n)), AV.s (SV.int IntKind.i64 (nO n)), AV.s (SV.int IntKind.u8 (nE n)), AV.s (SV.str (nY n)), AV.s (SV.str (nT n)), AV.s (SV.str (nS n)), AV.s (SV.bool (nB n)), AV.s (SV.ro (Con.typ cV (nV n))), AV.s (SV.ro (Con.strs (nZ n)))] (45 : Nat), AObj.own [AV.s (SV.str (pN (getP ps (iP x)))), AV.s (SV.ro (Con.typ cV (pV (getP ps (iP x))))), AV.s (SV.ro (Con.typ cN (pO (getP ps (iP x))))), AV.s (SV.ro (Con.typ cF (pF (getP ps (iP x)))))] (40 : Nat)] (AV.s (SV.blit false)))
                (Tree.need (List.length is ≤ (1000000 : Nat))
                  (Tree.ite ((↑(kidsF (esOf is) (iI x)).length : Int) == (0 : Int)) (Tree.ite (iW x != (3 : Int)) (Tree.ret [AObj.own [AV.s (SV.int IntKind.i64 ck), AV.s (SV.int IntKind.i64 nx), AV.s (SV.ro (Con.typ cP ps)), AV.s (SV.ro (Con.typ cI is)), AV.s (SV.ro (Con.typ cC cs)), AV.s (SV.ro (Con.typ cW ws))] (27 : Nat), AObj.own [AV.s (SV.int IntKind.i64 (iI x)), AV.s (SV.int IntKind.i64 (iU x)), AV.s (SV.int IntKind.u8 (iS x)), AV.s (SV.str (iP x)), AV.s (SV.int IntKind.i64 (iN x)), AV.s (SV.int IntKind.i64 (iF x)), AV.s (SV.int IntKind.u8 (iW x)), AV.s (SV.str (iC x))] (31 : Nat), AObj.own [AV.s (SV.str (nN n)), AV.s (SV.int IntKind.u8 (nK n)), AV.s (SV.int IntKind.i64 (nI n)), AV.s (SV.int IntKind.i64 (nO n)), AV.s (SV.int IntKind.u8 (nE n)), AV.s (SV.str (nY n)), AV.s (SV.str (nT n)), AV.s (SV.str (nS n)), AV.s (SV.bool (nB n)), AV.s (SV.ro (Con.typ cV (nV n))), AV.s (SV.ro (Con.strs (nZ n)))] (45 : Nat), AObj.own [AV.s (SV.str (pN (getP ps (iP x)))), AV.s (SV.ro (Con.typ cV (pV (getP ps (iP x))))), AV.s (SV.ro (Con.typ cN (pO (getP ps (iP x))))), AV.s (SV.ro (Con.typ cF (pF (getP ps (iP x)))))] (40 : Nat), AObj.vec (Con.ints IntKind.i64 (kidsF (esOf is) (iI x))) (3 : Nat)] (AV.s (SV.blit true))) (Tree.ite ((↑(kidsF (esOf is) (iI x)).length : Int) == (1 : Int)) (Tree.ret [AObj.own [AV.s (SV.int IntKind.i64 ck), AV.s (SV.int IntKind.i64 nx), AV.s (SV.ro (Con.typ cP ps)), AV.s (SV.ro (Con.typ cI is)), AV.s (SV.ro (Con.typ cC cs)), AV.s (SV.ro (Con.typ cW ws))] (27 : Nat), AObj.own [AV.s (SV.int IntKind.i64 (iI x)), AV.s (SV.int IntKind.i64 (iU x)), AV.s (SV.int IntKind.u8 (iS x)), AV.s (SV.str (iP x)), AV.s (SV.int IntKind.i64 (iN x)), AV.s (SV.int IntKind.i64 (iF x)), AV.s (SV.int IntKind.u8 (iW x)), AV.s (SV.str (iC x))] (31 : Nat), AObj.own [AV.s (SV.str (nN n)), AV.s (SV.int IntKind.u8 (nK n)), AV.s (SV.int IntKind.i64 (nI n)), AV.s (SV.int IntKind.i64 (nO n)), AV.s (SV.int IntKind.u8 (nE n)), AV.s (SV.str (nY n)), AV.s (SV.str (nT n)), AV.s (SV.str (nS n)), AV.s (SV.bool (nB n)), AV.s (SV.ro (Con.typ cV (nV n))), AV.s (SV.ro (Con.strs (nZ n)))] (45 : Nat), AObj.own [AV.s (SV.str (pN (getP ps (iP x)))), AV.s (SV.ro (Con.typ cV (pV (getP ps (iP x))))), AV.s (SV.ro (Con.typ cN (pO (getP ps (iP x))))), AV.s (SV.ro (Con.typ cF (pF (getP ps (iP x)))))] (40 : Nat), AObj.vec (Con.ints IntKind.i64 (kidsF (esOf is) (iI x))) (3 : Nat)] (AV.s (SV.bool (iW x == (3 : Int))))) (Tree.ret [AObj.own [AV.s (SV.int IntKind.i64 ck), AV.s (SV.int IntKind.i64 nx), AV.s (SV.ro (Con.typ cP ps)), AV.s (SV.ro (Con.typ cI is)), AV.s (SV.ro (Con.typ cC cs)), AV.s (SV.ro (Con.typ cW ws))] (27 : Nat), AObj.own [AV.s (SV.int IntKind.i64 (iI x)), AV.s (SV.int IntKind.i64 (iU x)), AV.s (SV.int IntKind.u8 (iS x)), AV.s (SV.str (iP x)), AV.s (SV.int IntKind.i64 (iN x)), AV.s (SV.int IntKind.i64 (iF x)), AV.s (SV.int IntKind.u8 (iW x)), AV.s (SV.str (iC x))] (31 : Nat), AObj.own [AV.s (SV.str (nN n)), AV.s (SV.int IntKind.u8 (nK n)), AV.s (SV.int IntKind.i64 (nI n)), AV.s (SV.int IntKind.i64 (nO n)), AV.s (SV.int IntKind.u8 (nE n)), AV.s (SV.str (nY n)), AV.s (SV.str (nT n)), AV.s (SV.str (nS n)), AV.s (SV.bool (nB n)), AV.s (SV.ro (Con.typ cV (nV n))), AV.s (SV.ro (Con.strs (nZ n)))] (45 : Nat), AObj.own [AV.s (SV.str (pN (getP ps (iP x)))), AV.s (SV.ro (Con.typ cV (pV (getP ps (iP x))))), AV.s (SV.ro (Con.typ cN (pO (getP ps (iP x))))), AV.s (SV.ro (Con.typ cF (pF (getP ps (iP x)))))] (40 : Nat), AObj.vec (Con.ints IntKind.i64 (kidsF (esOf is) (iI x))) (3 : Nat)] (AV.s (SV.blit false)))))
                    (Tree.ite ((↑(kidsF (esOf is) (iI x)).length : Int) == (1 : Int)) (Tree.ret [AObj.own [AV.s (SV.int IntKind.i64 ck), AV.s (SV.int IntKind.i64 nx), AV.s (SV.ro (Con.typ cP ps)), AV.s (SV.ro (Con.typ cI is)), AV.s (SV.ro (Con.typ cC cs)), AV.s (SV.ro (Con.typ cW ws))] (27 : Nat), AObj.own [AV.s (SV.int IntKind.i64 (iI x)), AV.s (SV.int IntKind.i64 (iU x)), AV.s (SV.int IntKind.u8 (iS x)), AV.s (SV.str (iP x)), AV.s (SV.int IntKind.i64 (iN x)), AV.s (SV.int IntKind.i64 (iF x)), AV.s (SV.int IntKind.u8 (iW x)), AV.s (SV.str (iC x))] (31 : Nat), AObj.own [AV.s (SV.str (nN n)), AV.s (SV.int IntKind.u8 (nK n)), AV.s (SV.int IntKind.i64 (nI n)), AV.s (SV.int IntKind.i64 (nO n)), AV.s (SV.int IntKind.u8 (nE n)), AV.s (SV.str (nY n)), AV.s (SV.str (nT n)), AV.s (SV.str (nS n)), AV.s (SV.bool (nB n)), AV.s (SV.ro (Con.typ cV (nV n))), AV.s (SV.ro (Con.strs (nZ n)))] (45 : Nat), AObj.own [AV.s (SV.str (pN (getP ps (iP x)))), AV.s (SV.ro (Con.typ cV (pV (getP ps (iP x))))), AV.s (SV.ro (Con.typ cN (pO (getP ps (iP x))))), AV.s (SV.ro (Con.typ cF (pF (getP ps (iP x)))))] (40 : Nat), AObj.vec (Con.ints IntKind.i64 (kidsF (esOf is) (iI x))) (3 : Nat)] (AV.s (SV.bool (iW x == (3 : Int))))) (Tree.ret [AObj.own [AV.s (SV.int IntKind.i64 ck), AV.s (SV.int IntKind.i64 nx), AV.s (SV.ro (Con.typ cP ps)), AV.s (SV.ro (Con.typ cI is)), AV.s (SV.ro (Con.typ cC cs)), AV.s (SV.ro (Con.typ cW ws))] (27 : Nat), AObj.own [AV.s (SV.int IntKind.i64 (iI x)), AV.s (SV.int IntKind.i64 (iU x)), AV.s (SV.int IntKind.u8 (iS x)), AV.s (SV.str (iP x)), AV.s (SV.int IntKind.i64 (iN x)), AV.s (SV.int IntKind.i64 (iF x)), AV.s (SV.int IntKind.u8 (iW x)), AV.s (SV.str (iC x))] (31 : Nat), AObj.own [AV.s (SV.str (nN n)), AV.s (SV.int IntKind.u8 (nK n)), AV.s (SV.int IntKind.i64 (nI n)), AV.s (SV.int IntKind.i64 (nO n)), AV.s (SV.int IntKind.u8 (nE n)), AV.s (SV.str (nY n)), AV.s (SV.str (nT n)), AV.s (SV.str (nS n)), AV.s (SV.bool (nB n)), AV.s (SV.ro (Con.typ cV (nV n))), AV.s (SV.ro (Con.strs (nZ n)))] (45 : Nat), AObj.own [AV.s (SV.str (pN (getP ps (iP x)))), AV.s (SV.ro (Con.typ cV (pV (getP ps (iP x))))), AV.s (SV.ro (Con.typ cN (pO (getP ps (iP x))))), AV.s (SV.ro (Con.typ cF (pF (getP ps (iP x)))))] (40 : Nat), AObj.vec (Con.ints IntKind.i64 (kidsF (esOf is) (iI x))) (3 : Nat)] (AV.s (SV.blit false)))))))))))
      (Tree.need (List.length is ≤ (1000000 : Nat))
        (Tree.ite ((↑(kidsF (esOf is) (iI x)).length : Int) == (0 : Int)) (Tree.ite (iW x != (3 : Int)) (Tree.ret [AObj.own [AV.s (SV.int IntKind.i64 ck), AV.s (SV.int IntKind.i64 nx), AV.s (SV.ro (Con.typ cP ps)), AV.s (SV.ro (Con.typ cI is)), AV.s (SV.ro (Con.typ cC cs)), AV.s (SV.ro (Con.typ cW ws))] (27 : Nat), AObj.own [AV.s (SV.int IntKind.i64 (iI x)), AV.s (SV.int IntKind.i64 (iU x)), AV.s (SV.int IntKind.u8 (iS x)), AV.s (SV.str (iP x)), AV.s (SV.int IntKind.i64 (iN x)), AV.s (SV.int IntKind.i64 (iF x)), AV.s (SV.int IntKind.u8 (iW x)), AV.s (SV.str (iC x))] (31 : Nat), AObj.own [AV.s (SV.str (nN n)), AV.s (SV.int IntKind.u8 (nK n)), AV.s (SV.int IntKind.i64 (nI n)), AV.s (SV.int IntKind.i64 (nO n)), AV.s (SV.int IntKind.u8 (nE n)), AV.s (SV.str (nY n)), AV.s (SV.str (nT n)), AV.s (SV.str (nS n)), AV.s (SV.bool (nB n)), AV.s (SV.ro (Con.typ cV (nV n))), AV.s (SV.ro (Con.strs (nZ n)))] (45 : Nat), AObj.own [AV.s (SV.str (pN (getP ps (iP x)))), AV.s (SV.ro (Con.typ cV (pV (getP ps (iP x))))), AV.s (SV.ro (Con.typ cN (pO (getP ps (iP x))))), AV.s (SV.ro (Con.typ cF (pF (getP ps (iP x)))))] (40 : Nat), AObj.vec (Con.ints IntKind.i64 (kidsF (esOf is) (iI x))) (3 : Nat)] (AV.s (SV.blit true))) (Tree.ite ((↑(kidsF (esOf is) (iI x)).length : Int) == (1 : Int)) (Tree.ret [AObj.own [AV.s (SV.int IntKind.i64 ck), AV.s (SV.int IntKind.i64 nx), AV.s (SV.ro (Con.typ cP ps)), AV.s (SV.ro (Con.typ cI is)), AV.s (SV.ro (Con.typ cC cs)), AV.s (SV.ro (Con.typ cW ws))] (27 : Nat), AObj.own [AV.s (SV.int IntKind.i64 (iI x)), AV.s (SV.int IntKind.i64 (iU x)), AV.s (SV.int IntKind.u8 (iS x)), AV.s (SV.str (iP x)), AV.s (SV.int IntKind.i64 (iN x)), AV.s (SV.int IntKind.i64 (iF x)), AV.s (SV.int IntKind.u8 (iW x)), AV.s (SV.str (iC x))] (31 : Nat), AObj.own [AV.s (SV.str (nN n)), AV.s (SV.int IntKind.u8 (nK n)), AV.s (SV.int IntKind.i64 (nI n)), AV.s (SV.int IntKind.i64 (nO n)), AV.s (SV.int IntKind.u8 (nE n)), AV.s (SV.str (nY n)), AV.s (SV.str (nT n)), AV.s (SV.str (nS n)), AV.s (SV.bool (nB n)), AV.s (SV.ro (Con.typ cV (nV n))), AV.s (SV.ro (Con.strs (nZ n)))] (45 : Nat), AObj.own [AV.s (SV.str (pN (getP ps (iP x)))), AV.s (SV.ro (Con.typ cV (pV (getP ps (iP x))))), AV.s (SV.ro (Con.typ cN (pO (getP ps (iP x))))), AV.s (SV.ro (Con.typ cF (pF (getP ps (iP x)))))] (40 : Nat), AObj.vec (Con.ints IntKind.i64 (kidsF (esOf is) (iI x))) (3 : Nat)] (AV.s (SV.bool (iW x == (3 : Int))))) (Tree.ret [AObj.own [AV.s (SV.int IntKind.i64 ck), AV.s (SV.int IntKind.i64 nx), AV.s (SV.ro (Con.typ cP ps)), AV.s (SV.ro (Con.typ cI is)), AV.s (SV.ro (Con.typ cC cs)), AV.s (SV.ro (Con.typ cW ws))] (27 : Nat), AObj.own [AV.s (SV.int IntKind.i64 (iI x)), AV.s (SV.int IntKind.i64 (iU x)), AV.s (SV.int IntKind.u8 (iS x)), AV.s (SV.str (iP x)), AV.s (SV.int IntKind.i64 (iN x)), AV.s (SV.int IntKind.i64 (iF x)), AV.s (SV.int IntKind.u8 (iW x)), AV.s (SV.str (iC x))] (31 : Nat), AObj.own [AV.s (SV.str (nN n)), AV.s (SV.int IntKind.u8 (nK n)), AV.s (SV.int IntKind.i64 (nI n)), AV.s (SV.int IntKind.i64 (nO n)), AV.s (SV.int IntKind.u8 (nE n)), AV.s (SV.str (nY n)), AV.s (SV.str (nT n)), AV.s (SV.str (nS n)), AV.s (SV.bool (nB n)), AV.s (SV.ro (Con.typ cV (nV n))), AV.s (SV.ro (Con.strs (nZ n)))] (45 : Nat), AObj.own [AV.s (SV.str (pN (getP ps (iP x)))), AV.s (SV.ro (Con.typ cV (pV (getP ps (iP x))))), AV.s (SV.ro (Con.typ cN (pO (getP ps (iP x))))), AV.s (SV.ro (Con.typ cF (pF (getP ps (iP x)))))] (40 : Nat), AObj.vec (Con.ints IntKind.i64 (kidsF (esOf is) (iI x))) (3 : Nat)] (AV.s (SV.blit false)))))
          (Tree.ite ((↑(kidsF (esOf is) (iI x)).length : Int) == (1 : Int)) (Tree.ret [AObj.own [AV.s (SV.int IntKind.i64 ck), AV.s (SV.int IntKind.i64 nx), AV.s (SV.ro (Con.typ cP ps)), AV.s (SV.ro (Con.typ cI is)), AV.s (SV.ro (Con.typ cC cs)), AV.s (SV.ro (Con.typ cW ws))] (27 : Nat), AObj.own [AV.s (SV.int IntKind.i64 (iI x)), AV.s (SV.int IntKind.i64 (iU x)), AV.s (SV.int IntKind.u8 (iS x)), AV.s (SV.str (iP x)), AV.s (SV.int IntKind.i64 (iN x)), AV.s (SV.int IntKind.i64 (iF x)), AV.s (SV.int IntKind.u8 (iW x)), AV.s (SV.str (iC x))] (31 : Nat), AObj.own [AV.s (SV.str (nN n)), AV.s (SV.int IntKind.u8 (nK n)), AV.s (SV.int IntKind.i64 (nI n)), AV.s (SV.int IntKind.i64 (nO n)), AV.s (SV.int IntKind.u8 (nE n)), AV.s (SV.str (nY n)), AV.s (SV.str (nT n)), AV.s (SV.str (nS n)), AV.s (SV.bool (nB n)), AV.s (SV.ro (Con.typ cV (nV n))), AV.s (SV.ro (Con.strs (nZ n)))] (45 : Nat), AObj.own [AV.s (SV.str (pN (getP ps (iP x)))), AV.s (SV.ro (Con.typ cV (pV (getP ps (iP x))))), AV.s (SV.ro (Con.typ cN (pO (getP ps (iP x))))), AV.s (SV.ro (Con.typ cF (pF (getP ps (iP x)))))] (40 : Nat), AObj.vec (Con.ints IntKind.i64 (kidsF (esOf is) (iI x))) (3 : Nat)] (AV.s (SV.bool (iW x == (3 : Int))))) (Tree.ret [AObj.own [AV.s (SV.int IntKind.i64 ck), AV.s (SV.int IntKind.i64 nx), AV.s (SV.ro (Con.typ cP ps)), AV.s (SV.ro (Con.typ cI is)), AV.s (SV.ro (Con.typ cC cs)), AV.s (SV.ro (Con.typ cW ws))] (27 : Nat), AObj.own [AV.s (SV.int IntKind.i64 (iI x)), AV.s (SV.int IntKind.i64 (iU x)), AV.s (SV.int IntKind.u8 (iS x)), AV.s (SV.str (iP x)), AV.s (SV.int IntKind.i64 (iN x)), AV.s (SV.int IntKind.i64 (iF x)), AV.s (SV.int IntKind.u8 (iW x)), AV.s (SV.str (iC x))] (31 : Nat), AObj.own [AV.s (SV.str (nN n)), AV.s (SV.int IntKind.u8 (nK n)), AV.s (SV.int IntKind.i64 (nI n)), AV.s (SV.int IntKind.i64 (nO n)), AV.s (SV.int IntKind.u8 (nE n)), AV.s (SV.str (nY n)), AV.s (SV.str (nT n)), AV.s (SV.str (nS n)), AV.s (SV.bool (nB n)), AV.s (SV.ro (Con.typ cV (nV n))), AV.s (SV.ro (Con.strs (nZ n)))] (45 : Nat), AObj.own [AV.s (SV.str (pN (getP ps (iP x)))), AV.s (SV.ro (Con.typ cV (pV (getP ps (iP x))))), AV.s (SV.ro (Con.typ cN (pO (getP ps (iP x))))), AV.s (SV.ro (Con.typ cF (pF (getP ps (iP x)))))] (40 : Nat), AObj.vec (Con.ints IntKind.i64 (kidsF (esOf is) (iI x))) (3 : Nat)] (AV.s (SV.blit false)))))))) := by kernel_rfl
noncomputable def cTlD (ck nx : Int) (ps : Ps) (is : Is) (cs : Cs) (ws : Ws) (x : CL cI) : Cfg := ⟨sl 124 [(2, .ptr 0 0), (3, .ptr 1 0)], [obSt ck nx ps is cs ws, obIt x], hr Tryd.f34 7, {}⟩
theorem midTlD (S : Value → List Int → Prop) (ck nx : Int) (ps : Ps) (is : Is) (cs : Cs) (ws : Ws) (x : CL cI) : run P (tabTk S).sum Tryd.f34 nsTl (cTlD ck nx ps is cs ws x) =
  Tree.ite (iF x != (-1 : Int))
  (Tree.ite (decide (iF x < (0 : Int))) (Tree.ret [AObj.own [AV.s (SV.int IntKind.i64 ck), AV.s (SV.int IntKind.i64 nx), AV.s (SV.ro (Con.typ cP ps)), AV.s (SV.ro (Con.typ cI is)), AV.s (SV.ro (Con.typ cC cs)), AV.s (SV.ro (Con.typ cW ws))] (27 : Nat), AObj.own [AV.s (SV.int IntKind.i64 (iI x)), AV.s (SV.int IntKind.i64 (iU x)), AV.s (SV.int IntKind.u8 (iS x)), AV.s (SV.str (iP x)), AV.s (SV.int IntKind.i64 (iN x)), AV.s (SV.int IntKind.i64 (iF x)), AV.s (SV.int IntKind.u8 (iW x)), AV.s (SV.str (iC x))] (31 : Nat), AObj.own [AV.s (SV.str (pN (getP ps (iP x)))), AV.s (SV.ro (Con.typ cV (pV (getP ps (iP x))))), AV.s (SV.ro (Con.typ cN (pO (getP ps (iP x))))), AV.s (SV.ro (Con.typ cF (pF (getP ps (iP x)))))] (40 : Nat)] (AV.s (SV.blit false)))
    (Tree.ite (decide (iF x ≥ (↑(pF (getP ps (iP x))).length : Int))) (Tree.ret [AObj.own [AV.s (SV.int IntKind.i64 ck), AV.s (SV.int IntKind.i64 nx), AV.s (SV.ro (Con.typ cP ps)), AV.s (SV.ro (Con.typ cI is)), AV.s (SV.ro (Con.typ cC cs)), AV.s (SV.ro (Con.typ cW ws))] (27 : Nat), AObj.own [AV.s (SV.int IntKind.i64 (iI x)), AV.s (SV.int IntKind.i64 (iU x)), AV.s (SV.int IntKind.u8 (iS x)), AV.s (SV.str (iP x)), AV.s (SV.int IntKind.i64 (iN x)), AV.s (SV.int IntKind.i64 (iF x)), AV.s (SV.int IntKind.u8 (iW x)), AV.s (SV.str (iC x))] (31 : Nat), AObj.own [AV.s (SV.str (pN (getP ps (iP x)))), AV.s (SV.ro (Con.typ cV (pV (getP ps (iP x))))), AV.s (SV.ro (Con.typ cN (pO (getP ps (iP x))))), AV.s (SV.ro (Con.typ cF (pF (getP ps (iP x)))))] (40 : Nat)] (AV.s (SV.blit false)))
      (Tree.need ((0 : Int) ≤ iF x)
        (Tree.need (iF x < (↑(pF (getP ps (iP x))).length : Int))
          (Tree.ite (fB (el (pF (getP ps (iP x))) (iF x)) != iN x) (Tree.ret [AObj.own [AV.s (SV.int IntKind.i64 ck), AV.s (SV.int IntKind.i64 nx), AV.s (SV.ro (Con.typ cP ps)), AV.s (SV.ro (Con.typ cI is)), AV.s (SV.ro (Con.typ cC cs)), AV.s (SV.ro (Con.typ cW ws))] (27 : Nat), AObj.own [AV.s (SV.int IntKind.i64 (iI x)), AV.s (SV.int IntKind.i64 (iU x)), AV.s (SV.int IntKind.u8 (iS x)), AV.s (SV.str (iP x)), AV.s (SV.int IntKind.i64 (iN x)), AV.s (SV.int IntKind.i64 (iF x)), AV.s (SV.int IntKind.u8 (iW x)), AV.s (SV.str (iC x))] (31 : Nat), AObj.own [AV.s (SV.str (pN (getP ps (iP x)))), AV.s (SV.ro (Con.typ cV (pV (getP ps (iP x))))), AV.s (SV.ro (Con.typ cN (pO (getP ps (iP x))))), AV.s (SV.ro (Con.typ cF (pF (getP ps (iP x)))))] (40 : Nat)] (AV.s (SV.blit false)))
            (Tree.need (List.length is ≤ (1000000 : Nat))
              (Tree.ite ((↑(kidsF (esOf is) (iI x)).length : Int) == (0 : Int)) (Tree.ite (iW x != (3 : Int)) (Tree.ret [AObj.own [AV.s (SV.int IntKind.i64 ck), AV.s (SV.int IntKind.i64 nx), AV.s (SV.ro (Con.typ cP ps)), AV.s (SV.ro (Con.typ cI is)), AV.s (SV.ro (Con.typ cC cs)), AV.s (SV.ro (Con.typ cW ws))] (27 : Nat), AObj.own [AV.s (SV.int IntKind.i64 (iI x)), AV.s (SV.int IntKind.i64 (iU x)), AV.s (SV.int IntKind.u8 (iS x)), AV.s (SV.str (iP x)), AV.s (SV.int IntKind.i64 (iN x)), AV.s (SV.int IntKind.i64 (iF x)), AV.s (SV.int IntKind.u8 (iW x)), AV.s (SV.str (iC x))] (31 : Nat), AObj.own [AV.s (SV.str (pN (getP ps (iP x)))), AV.s (SV.ro (Con.typ cV (pV (getP ps (iP x))))), AV.s (SV.ro (Con.typ cN (pO (getP ps (iP x))))), AV.s (SV.ro (Con.typ cF (pF (getP ps (iP x)))))] (40 : Nat), AObj.vec (Con.ints IntKind.i64 (kidsF (esOf is) (iI x))) (3 : Nat)] (AV.s (SV.blit true))) (Tree.ite ((↑(kidsF (esOf is) (iI x)).length : Int) == (1 : Int)) (Tree.ret [AObj.own [AV.s (SV.int IntKind.i64 ck), AV.s (SV.int IntKind.i64 nx), AV.s (SV.ro (Con.typ cP ps)), AV.s (SV.ro (Con.typ cI is)), AV.s (SV.ro (Con.typ cC cs)), AV.s (SV.ro (Con.typ cW ws))] (27 : Nat), AObj.own [AV.s (SV.int IntKind.i64 (iI x)), AV.s (SV.int IntKind.i64 (iU x)), AV.s (SV.int IntKind.u8 (iS x)), AV.s (SV.str (iP x)), AV.s (SV.int IntKind.i64 (iN x)), AV.s (SV.int IntKind.i64 (iF x)), AV.s (SV.int IntKind.u8 (iW x)), AV.s (SV.str (iC x))] (31 : Nat), AObj.own [AV.s (SV.str (pN (getP ps (iP x)))), AV.s (SV.ro (Con.typ cV (pV (getP ps (iP x))))), AV.s (SV.ro (Con.typ cN (pO (getP ps (iP x))))), AV.s (SV.ro (Con.typ cF (pF (getP ps (iP x)))))] (40 : Nat), AObj.vec (Con.ints IntKind.i64 (kidsF (esOf is) (iI x))) (3 : Nat)] (AV.s (SV.bool (iW x == (3 : Int))))) (Tree.ret [AObj.own [AV.s (SV.int IntKind.i64 ck), AV.s (SV.int IntKind.i64 nx), AV.s (SV.ro (Con.typ cP ps)), AV.s (SV.ro (Con.typ cI is)), AV.s (SV.ro (Con.typ cC cs)), AV.s (SV.ro (Con.typ cW ws))] (27 : Nat), AObj.own [AV.s (SV.int IntKind.i64 (iI x)), AV.s (SV.int IntKind.i64 (iU x)), AV.s (SV.int IntKind.u8 (iS x)), AV.s (SV.str (iP x)), AV.s (SV.int IntKind.i64 (iN x)), AV.s (SV.int IntKind.i64 (iF x)), AV.s (SV.int IntKind.u8 (iW x)), AV.s (SV.str (iC x))] (31 : Nat), AObj.own [AV.s (SV.str (pN (getP ps (iP x)))), AV.s (SV.ro (Con.typ cV (pV (getP ps (iP x))))), AV.s (SV.ro (Con.typ cN (pO (getP ps (iP x))))), AV.s (SV.ro (Con.typ cF (pF (getP ps (iP x)))))] (40 : Nat), AObj.vec (Con.ints IntKind.i64 (kidsF (esOf is) (iI x))) (3 : Nat)] (AV.s (SV.blit false)))))
                (Tree.ite ((↑(kidsF (esOf is) (iI x)).length : Int) == (1 : Int)) (Tree.ret [AObj.own [AV.s (SV.int IntKind.i64 ck), AV.s (SV.int IntKind.i64 nx), AV.s (SV.ro (Con.typ cP ps)), AV.s (SV.ro (Con.typ cI is)), AV.s (SV.ro (Con.typ cC cs)), AV.s (SV.ro (Con.typ cW ws))] (27 : Nat), AObj.own [AV.s (SV.int IntKind.i64 (iI x)), AV.s (SV.int IntKind.i64 (iU x)), AV.s (SV.int IntKind.u8 (iS x)), AV.s (SV.str (iP x)), AV.s (SV.int IntKind.i64 (iN x)), AV.s (SV.int IntKind.i64 (iF x)), AV.s (SV.int IntKind.u8 (iW x)), AV.s (SV.str (iC x))] (31 : Nat), AObj.own [AV.s (SV.str (pN (getP ps (iP x)))), AV.s (SV.ro (Con.typ cV (pV (getP ps (iP x))))), AV.s (SV.ro (Con.typ cN (pO (getP ps (iP x))))), AV.s (SV.ro (Con.typ cF (pF (getP ps (iP x)))))] (40 : Nat), AObj.vec (Con.ints IntKind.i64 (kidsF (esOf is) (iI x))) (3 : Nat)] (AV.s (SV.bool (iW x == (3 : Int))))) (Tree.ret [AObj.own [AV.s (SV.int IntKind.i64 ck), AV.s (SV.int IntKind.i64 nx), AV.s (SV.ro (Con.typ cP ps)), AV.s (SV.ro (Con.typ cI is)), AV.s (SV.ro (Con.typ cC cs)), AV.s (SV.ro (Con.typ cW ws))] (27 : Nat), AObj.own [AV.s (SV.int IntKind.i64 (iI x)), AV.s (SV.int IntKind.i64 (iU x)), AV.s (SV.int IntKind.u8 (iS x)), AV.s (SV.str (iP x)), AV.s (SV.int IntKind.i64 (iN x)), AV.s (SV.int IntKind.i64 (iF x)), AV.s (SV.int IntKind.u8 (iW x)), AV.s (SV.str (iC x))] (31 : Nat), AObj.own [AV.s (SV.str (pN (getP ps (iP x)))), AV.s (SV.ro (Con.typ cV (pV (getP ps (iP x))))), AV.s (SV.ro (Con.typ cN (pO (getP ps (iP x))))), AV.s (SV.ro (Con.typ cF (pF (getP ps (iP x)))))] (40 : Nat), AObj.vec (Con.ints IntKind.i64 (kidsF (esOf is) (iI x))) (3 : Nat)] (AV.s (SV.blit false)))))))))))
  (Tree.need (List.length is ≤ (1000000 : Nat))
    (Tree.ite ((↑(kidsF (esOf is) (iI x)).length : Int) == (0 : Int)) (Tree.ite (iW x != (3 : Int)) (Tree.ret [AObj.own [AV.s (SV.int IntKind.i64 ck), AV.s (SV.int IntKind.i64 nx), AV.s (SV.ro (Con.typ cP ps)), AV.s (SV.ro (Con.typ cI is)), AV.s (SV.ro (Con.typ cC cs)), AV.s (SV.ro (Con.typ cW ws))] (27 : Nat), AObj.own [AV.s (SV.int IntKind.i64 (iI x)), AV.s (SV.int IntKind.i64 (iU x)), AV.s (SV.int IntKind.u8 (iS x)), AV.s (SV.str (iP x)), AV.s (SV.int IntKind.i64 (iN x)), AV.s (SV.int IntKind.i64 (iF x)), AV.s (SV.int IntKind.u8 (iW x)), AV.s (SV.str (iC x))] (31 : Nat), AObj.own [AV.s (SV.str (pN (getP ps (iP x)))), AV.s (SV.ro (Con.typ cV (pV (getP ps (iP x))))), AV.s (SV.ro (Con.typ cN (pO (getP ps (iP x))))), AV.s (SV.ro (Con.typ cF (pF (getP ps (iP x)))))] (40 : Nat), AObj.vec (Con.ints IntKind.i64 (kidsF (esOf is) (iI x))) (3 : Nat)] (AV.s (SV.blit true))) (Tree.ite ((↑(kidsF (esOf is) (iI x)).length : Int) == (1 : Int)) (Tree.ret [AObj.own [AV.s (SV.int IntKind.i64 ck), AV.s (SV.int IntKind.i64 nx), AV.s (SV.ro (Con.typ cP ps)), AV.s (SV.ro (Con.typ cI is)), AV.s (SV.ro (Con.typ cC cs)), AV.s (SV.ro (Con.typ cW ws))] (27 : Nat), AObj.own [AV.s (SV.int IntKind.i64 (iI x)), AV.s (SV.int IntKind.i64 (iU x)), AV.s (SV.int IntKind.u8 (iS x)), AV.s (SV.str (iP x)), AV.s (SV.int IntKind.i64 (iN x)), AV.s (SV.int IntKind.i64 (iF x)), AV.s (SV.int IntKind.u8 (iW x)), AV.s (SV.str (iC x))] (31 : Nat), AObj.own [AV.s (SV.str (pN (getP ps (iP x)))), AV.s (SV.ro (Con.typ cV (pV (getP ps (iP x))))), AV.s (SV.ro (Con.typ cN (pO (getP ps (iP x))))), AV.s (SV.ro (Con.typ cF (pF (getP ps (iP x)))))] (40 : Nat), AObj.vec (Con.ints IntKind.i64 (kidsF (esOf is) (iI x))) (3 : Nat)] (AV.s (SV.bool (iW x == (3 : Int))))) (Tree.ret [AObj.own [AV.s (SV.int IntKind.i64 ck), AV.s (SV.int IntKind.i64 nx), AV.s (SV.ro (Con.typ cP ps)), AV.s (SV.ro (Con.typ cI is)), AV.s (SV.ro (Con.typ cC cs)), AV.s (SV.ro (Con.typ cW ws))] (27 : Nat), AObj.own [AV.s (SV.int IntKind.i64 (iI x)), AV.s (SV.int IntKind.i64 (iU x)), AV.s (SV.int IntKind.u8 (iS x)), AV.s (SV.str (iP x)), AV.s (SV.int IntKind.i64 (iN x)), AV.s (SV.int IntKind.i64 (iF x)), AV.s (SV.int IntKind.u8 (iW x)), AV.s (SV.str (iC x))] (31 : Nat), AObj.own [AV.s (SV.str (pN (getP ps (iP x)))), AV.s (SV.ro (Con.typ cV (pV (getP ps (iP x))))), AV.s (SV.ro (Con.typ cN (pO (getP ps (iP x))))), AV.s (SV.ro (Con.typ cF (pF (getP ps (iP x)))))] (40 : Nat), AObj.vec (Con.ints IntKind.i64 (kidsF (esOf is) (iI x))) (3 : Nat)] (AV.s (SV.blit false)))))
      (Tree.ite ((↑(kidsF (esOf is) (iI x)).length : Int) == (1 : Int)) (Tree.ret [AObj.own [AV.s (SV.int IntKind.i64 ck), AV.s (SV.int IntKind.i64 nx), AV.s (SV.ro (Con.typ cP ps)), AV.s (SV.ro (Con.typ cI is)), AV.s (SV.ro (Con.typ cC cs)), AV.s (SV.ro (Con.typ cW ws))] (27 : Nat), AObj.own [AV.s (SV.int IntKind.i64 (iI x)), AV.s (SV.int IntKind.i64 (iU x)), AV.s (SV.int IntKind.u8 (iS x)), AV.s (SV.str (iP x)), AV.s (SV.int IntKind.i64 (iN x)), AV.s (SV.int IntKind.i64 (iF x)), AV.s (SV.int IntKind.u8 (iW x)), AV.s (SV.str (iC x))] (31 : Nat), AObj.own [AV.s (SV.str (pN (getP ps (iP x)))), AV.s (SV.ro (Con.typ cV (pV (getP ps (iP x))))), AV.s (SV.ro (Con.typ cN (pO (getP ps (iP x))))), AV.s (SV.ro (Con.typ cF (pF (getP ps (iP x)))))] (40 : Nat), AObj.vec (Con.ints IntKind.i64 (kidsF (esOf is) (iI x))) (3 : Nat)] (AV.s (SV.bool (iW x == (3 : Int))))) (Tree.ret [AObj.own [AV.s (SV.int IntKind.i64 ck), AV.s (SV.int IntKind.i64 nx), AV.s (SV.ro (Con.typ cP ps)), AV.s (SV.ro (Con.typ cI is)), AV.s (SV.ro (Con.typ cC cs)), AV.s (SV.ro (Con.typ cW ws))] (27 : Nat), AObj.own [AV.s (SV.int IntKind.i64 (iI x)), AV.s (SV.int IntKind.i64 (iU x)), AV.s (SV.int IntKind.u8 (iS x)), AV.s (SV.str (iP x)), AV.s (SV.int IntKind.i64 (iN x)), AV.s (SV.int IntKind.i64 (iF x)), AV.s (SV.int IntKind.u8 (iW x)), AV.s (SV.str (iC x))] (31 : Nat), AObj.own [AV.s (SV.str (pN (getP ps (iP x)))), AV.s (SV.ro (Con.typ cV (pV (getP ps (iP x))))), AV.s (SV.ro (Con.typ cN (pO (getP ps (iP x))))), AV.s (SV.ro (Con.typ cF (pF (getP ps (iP x)))))] (40 : Nat), AObj.vec (Con.ints IntKind.i64 (kidsF (esOf is) (iI x))) (3 : Nat)] (AV.s (SV.blit false)))))) := by kernel_rfl
end Ds

namespace Ds
open Go Go.Sx Go.Proofs Lf
def scopeF (ps : Ps) (is : Is) (x : CL cI) : Bool :=
  (iF x == -1) && (iW x == 0) && decide (iC x = ByteArray.empty) && !decide (depthF is (iI x) > 12) && ((iN x == -1) || (hasN ps (iP x) (iN x) && scnF (nK (ndF ps (iP x) (iN x))))) &&
  (if iU x = 0 then iN x == -1
   else if gS is (iU x) = 1 then hasN ps (iP x) (iN x) && (nK (ndF ps (iP x) (iN x)) == 13) && decide (gP is (iU x) = iP x) && (nI (ndF ps (iP x) (iN x)) == gN is (iU x))
   else hasN ps (gP is (iU x)) (gN is (iU x)) && (gW is (iU x) == 3) &&
     (if iN x = -1 then (nK (ndF ps (gP is (iU x)) (gN is (iU x))) == 14) && decide (nY (ndF ps (gP is (iU x)) (gN is (iU x))) = iP x)
      else decide (gP is (iU x) = iP x) && (gN is (iU x) == iN x)))
def kidsN (is : Is) (x : CL cI) : Int := ((kidsF (esOf is) (iI x)).length : Int)
def tokT (ps : Ps) (is : Is) (x : CL cI) : Bool :=
  ((iF x == -1) || (!decide (iF x < 0) && !decide (iF x ≥ ((pF (getP ps (iP x))).length : Int)) && (fB (el (pF (getP ps (iP x))) (iF x)) == iN x))) &&
  (((kidsN is x == 0) && (iW x != 3)) || ((kidsN is x == 1) && (iW x == 3)))
def tokenF (ps : Ps) (is : Is) (x : CL cI) : Bool :=
  (gS is (iU x) == 1) && decide (gP is (iU x) = iP x) && hasN ps (iP x) (iN x) && (nI (ndF ps (iP x) (iN x)) == gN is (iU x)) && ((!decide (iC x = ByteArray.empty)) == (iW x == 6)) &&
  ((iW x == 1) || (kindsF (iW x)).contains (nK (ndF ps (iP x) (iN x)))) && tokT ps is x
abbrev gKi : Nat := 0
abbrev tKi : TypeId := 109
theorem ends_is {L : List AObj} {b c : Bool} (h : b = c) : Ends [tBool] (b, ()) L (.s (.bool c)) := by subst h; exact rfl
theorem ends_il {L : List AObj} {b c : Bool} (h : b = c) : Ends [tBool] (b, ()) L (.s (.blit c)) := by subst h; exact rfl
theorem sc0_ok {Z : Glob} : FnOk P Z 62 [tU8] [tBool] (fun _ => []) (fun (k, ()) => (scnF k, ())) := by
  refine fnOk_of_safe Tryd.func62 (by kernel_rfl) (by kernel_rfl) ?_
  rintro ⟨(k : Int), ⟨⟩⟩ _ _ X hX hz
  show Safe P 62 X (Ends [tBool] (scnF k, ())) _
  refine go hz hX tabAc_ok Tryd.func62 (trSc0 k) ?_
  exact ends_eq _ rfl (by kernel_rfl)
theorem tabSc_ok {Z : Glob} : tabSc.Ok P Z := Tab.Ok.cons node_ok.sumR (Tab.Ok.cons depth_ok.sum (Tab.Ok.cons sc0_ok.sum (Tab.Ok.cons find_ok.sum Tab.Ok.nil)))
theorem scope_ok {Z : Glob} : FnOk P Z 33 [tSt, tIt] [tBool] (fun _ => []) (fun ((_, _, ps, is, _, _, ()), x, ()) => (scopeF ps is x, ())) := by
  refine fnOk_of_safe Tryd.func33 (by kernel_rfl) (by kernel_rfl) ?_
  rintro ⟨⟨(ck : Int), (nx : Int), (ps : Ps), (is : Is), (cs : Cs), (ws : Ws), ⟨⟩⟩, (x : CL cI), ⟨⟩⟩ _ _ X hX hz
  show Safe P 33 X (Ends [tBool] (scopeF ps is x, ())) _
  have mid : ∀ n b, scopeF ps is x = (if gS is (iU x) = 1 then b && (nK n == 13) && decide (gP is (iU x) = iP x) && (nI n == gN is (iU x))
   else hasN ps (gP is (iU x)) (gN is (iU x)) && (gW is (iU x) == 3) &&
     (if iN x = -1 then (nK (ndF ps (gP is (iU x)) (gN is (iU x))) == 14) && decide (nY (ndF ps (gP is (iU x)) (gN is (iU x))) = iP x)
      else decide (gP is (iU x) = iP x) && (gN is (iU x) == iN x))) → Safe P 33 X (Ends [tBool] (scopeF ps is x, ())) (cSc ck nx ps is cs ws x n b) := by
    intro n b he
    rw [he]
    clear he
    refine go hz hX tabSc_ok Tryd.func33 (midSc ck nx ps is cs ws x n b) ?_
    generalize hasN ps (gP is (iU x)) (gN is (iU x)) = hb
    generalize ndF ps (gP is (iU x)) (gN is (iU x)) = md
    repeat' (with_reducible (first | refine h_eq ?_ | refine h_need ?_ ?_ | refine h_dec (fun _ => ?_) (fun _ => ?_) | refine h_beq (fun _ => ?_) (fun _ => ?_) | refine h_bne (fun _ => ?_) (fun _ => ?_) | refine h_tt ?_ | refine h_ff ?_ | refine h_not ?_ | refine h_ite (fun _ => ?_) (fun _ => ?_) | refine h_both (fun _ => ?_) (fun _ => ?_) | refine h_ret ?_ | refine h_at ?_))
    all_goals first | exact ends_is (by simp [*]) | exact ends_il (by simp [*]) | exact ends_is (by simp_all) | exact ends_il (by simp_all)
  refine go hz hX tabSc_ok Tryd.func33 (trSc ck nx ps is cs ws x) ?_
  repeat' (with_reducible (first | refine h_eq ?_ | refine h_need ?_ ?_ | refine h_dec (fun _ => ?_) (fun _ => ?_) | refine h_beq (fun _ => ?_) (fun _ => ?_) | refine h_bne (fun _ => ?_) (fun _ => ?_) | refine h_tt ?_ | refine h_ff ?_ | refine h_not ?_ | refine h_ite (fun _ => ?_) (fun _ => ?_) | refine h_both (fun _ => ?_) (fun _ => ?_) | refine h_ret ?_ | refine h_at ?_))
  all_goals first
    | exact mid _ _ (by unfold scopeF; simp [*])
    | exact ends_is (by unfold scopeF; simp [*])
    | exact ends_il (by unfold scopeF; simp [*])
    | skip
theorem tabTk_ok {Z : Glob} (KV : MapVar P Z gKi tKi kindsF) : (tabTk (fun v zs => ∃ n, v = KV.at_ n ∧ zs = kindsF n)).Ok P Z :=
  Tab.Ok.cons node_ok.sumR (Tab.Ok.cons find_ok.sum (Tab.Ok.cons (sumIf_ok (sumKV_ok KV h8_ok) h8_ok.sum) (Tab.Ok.cons def_ok.sumR (Tab.Ok.cons kids_ok.sum Tab.Ok.nil))))
theorem token_ok {Z : Glob} (KV : MapVar P Z gKi tKi kindsF) : FnOk P Z 34 [tSt, tIt] [tBool] (fun ((_, _, _, is, _, _, ()), _, ()) => [(is : Is).length ≤ 1000000]) (fun ((_, _, ps, is, _, _, ()), x, ()) => (tokenF ps is x, ())) := by
  refine fnOk_of_safe Tryd.func34 (by kernel_rfl) (by kernel_rfl) ?_
  rintro ⟨⟨(ck : Int), (nx : Int), (ps : Ps), (is : Is), (cs : Cs), (ws : Ws), ⟨⟩⟩, (x : CL cI), ⟨⟩⟩ _ ⟨(hl : is.length ≤ 1000000), _⟩ X hX hz
  show Safe P 34 X (Ends [tBool] (tokenF ps is x, ())) _
  have tailD : tokenF ps is x = tokT ps is x → Safe P 34 X (Ends [tBool] (tokenF ps is x, ())) (cTlD ck nx ps is cs ws x) := fun he => by
    rw [he]
    refine go hz hX (tabTk_ok KV) Tryd.func34 (midTlD _ ck nx ps is cs ws x) ?_
    unfold tokT kidsN
    clear he
    generalize ((kidsF (esOf is) (iI x)).length : Int) = L
    generalize el (pF (getP ps (iP x))) (iF x) = fl
    generalize ((pF (getP ps (iP x))).length : Int) = fn
    repeat' (with_reducible (first | refine h_eq ?_ | refine h_need ?_ ?_ | refine h_dec (fun _ => ?_) (fun _ => ?_) | refine h_beq (fun _ => ?_) (fun _ => ?_) | refine h_bne (fun _ => ?_) (fun _ => ?_) | refine h_tt ?_ | refine h_ff ?_ | refine h_not ?_ | refine h_ite (fun _ => ?_) (fun _ => ?_) | refine h_both (fun _ => ?_) (fun _ => ?_) | refine h_ret ?_ | refine h_at ?_))
    all_goals first | omega | exact ends_is (by simp [*]) | exact ends_il (by simp [*]) | exact ends_is (by simp_all) | exact ends_il (by simp_all)
  have tailC : iW x ≠ 1 → ∀ n v zs, (∃ k, v = KV.at_ k ∧ zs = kindsF k) → tokenF ps is x = (zs.contains (nK n) && tokT ps is x) → Safe P 34 X (Ends [tBool] (tokenF ps is x, ())) (cTlC2 ck nx ps is cs ws x n KV.m v zs) := fun hw n v zs hv he => by
    rw [he]
    refine go hz hX (tabTk_ok KV) Tryd.func34 (midTlC _ ck nx ps is cs ws x n KV.m v zs) ⟨hv, ?_⟩
    unfold tokT kidsN
    clear he hv
    generalize ((kidsF (esOf is) (iI x)).length : Int) = L
    generalize el (pF (getP ps (iP x))) (iF x) = fl
    generalize ((pF (getP ps (iP x))).length : Int) = fn
    generalize zs.contains (nK n) = b
    repeat' (with_reducible (first | refine h_eq ?_ | refine h_need ?_ ?_ | refine h_dec (fun _ => ?_) (fun _ => ?_) | refine h_beq (fun _ => ?_) (fun _ => ?_) | refine h_bne (fun _ => ?_) (fun _ => ?_) | refine h_tt ?_ | refine h_ff ?_ | refine h_not ?_ | refine h_ite (fun _ => ?_) (fun _ => ?_) | refine h_both (fun _ => ?_) (fun _ => ?_) | refine h_ret ?_ | refine h_at ?_))
    all_goals first | omega | exact ends_is (by simp [*]) | exact ends_il (by simp [*]) | exact ends_is (by simp_all) | exact ends_il (by simp_all)
  have tailB : iW x ≠ 1 → ∀ n, tokenF ps is x = ((kindsF (iW x)).contains (nK n) && tokT ps is x) → Safe P 34 X (Ends [tBool] (tokenF ps is x, ())) (cTlB ck nx ps is cs ws x n) := fun hw n he => by
    refine slot_blit_safe (t := 58) (b := true) rfl ?_
    refine gload_safe KV hz (d := 59) (by kernel_rfl) (by kernel_rfl) (by kernel_rfl) ?_
    refine go hz hX (tabTk_ok KV) Tryd.func34 (midTlB _ ck nx ps is cs ws x n KV.m) ?_
    refine slot_blit_safe (t := 58) (b := true) rfl ?_
    refine glook_safe KV hz (y := 59) (z := 61) (d := 62) (n := iW x) (by kernel_rfl) (by kernel_rfl) (by kernel_rfl) rfl rfl ?_
    exact tailC hw n _ _ ⟨iW x, rfl, rfl⟩ he
  have midA : ∀ n, tokenF ps is x = (((iW x == 1) || (kindsF (iW x)).contains (nK n)) && tokT ps is x) → Safe P 34 X (Ends [tBool] (tokenF ps is x, ())) (cTlA ck nx ps is cs ws x n) := fun n he => by
    refine go hz hX (tabTk_ok KV) Tryd.func34 (midTlA _ ck nx ps is cs ws x n) ⟨fun h => ?_, fun h => ?_⟩
    · have hw : iW x ≠ 1 := by simpa using h
      exact tailB hw n (by rw [he, show (iW x == 1) = false from beq_eq_false_iff_ne.2 hw, Bool.false_or])
    · have hw : iW x = 1 := by simpa using h
      exact tailD (by rw [he, show (iW x == 1) = true from beq_iff_eq.2 hw, Bool.true_or, Bool.true_and])
  refine go hz hX (tabTk_ok KV) Tryd.func34 (trTl _ ck nx ps is cs ws x) ?_
  repeat' (with_reducible (first | refine h_eq ?_ | refine h_need ?_ ?_ | refine h_dec (fun _ => ?_) (fun _ => ?_) | refine h_beq (fun _ => ?_) (fun _ => ?_) | refine h_bne (fun _ => ?_) (fun _ => ?_) | refine h_tt ?_ | refine h_ff ?_ | refine h_not ?_ | refine h_ite (fun _ => ?_) (fun _ => ?_) | refine h_both (fun _ => ?_) (fun _ => ?_) | refine h_ret ?_ | refine h_at ?_))
  all_goals first
    | exact midA _ (by unfold tokenF; simp [*])
    | exact midA _ (by unfold tokenF; simp_all)
    | exact ends_is (by unfold tokenF; simp [*])
    | exact ends_il (by unfold tokenF; simp [*])
    | exact ends_il (by unfold tokenF; simp_all)
end Ds

namespace Ds
open Go Go.Sx Go.Proofs Lf
abbrev fCf : FuncId := 31
abbrev inSd : List FuncId := [fCf, fIx, 32]
def nsSd : List (Nat × Norm) := [(5, ⟨[], [1, 3, 14, 15, 16], 0, []⟩), ((fIx + 1) * 100000 + 2, ⟨[], [0, 1, 7, 8, 29, 31, 42, 43, 44, 65], 0, []⟩), (14, ⟨[], [1, 48, 49, 50], 0, []⟩)]
abbrev sumScp := sumOf [tSt, tIt] [tBool] (fun _ => []) (fun ((_, _, ps, is, _, _, ()), x, ()) => (scopeF ps is x, ()))
abbrev sumTok := sumOf [tSt, tIt] [tBool] (fun ((_, _, _, is, _, _, ()), _, ()) => [(is : Is).length ≤ 1000000]) (fun ((_, _, ps, is, _, _, ()), x, ()) => (tokenF ps is x, ()))
def tabSd : Tab := [(14, sumDf), (33, sumScp), (34, sumTok)]
theorem trSd (ck nx : Int) (ps : Ps) (is : Is) (cs : Cs) (ws : Ws) : run P tabSd.sum Tryd.f12 nsSd (start Tryd.f12 [avSt ck nx ps is cs ws] []) inSd =
  Tree.ite (decide (nx < (0 : Int))) (Tree.ret [AObj.own [AV.s (SV.int IntKind.i64 ck), AV.s (SV.int IntKind.i64 nx), AV.s (SV.ro (Con.typ cP ps)), AV.s (SV.ro (Con.typ cI is)), AV.s (SV.ro (Con.typ cC cs)), AV.s (SV.ro (Con.typ cW ws))] (27 : Nat)] (AV.s (SV.blit false))) (Tree.at (Cfg.mk (sl (82 : Nat) [((1 : Nat), AV.ptr (0 : Nat) (0 : Nat)), ((3 : Nat), AV.s (SV.int IntKind.i64 (0 : Int))), ((14 : Nat), AV.s (SV.ro (Con.typ cI is))), ((15 : Nat), AV.s (SV.int IntKind.i64 (↑(List.length is) : Int))), ((16 : Nat), AV.s (SV.int IntKind.i64 (0 : Int)))]) [AObj.own [AV.s (SV.int IntKind.i64 ck), AV.s (SV.int IntKind.i64 nx), AV.s (SV.ro (Con.typ cP ps)), AV.s (SV.ro (Con.typ cI is)), AV.s (SV.ro (Con.typ cC cs)), AV.s (SV.ro (Con.typ cW ws))] (27 : Nat)] (hd Tryd.f12 (5 : Nat)) (Stk.mk none false (0 : Nat) [] (0 : Nat)))) := by kernel_rfl
noncomputable def cSd (ck nx : Int) (ps : Ps) (is : Is) (cs : Cs) (ws : Ws) (last i : Int) : Cfg := ⟨sl 82 [(1, .ptr 0 0), (3, avI last), (14, .s (.ro (.typ cI is))), (15, avI (is.length : Int)), (16, avI i)], [obSt ck nx ps is cs ws], hd Tryd.f12 5, {}⟩
theorem loopSd (ck nx : Int) (ps : Ps) (is : Is) (cs : Cs) (ws : Ws) (last i : Int) : run P tabSd.sum Tryd.f12 nsSd (cSd ck nx ps is cs ws last i) inSd =
  Tree.ite (decide (i < (↑(List.length is) : Int))) (Tree.need ((0 : Int) ≤ i) (Tree.need (i < (↑(List.length is) : Int)) (Tree.ite (decide (iI (el is i) ≤ last)) (Tree.ret [AObj.own [AV.s (SV.int IntKind.i64 ck), AV.s (SV.int IntKind.i64 nx), AV.s (SV.ro (Con.typ cP ps)), AV.s (SV.ro (Con.typ cI is)), AV.s (SV.ro (Con.typ cC cs)), AV.s (SV.ro (Con.typ cW ws))] (27 : Nat), AObj.own [AV.s (SV.int IntKind.i64 (iI (el is i))), AV.s (SV.int IntKind.i64 (iU (el is i))), AV.s (SV.int IntKind.u8 (iS (el is i))), AV.s (SV.str (iP (el is i))), AV.s (SV.int IntKind.i64 (iN (el is i))), AV.s (SV.int IntKind.i64 (iF (el is i))), AV.s (SV.int IntKind.u8 (iW (el is i))), AV.s (SV.str (iC (el is i)))] (31 : Nat)] (AV.s (SV.blit false))) (Tree.ite (decide (iI (el is i) > nx)) (Tree.ret [AObj.own [AV.s (SV.int IntKind.i64 ck), AV.s (SV.int IntKind.i64 nx), AV.s (SV.ro (Con.typ cP ps)), AV.s (SV.ro (Con.typ cI is)), AV.s (SV.ro (Con.typ cC cs)), AV.s (SV.ro (Con.typ cW ws))] (27 : Nat), AObj.own [AV.s (SV.int IntKind.i64 (iI (el is i))), AV.s (SV.int IntKind.i64 (iU (el is i))), AV.s (SV.int IntKind.u8 (iS (el is i))), AV.s (SV.str (iP (el is i))), AV.s (SV.int IntKind.i64 (iN (el is i))), AV.s (SV.int IntKind.i64 (iF (el is i))), AV.s (SV.int IntKind.u8 (iW (el is i))), AV.s (SV.str (iC (el is i)))] (31 : Nat)] (AV.s (SV.blit false))) (Tree.ite (iU (el is i) != (0 : Int)) (Tree.need ((0 : Int) ≤ (0 : Int)) (Tree.need ((0 : Int) ≤ i) (Tree.need (i ≤ (↑(List.length is) : Int)) (Tree.at (Cfg.mk (sl (110 : Nat) [((0 : Nat), AV.s (SV.ro (Con.typ cI (List.drop (Int.toNat (0 : Int)) (List.take i.toNat is))))), ((1 : Nat), AV.fn (32 : Nat) [AV.ptr (0 : Nat) (0 : Nat)]), ((7 : Nat), AV.s (SV.int IntKind.i64 (↑(List.drop (Int.toNat (0 : Int)) (List.take i.toNat is)).length : Int))), ((8 : Nat), AV.s (SV.int IntKind.i64 (0 : Int))), ((29 : Nat), AV.ptr (1 : Nat) (0 : Nat)), ((31 : Nat), AV.s (SV.int IntKind.i64 (iI (el is i)))), ((42 : Nat), AV.s (SV.ro (Con.typ cI is))), ((43 : Nat), AV.s (SV.int IntKind.i64 (↑(List.length is) : Int))), ((44 : Nat), AV.s (SV.int IntKind.i64 i)), ((65 : Nat), AV.s (SV.bool true))]) [AObj.own [AV.s (SV.int IntKind.i64 (iI (el is i))), AV.s (SV.int IntKind.i64 (iU (el is i))), AV.s (SV.int IntKind.u8 (iS (el is i))), AV.s (SV.str (iP (el is i))), AV.s (SV.int IntKind.i64 (iN (el is i))), AV.s (SV.int IntKind.i64 (iF (el is i))), AV.s (SV.int IntKind.u8 (iW (el is i))), AV.s (SV.str (iC (el is i)))] (31 : Nat), AObj.own [AV.s (SV.int IntKind.i64 ck), AV.s (SV.int IntKind.i64 nx), AV.s (SV.ro (Con.typ cP ps)), AV.s (SV.ro (Con.typ cI is)), AV.s (SV.ro (Con.typ cC cs)), AV.s (SV.ro (Con.typ cW ws))] (27 : Nat)] (hd Tryd.f60 (2 : Nat)) (Stk.mk (some (60 : Nat)) false (0 : Nat) [inCall Tryd.f31 (some (31 : Nat)) (1 : Nat) (2 : Nat) false (0 : Nat), inCall Tryd.f12 none (10 : Nat) (9 : Nat) false (0 : Nat)] (0 : Nat))))))) (Tree.need (inI64 (i + (1 : Int))) (Tree.at (Cfg.mk (sl (82 : Nat) [((1 : Nat), AV.ptr (0 : Nat) (0 : Nat)), ((3 : Nat), AV.s (SV.int IntKind.i64 (iI (el is i)))), ((14 : Nat), AV.s (SV.ro (Con.typ cI is))), ((15 : Nat), AV.s (SV.int IntKind.i64 (↑(List.length is) : Int))), ((16 : Nat), AV.s (SV.int IntKind.i64 (i + (1 : Int))))]) [AObj.own [AV.s (SV.int IntKind.i64 ck), AV.s (SV.int IntKind.i64 nx), AV.s (SV.ro (Con.typ cP ps)), AV.s (SV.ro (Con.typ cI is)), AV.s (SV.ro (Con.typ cC cs)), AV.s (SV.ro (Con.typ cW ws))] (27 : Nat)] (hd Tryd.f12 (5 : Nat)) (Stk.mk none false (0 : Nat) [] (0 : Nat)))))))))) (Tree.at (Cfg.mk (sl (82 : Nat) [((1 : Nat), AV.ptr (0 : Nat) (0 : Nat)), ((48 : Nat), AV.s (SV.ro (Con.typ cI is))), ((49 : Nat), AV.s (SV.int IntKind.i64 (↑(List.length is) : Int))), ((50 : Nat), AV.s (SV.int IntKind.i64 (0 : Int)))]) [AObj.own [AV.s (SV.int IntKind.i64 ck), AV.s (SV.int IntKind.i64 nx), AV.s (SV.ro (Con.typ cP ps)), AV.s (SV.ro (Con.typ cI is)), AV.s (SV.ro (Con.typ cC cs)), AV.s (SV.ro (Con.typ cW ws))] (27 : Nat)] (hd Tryd.f12 (14 : Nat)) (Stk.mk none false (0 : Nat) [] (0 : Nat)))) := by kernel_rfl
noncomputable def cSe (ck nx : Int) (ps : Ps) (is : Is) (cs : Cs) (ws : Ws) (i : Int) : Cfg := ⟨sl 82 [(1, .ptr 0 0), (48, .s (.ro (.typ cI is))), (49, avI (is.length : Int)), (50, avI i)], [obSt ck nx ps is cs ws], hd Tryd.f12 14, {}⟩
theorem loopSe (ck nx : Int) (ps : Ps) (is : Is) (cs : Cs) (ws : Ws) (i : Int) : run P tabSd.sum Tryd.f12 nsSd (cSe ck nx ps is cs ws i) inSd =
  Tree.ite (decide (i < (↑(List.length is) : Int)))
  (Tree.need ((0 : Int) ≤ i)
    (Tree.need (i < (↑(List.length is) : Int))
      (Tree.ite (!hasP ps (iP (el is i))) (Tree.ret [AObj.own [AV.s (SV.int IntKind.i64 ck), AV.s (SV.int IntKind.i64 nx), AV.s (SV.ro (Con.typ cP ps)), AV.s (SV.ro (Con.typ cI is)), AV.s (SV.ro (Con.typ cC cs)), AV.s (SV.ro (Con.typ cW ws))] (27 : Nat), AObj.own [AV.s (SV.int IntKind.i64 (iI (el is i))), AV.s (SV.int IntKind.i64 (iU (el is i))), AV.s (SV.int IntKind.u8 (iS (el is i))), AV.s (SV.str (iP (el is i))), AV.s (SV.int IntKind.i64 (iN (el is i))), AV.s (SV.int IntKind.i64 (iF (el is i))), AV.s (SV.int IntKind.u8 (iW (el is i))), AV.s (SV.str (iC (el is i)))] (31 : Nat), AObj.own [AV.s (SV.str (pN (getP ps (iP (el is i))))), AV.s (SV.ro (Con.typ cV (pV (getP ps (iP (el is i)))))), AV.s (SV.ro (Con.typ cN (pO (getP ps (iP (el is i)))))), AV.s (SV.ro (Con.typ cF (pF (getP ps (iP (el is i))))))] (40 : Nat)] (AV.s (SV.blit false)))
        (Tree.ite (iS (el is i) == (1 : Int)) (Tree.ite (!scopeF ps is (iI (el is i), iU (el is i), iS (el is i), iP (el is i), iN (el is i), iF (el is i), iW (el is i), iC (el is i), ())) (Tree.ret [AObj.own [AV.s (SV.int IntKind.i64 ck), AV.s (SV.int IntKind.i64 nx), AV.s (SV.ro (Con.typ cP ps)), AV.s (SV.ro (Con.typ cI is)), AV.s (SV.ro (Con.typ cC cs)), AV.s (SV.ro (Con.typ cW ws))] (27 : Nat), AObj.own [AV.s (SV.int IntKind.i64 (iI (el is i))), AV.s (SV.int IntKind.i64 (iU (el is i))), AV.s (SV.int IntKind.u8 (iS (el is i))), AV.s (SV.str (iP (el is i))), AV.s (SV.int IntKind.i64 (iN (el is i))), AV.s (SV.int IntKind.i64 (iF (el is i))), AV.s (SV.int IntKind.u8 (iW (el is i))), AV.s (SV.str (iC (el is i)))] (31 : Nat), AObj.own [AV.s (SV.str (pN (getP ps (iP (el is i))))), AV.s (SV.ro (Con.typ cV (pV (getP ps (iP (el is i)))))), AV.s (SV.ro (Con.typ cN (pO (getP ps (iP (el is i)))))), AV.s (SV.ro (Con.typ cF (pF (getP ps (iP (el is i))))))] (40 : Nat)] (AV.s (SV.blit false))) (Tree.need (inI64 (i + (1 : Int))) (Tree.at (Cfg.mk (sl (82 : Nat) [((1 : Nat), AV.ptr (0 : Nat) (0 : Nat)), ((48 : Nat), AV.s (SV.ro (Con.typ cI is))), ((49 : Nat), AV.s (SV.int IntKind.i64 (↑(List.length is) : Int))), ((50 : Nat), AV.s (SV.int IntKind.i64 (i + (1 : Int))))]) [AObj.own [AV.s (SV.int IntKind.i64 ck), AV.s (SV.int IntKind.i64 nx), AV.s (SV.ro (Con.typ cP ps)), AV.s (SV.ro (Con.typ cI is)), AV.s (SV.ro (Con.typ cC cs)), AV.s (SV.ro (Con.typ cW ws))] (27 : Nat)] (hd Tryd.f12 (14 : Nat)) (Stk.mk none false (0 : Nat) [] (0 : Nat)))))) (Tree.ite (iS (el is i) == (2 : Int)) (Tree.need (List.length is ≤ (1000000 : Nat)) (Tree.ite (!tokenF ps is (iI (el is i), iU (el is i), iS (el is i), iP (el is i), iN (el is i), iF (el is i), iW (el is i), iC (el is i), ())) (Tree.ret [AObj.own [AV.s (SV.int IntKind.i64 ck), AV.s (SV.int IntKind.i64 nx), AV.s (SV.ro (Con.typ cP ps)), AV.s (SV.ro (Con.typ cI is)), AV.s (SV.ro (Con.typ cC cs)), AV.s (SV.ro (Con.typ cW ws))] (27 : Nat), AObj.own [AV.s (SV.int IntKind.i64 (iI (el is i))), AV.s (SV.int IntKind.i64 (iU (el is i))), AV.s (SV.int IntKind.u8 (iS (el is i))), AV.s (SV.str (iP (el is i))), AV.s (SV.int IntKind.i64 (iN (el is i))), AV.s (SV.int IntKind.i64 (iF (el is i))), AV.s (SV.int IntKind.u8 (iW (el is i))), AV.s (SV.str (iC (el is i)))] (31 : Nat), AObj.own [AV.s (SV.str (pN (getP ps (iP (el is i))))), AV.s (SV.ro (Con.typ cV (pV (getP ps (iP (el is i)))))), AV.s (SV.ro (Con.typ cN (pO (getP ps (iP (el is i)))))), AV.s (SV.ro (Con.typ cF (pF (getP ps (iP (el is i))))))] (40 : Nat)] (AV.s (SV.blit false))) (Tree.need (inI64 (i + (1 : Int))) (Tree.at (Cfg.mk (sl (82 : Nat) [((1 : Nat), AV.ptr (0 : Nat) (0 : Nat)), ((48 : Nat), AV.s (SV.ro (Con.typ cI is))), ((49 : Nat), AV.s (SV.int IntKind.i64 (↑(List.length is) : Int))), ((50 : Nat), AV.s (SV.int IntKind.i64 (i + (1 : Int))))]) [AObj.own [AV.s (SV.int IntKind.i64 ck), AV.s (SV.int IntKind.i64 nx), AV.s (SV.ro (Con.typ cP ps)), AV.s (SV.ro (Con.typ cI is)), AV.s (SV.ro (Con.typ cC cs)), AV.s (SV.ro (Con.typ cW ws))] (27 : Nat)] (hd Tryd.f12 (14 : Nat)) (Stk.mk none false (0 : Nat) [] (0 : Nat))))))) (Tree.ret [AObj.own [AV.s (SV.int IntKind.i64 ck), AV.s (SV.int IntKind.i64 nx), AV.s (SV.ro (Con.typ cP ps)), AV.s (SV.ro (Con.typ cI is)), AV.s (SV.ro (Con.typ cC cs)), AV.s (SV.ro (Con.typ cW ws))] (27 : Nat), AObj.own [AV.s (SV.int IntKind.i64 (iI (el is i))), AV.s (SV.int IntKind.i64 (iU (el is i))), AV.s (SV.int IntKind.u8 (iS (el is i))), AV.s (SV.str (iP (el is i))), AV.s (SV.int IntKind.i64 (iN (el is i))), AV.s (SV.int IntKind.i64 (iF (el is i))), AV.s (SV.int IntKind.u8 (iW (el is i))), AV.s (SV.str (iC (el is i)))] (31 : Nat), AObj.own [AV.s (SV.str (pN (getP ps (iP (el is i))))), AV.s (SV.ro (Con.typ cV (pV (getP ps (iP (el is i)))))), AV.s (SV.ro (Con.typ cN (pO (getP ps (iP (el is i)))))), AV.s (SV.ro (Con.typ cF (pF (getP ps (iP (el is i))))))] (40 : Nat)] (AV.s (SV.blit false))))))))
  (Tree.ret [AObj.own [AV.s (SV.int IntKind.i64 ck), AV.s (SV.int IntKind.i64 nx), AV.s (SV.ro (Con.typ cP ps)), AV.s (SV.ro (Con.typ cI is)), AV.s (SV.ro (Con.typ cC cs)), AV.s (SV.ro (Con.typ cW ws))] (27 : Nat)] (AV.s (SV.bool (decide ((↑(List.length is) : Int) ≤ (160 : Int)))))) := by kernel_rfl
end Ds

namespace Ds
open Go Go.Sx Go.Proofs Lf
noncomputable def cSi (b : AV) (ck nx : Int) (ps : Ps) (is : Is) (cs : Cs) (ws : Ws) (l : Is) (x : CL cI) (last i k : Int) : Cfg := ⟨sl 110 [(0, .s (.ro (.typ cI l))), (1, .fn 32 [.ptr 0 0]), (7, avI (l.length : Int)), (8, avI k), (29, .ptr 1 0), (31, avI last), (42, .s (.ro (.typ cI is))), (43, avI (is.length : Int)), (44, avI i), (65, b)], [obIt x, obSt ck nx ps is cs ws], hd Tryd.f60 2, ⟨some fIx, false, 0, [inCall Tryd.f31 (some fCf) 1 2 false 0, inCall Tryd.f12 none 10 9 false 0], 0⟩⟩
theorem loopSi (ck nx : Int) (ps : Ps) (is : Is) (cs : Cs) (ws : Ws) (l : Is) (x : CL cI) (last i k : Int) : run P tabSd.sum Tryd.f12 nsSd (cSi (.s (.blit true)) ck nx ps is cs ws l x last i k) inSd =
  Tree.ite (decide (k < (↑(List.length l) : Int))) (Tree.need ((0 : Int) ≤ k) (Tree.need (k < (↑(List.length l) : Int)) (Tree.ite (iI (el l k) == iU x) (Tree.ite (!decide (k ≥ (0 : Int))) (Tree.ret [AObj.own [AV.s (SV.int IntKind.i64 (iI x)), AV.s (SV.int IntKind.i64 (iU x)), AV.s (SV.int IntKind.u8 (iS x)), AV.s (SV.str (iP x)), AV.s (SV.int IntKind.i64 (iN x)), AV.s (SV.int IntKind.i64 (iF x)), AV.s (SV.int IntKind.u8 (iW x)), AV.s (SV.str (iC x))] (31 : Nat), AObj.own [AV.s (SV.int IntKind.i64 ck), AV.s (SV.int IntKind.i64 nx), AV.s (SV.ro (Con.typ cP ps)), AV.s (SV.ro (Con.typ cI is)), AV.s (SV.ro (Con.typ cC cs)), AV.s (SV.ro (Con.typ cW ws))] (27 : Nat), AObj.own [AV.s (SV.int IntKind.i64 (iI (el l k))), AV.s (SV.int IntKind.i64 (iU (el l k))), AV.s (SV.int IntKind.u8 (iS (el l k))), AV.s (SV.str (iP (el l k))), AV.s (SV.int IntKind.i64 (iN (el l k))), AV.s (SV.int IntKind.i64 (iF (el l k))), AV.s (SV.int IntKind.u8 (iW (el l k))), AV.s (SV.str (iC (el l k)))] (31 : Nat)] (AV.s (SV.blit false))) (Tree.need (inI64 (i + (1 : Int))) (Tree.at (Cfg.mk (sl (82 : Nat) [((1 : Nat), AV.ptr (0 : Nat) (0 : Nat)), ((3 : Nat), AV.s (SV.int IntKind.i64 last)), ((14 : Nat), AV.s (SV.ro (Con.typ cI is))), ((15 : Nat), AV.s (SV.int IntKind.i64 (↑(List.length is) : Int))), ((16 : Nat), AV.s (SV.int IntKind.i64 (i + (1 : Int))))]) [AObj.own [AV.s (SV.int IntKind.i64 ck), AV.s (SV.int IntKind.i64 nx), AV.s (SV.ro (Con.typ cP ps)), AV.s (SV.ro (Con.typ cI is)), AV.s (SV.ro (Con.typ cC cs)), AV.s (SV.ro (Con.typ cW ws))] (27 : Nat)] (hd Tryd.f12 (5 : Nat)) (Stk.mk none false (0 : Nat) [] (0 : Nat)))))) (Tree.need (inI64 (k + (1 : Int))) (Tree.at (Cfg.mk (sl (110 : Nat) [((0 : Nat), AV.s (SV.ro (Con.typ cI l))), ((1 : Nat), AV.fn (32 : Nat) [AV.ptr (0 : Nat) (0 : Nat)]), ((7 : Nat), AV.s (SV.int IntKind.i64 (↑(List.length l) : Int))), ((8 : Nat), AV.s (SV.int IntKind.i64 (k + (1 : Int)))), ((29 : Nat), AV.ptr (1 : Nat) (0 : Nat)), ((31 : Nat), AV.s (SV.int IntKind.i64 last)), ((42 : Nat), AV.s (SV.ro (Con.typ cI is))), ((43 : Nat), AV.s (SV.int IntKind.i64 (↑(List.length is) : Int))), ((44 : Nat), AV.s (SV.int IntKind.i64 i)), ((65 : Nat), AV.s (SV.bool true))]) [AObj.own [AV.s (SV.int IntKind.i64 (iI x)), AV.s (SV.int IntKind.i64 (iU x)), AV.s (SV.int IntKind.u8 (iS x)), AV.s (SV.str (iP x)), AV.s (SV.int IntKind.i64 (iN x)), AV.s (SV.int IntKind.i64 (iF x)), AV.s (SV.int IntKind.u8 (iW x)), AV.s (SV.str (iC x))] (31 : Nat), AObj.own [AV.s (SV.int IntKind.i64 ck), AV.s (SV.int IntKind.i64 nx), AV.s (SV.ro (Con.typ cP ps)), AV.s (SV.ro (Con.typ cI is)), AV.s (SV.ro (Con.typ cC cs)), AV.s (SV.ro (Con.typ cW ws))] (27 : Nat)] (hd Tryd.f60 (2 : Nat)) (Stk.mk (some (60 : Nat)) false (0 : Nat) [inCall Tryd.f31 (some (31 : Nat)) (1 : Nat) (2 : Nat) false (0 : Nat), inCall Tryd.f12 none (10 : Nat) (9 : Nat) false (0 : Nat)] (0 : Nat)))))))) (Tree.ret [AObj.own [AV.s (SV.int IntKind.i64 (iI x)), AV.s (SV.int IntKind.i64 (iU x)), AV.s (SV.int IntKind.u8 (iS x)), AV.s (SV.str (iP x)), AV.s (SV.int IntKind.i64 (iN x)), AV.s (SV.int IntKind.i64 (iF x)), AV.s (SV.int IntKind.u8 (iW x)), AV.s (SV.str (iC x))] (31 : Nat), AObj.own [AV.s (SV.int IntKind.i64 ck), AV.s (SV.int IntKind.i64 nx), AV.s (SV.ro (Con.typ cP ps)), AV.s (SV.ro (Con.typ cI is)), AV.s (SV.ro (Con.typ cC cs)), AV.s (SV.ro (Con.typ cW ws))] (27 : Nat)] (AV.s (SV.blit false))) := by kernel_rfl
end Ds

namespace Ds
open Go Go.Sx Go.Proofs Lf
def idsG (nx : Int) : Is → Is → Int → Bool
  | _, [], _ => true
  | pre, x :: r, last => !decide (iI x ≤ last) && !decide (iI x > nx) && ((iU x == 0) || hasI pre (iU x)) && idsG nx (pre ++ [x]) r (iI x)
def okI (ps : Ps) (is : Is) (x : CL cI) : Bool := hasP ps (iP x) && (if iS x = 1 then scopeF ps is x else if iS x = 2 then tokenF ps is x else false)
def soundB (ps : Ps) (is : Is) : Bool := is.all (okI ps is) && decide ((is.length : Int) ≤ 160)
def soundF (nx : Int) (ps : Ps) (is : Is) : Bool := !decide (nx < 0) && idsG nx [] is 0 && soundB ps is
theorem has_iff' {is : Is} {a : Int} : hasI is a = true ↔ ∃ y ∈ is, iI y = a := by
  rcases place_range is a with ⟨e, h⟩ | ⟨h1, h2, h3, h4⟩
  · refine ⟨fun hh => ?_, fun ⟨y, hy, e2⟩ => absurd e2 (h y hy)⟩
    have := of_decide_eq_true hh; omega
  · exact ⟨fun _ => ⟨_, List.getElem_mem h3, h4⟩, fun _ => decide_eq_true h1⟩
theorem has_no {is : Is} {a : Int} : hasI is a = false ↔ ∀ y ∈ is, iI y ≠ a := by
  rw [← Bool.not_eq_true, has_iff']
  exact ⟨fun h y hy e => h ⟨y, hy, e⟩, fun h ⟨y, hy, e⟩ => h y hy e⟩
theorem ok_scp {ps : Ps} {is : Is} {x : CL cI} (h1 : hasP ps (iP x) = true) (h2 : iS x = 1) (h3 : scopeF ps is x = true) : okI ps is x = true := by
  unfold okI; rw [if_pos h2, h1, h3]; rfl
theorem ok_scpN {ps : Ps} {is : Is} {x : CL cI} (h2 : iS x = 1) (h3 : scopeF ps is x = false) : okI ps is x = false := by
  unfold okI; rw [if_pos h2, h3, Bool.and_false]
theorem ok_tok {ps : Ps} {is : Is} {x : CL cI} (h1 : hasP ps (iP x) = true) (h2 : iS x = 2) (h3 : tokenF ps is x = true) : okI ps is x = true := by
  unfold okI; rw [if_neg (by omega), if_pos h2, h1, h3]; rfl
theorem ok_tokN {ps : Ps} {is : Is} {x : CL cI} (h2 : iS x = 2) (h3 : tokenF ps is x = false) : okI ps is x = false := by
  unfold okI; rw [if_neg (by omega), if_pos h2, h3, Bool.and_false]
theorem ok_noP {ps : Ps} {is : Is} {x : CL cI} (h1 : hasP ps (iP x) = false) : okI ps is x = false := by
  unfold okI; rw [h1, Bool.false_and]
theorem ok_noI {ps : Ps} {is : Is} {x : CL cI} (h1 : iS x ≠ 1) (h2 : iS x ≠ 2) : okI ps is x = false := by
  unfold okI; rw [if_neg h1, if_neg h2, Bool.and_false]
theorem tabSd_ok {Z : Glob} (KV : MapVar P Z gKi tKi kindsF) : tabSd.Ok P Z := Tab.Ok.cons def_ok.sumR (Tab.Ok.cons scope_ok.sum (Tab.Ok.cons (token_ok KV).sum Tab.Ok.nil))
theorem sound_ok {Z : Glob} (KV : MapVar P Z gKi tKi kindsF) : FnOk P Z 12 [tSt] [tBool] (fun ((_, _, _, is, _, _, ()), ()) => [(is : Is).length ≤ 1000000]) (fun ((_, nx, ps, is, _, _, ()), ()) => (soundF nx ps is, ())) := by
  refine fnOk_of_safe Tryd.func12 (by kernel_rfl) (by kernel_rfl) ?_
  rintro ⟨⟨(ck : Int), (nx : Int), (ps : Ps), (is : Is), (cs : Cs), (ws : Ws), ⟨⟩⟩, ⟨⟩⟩ _ ⟨(hl : is.length ≤ 1000000), _⟩ X hX hz
  show Safe P 12 X (Ends [tBool] (soundF nx ps is, ())) _
  have loop2 : ∀ (j k : Nat), k + j = is.length → soundF nx ps is = ((is.drop k).all (okI ps is) && decide ((is.length : Int) ≤ 160)) → Safe P 12 X (Ends [tBool] (soundF nx ps is, ())) (cSe ck nx ps is cs ws (k : Int)) := by
    intro j
    induction j with
    | zero =>
      intro k hk he
      rw [List.drop_eq_nil_of_le (by omega), List.all_nil, Bool.true_and] at he
      refine go hz hX (tabSd_ok KV) Tryd.func12 (loopSe ck nx ps is cs ws k) ⟨fun h => absurd (of_decide_eq_true h) (by omega), fun _ => ?_⟩
      exact ends_is he
    | succ j ih =>
      intro k hk he
      have hlt : k < is.length := by omega
      rw [List.drop_eq_getElem_cons hlt, List.all_cons] at he
      refine go hz hX (tabSd_ok KV) Tryd.func12 (loopSe ck nx ps is cs ws k) ?_
      rw [el_lt hlt]
      generalize is[k] = x at he
      have next : okI ps is x = true → Safe P 12 X (Ends [tBool] (soundF nx ps is, ())) (cSe ck nx ps is cs ws ((k : Int) + 1)) := fun h => by
        rw [h, Bool.true_and] at he
        exact ih (k + 1) (by omega) he
      have stop : okI ps is x = false → soundF nx ps is = false := fun h => by rw [he, h]; rfl
      clear ih he
      repeat' (with_reducible (first | refine h_eq ?_ | refine h_need ?_ ?_ | refine h_dec (fun _ => ?_) (fun _ => ?_) | refine h_beq (fun _ => ?_) (fun _ => ?_) | refine h_bne (fun _ => ?_) (fun _ => ?_) | refine h_tt ?_ | refine h_ff ?_ | refine h_not ?_ | refine h_ite (fun _ => ?_) (fun _ => ?_) | refine h_both (fun _ => ?_) (fun _ => ?_) | refine h_ret ?_ | refine h_at ?_))
      all_goals first
        | omega
        | exact ⟨by omega, by omega⟩
        | exact next (ok_scp (by assumption) (by assumption) (by assumption))
        | exact next (ok_tok (by assumption) (by assumption) (by assumption))
        | exact ends_il (stop (ok_scpN (by assumption) (by assumption)))
        | exact ends_il (stop (ok_tokN (by assumption) (by assumption)))
        | exact ends_il (stop (ok_noP (by assumption)))
        | exact ends_il (stop (ok_noI (by assumption) (by assumption)))
        | skip
  have loop1 : ∀ (j k : Nat) (last : Int), k + j = is.length → soundF nx ps is = (idsG nx (is.take k) (is.drop k) last && soundB ps is) → Safe P 12 X (Ends [tBool] (soundF nx ps is, ())) (cSd ck nx ps is cs ws last (k : Int)) := by
    intro j
    induction j with
    | zero =>
      intro k last hk he
      rw [List.drop_eq_nil_of_le (by omega)] at he
      refine go hz hX (tabSd_ok KV) Tryd.func12 (loopSd ck nx ps is cs ws last k) ⟨fun h => absurd (of_decide_eq_true h) (by omega), fun _ => ?_⟩
      exact loop2 is.length 0 (by omega) (by rw [he]; rfl)
    | succ j ih =>
      intro k last hk he
      have hlt : k < is.length := by omega
      rw [List.drop_eq_getElem_cons hlt] at he
      have e0 : idsG nx (is.take k) (is[k] :: is.drop (k + 1)) last = (!decide (iI is[k] ≤ last) && !decide (iI is[k] > nx) && ((iU is[k] == 0) || hasI (is.take k) (iU is[k])) && idsG nx (is.take (k + 1)) (is.drop (k + 1)) (iI is[k])) := by
        rw [List.take_add_one, List.getElem?_eq_getElem hlt]; rfl
      rw [e0] at he
      have inner : ∀ (x : CL cI) (l : Is), x = is[k] → l = is.take k → (!decide (iI x ≤ last)) = true → (!decide (iI x > nx)) = true → (iU x == 0) = false → ∀ (m i : Nat) (b : AV), i + m = l.length → b = .s (.bool true) →
          (∀ q (h1 : q < i) (h2 : q < l.length), iI l[q] ≠ iU x) → Safe P 12 X (Ends [tBool] (soundF nx ps is, ())) (cSi b ck nx ps is cs ws l x (iI x) (k : Int) (i : Int)) := by
        intro x l hx hel h1 h2 h3 m
        have hll : l.length ≤ 1000000 := by rw [hel, List.length_take]; omega
        have he' : soundF nx ps is = ((hasI l (iU x) && idsG nx (is.take (k + 1)) (is.drop (k + 1)) (iI x)) && soundB ps is) := by
          rw [he, hx, hel]
          rw [hx] at h1 h2 h3
          rw [h1, h2, h3]; rfl
        induction m with
        | zero =>
          intro i b hm hb hi
          subst hb
          refine slot_blit_safe (t := 65) (b := true) rfl ?_
          refine go hz hX (tabSd_ok KV) Tryd.func12 (loopSi ck nx ps is cs ws l x (iI x) k i) ⟨fun h => absurd (of_decide_eq_true h) (by omega), fun _ => ?_⟩
          refine ends_il ?_
          rw [he', has_no.2 fun y hy => ?_]
          · rfl
          · obtain ⟨q, hq, rfl⟩ := List.mem_iff_getElem.1 hy
            exact hi q (by omega) hq
        | succ m im =>
          intro i b hm hb hi
          subst hb
          have hil : i < l.length := by omega
          refine slot_blit_safe (t := 65) (b := true) rfl ?_
          refine go hz hX (tabSd_ok KV) Tryd.func12 (loopSi ck nx ps is cs ws l x (iI x) k i) (yes_and (decide_eq_true (by omega)) ⟨by omega, by omega, ?_⟩)
          rw [el_lt hil]
          cases hq : (iI l[i] == iU x) with
          | true =>
            rw [has_iff'.2 ⟨_, List.getElem_mem hil, beq_iff_eq.1 hq⟩, Bool.true_and] at he'
            refine yes_and rfl (no_and (by rw [decide_eq_true (by omega)]; rfl) ⟨⟨by omega, by omega⟩, ?_⟩)
            exact ih (k + 1) (iI x) (by omega) he'
          | false =>
            refine no_and rfl ⟨⟨by omega, by omega⟩, ?_⟩
            refine im (i + 1) _ (by omega) rfl fun q h1 h2 => ?_
            by_cases e : q = i
            · subst e; exact fun hh => by rw [hh, beq_self_eq_true] at hq; cases hq
            · exact hi q (by omega) h2
      refine go hz hX (tabSd_ok KV) Tryd.func12 (loopSd ck nx ps is cs ws last k) ?_
      rw [el_lt hlt]
      have inn := inner _ _ rfl rfl
      have next := ih (k + 1) (iI is[k]) (by omega)
      clear ih inner e0
      generalize is[k] = x at *
      repeat' (with_reducible (first | refine h_eq ?_ | refine h_need ?_ ?_ | refine h_dec (fun _ => ?_) (fun _ => ?_) | refine h_beq (fun _ => ?_) (fun _ => ?_) | refine h_bne (fun _ => ?_) (fun _ => ?_) | refine h_tt ?_ | refine h_ff ?_ | refine h_not ?_ | refine h_ite (fun _ => ?_) (fun _ => ?_) | refine h_both (fun _ => ?_) (fun _ => ?_) | refine h_ret ?_ | refine h_at ?_))
      all_goals first
        | omega
        | exact ⟨by omega, by omega⟩
        | exact ends_il (by rw [he]; simp_all)
        | exact next (by rw [he, decide_eq_false (show ¬ iI x ≤ last by omega), decide_eq_false (show ¬ iI x > nx by omega), (by assumption : iU x = 0)]; rfl)
        | exact inn (by rw [decide_eq_false (show ¬ iI x ≤ last by omega)]; rfl) (by rw [decide_eq_false (show ¬ iI x > nx by omega)]; rfl) (beq_eq_false_iff_ne.2 (by assumption)) _ 0 _ (Nat.zero_add _) rfl (fun q h => absurd h (Nat.not_lt_zero _))
        | skip
  refine go hz hX (tabSd_ok KV) Tryd.func12 (trSd ck nx ps is cs ws) ⟨fun h => ?_, fun h => ?_⟩
  · refine ends_il ?_
    unfold soundF; rw [h]; rfl
  · refine loop1 is.length 0 0 (by omega) ?_
    unfold soundF; rw [h]; rfl
end Ds

namespace Ds
open Go Go.Sx Go.Proofs Lf
theorem kinds_rows : ∀ x ∈ ([(2, [3]), (3, [11, 12, 14]), (4, [6, 10]), (5, [8, 9]), (6, [7, 9, 2])] : List (Int × List Int)), kindsF x.1 = x.2 := by decide
theorem kinds_no (n : Int) (h : ∀ x ∈ ([(2, [3]), (3, [11, 12, 14]), (4, [6, 10]), (5, [8, 9]), (6, [7, 9, 2])] : List (Int × List Int)), x.1 ≠ n) : kindsF n = [] := by
  simp only [List.mem_cons, List.not_mem_nil, or_false, forall_eq_or_imp, forall_eq] at h
  unfold kindsF
  rw [if_neg (by omega), if_neg (by omega), if_neg (by omega), if_neg (by omega), if_neg (by omega)]
/-- IDs rise, and each Up stands ahead. -/
structure Trees (nx : Int) (is : Is) : Prop where
  pos : ∀ x ∈ is, 0 < iI x ∧ iI x ≤ nx
  ris : is.Pairwise (fun x y => iI x < iI y)
  up : ∀ x ∈ is, iU x = 0 ∨ ∃ y ∈ is, iI y = iU x ∧ iI y < iI x
theorem idsG_iff {nx : Int} : ∀ (r pre : Is) (last : Int), (∀ y ∈ pre, iI y ≤ last) →
    (idsG nx pre r last = true ↔ (∀ x ∈ r, last < iI x ∧ iI x ≤ nx) ∧ r.Pairwise (fun x y => iI x < iI y) ∧ ∀ x ∈ r, iU x = 0 ∨ ∃ y ∈ pre ++ r, iI y = iU x ∧ iI y < iI x)
  | [], pre, last, _ => by simp [idsG]
  | x :: r, pre, last, hp => by
    have hpre : iI x > last → ∀ y ∈ pre ++ [x], iI y ≤ iI x := fun hx y hy => by
      rcases List.mem_append.1 hy with h | h
      · have := hp y h; omega
      · rw [List.mem_singleton.1 h]; exact Int.le_refl _
    unfold idsG
    simp only [Bool.and_eq_true, Bool.not_eq_true', decide_eq_false_iff_not, Bool.or_eq_true, beq_iff_eq]
    constructor
    · rintro ⟨⟨⟨h1, h2⟩, h3⟩, h4⟩
      obtain ⟨g1, g2, g3⟩ := (idsG_iff r (pre ++ [x]) (iI x) (hpre (by omega))).1 h4
      refine ⟨fun y hy => ?_, List.pairwise_cons.2 ⟨fun y hy => (g1 y hy).1, g2⟩, fun y hy => ?_⟩
      · rcases List.mem_cons.1 hy with rfl | hy
        · omega
        · have := g1 y hy; omega
      · rcases List.mem_cons.1 hy with rfl | hy
        · rcases h3 with h3 | h3
          · exact .inl h3
          · obtain ⟨z, hz, e⟩ := has_iff'.1 h3
            have := hp z hz
            exact .inr ⟨z, List.mem_append.2 (.inl hz), e, by omega⟩
        · rcases g3 y hy with h | ⟨z, hz, e⟩
          · exact .inl h
          · rw [List.append_assoc] at hz
            exact .inr ⟨z, hz, e⟩
    · rintro ⟨g1, g2, g3⟩
      obtain ⟨g4, g5⟩ := List.pairwise_cons.1 g2
      have hx := g1 x (List.mem_cons_self ..)
      refine ⟨⟨⟨by omega, by omega⟩, ?_⟩, (idsG_iff r (pre ++ [x]) (iI x) (hpre (by omega))).2 ⟨fun y hy => ⟨g4 y hy, (g1 y (List.mem_cons_of_mem _ hy)).2⟩, g5, fun y hy => ?_⟩⟩
      · rcases g3 x (List.mem_cons_self ..) with h | ⟨z, hz, e, hlt⟩
        · exact .inl h
        · refine .inr (has_iff'.2 ⟨z, ?_, e⟩)
          rcases List.mem_append.1 hz with h | h
          · exact h
          · rcases List.mem_cons.1 h with rfl | h
            · omega
            · have := g4 z h; omega
      · rcases g3 y (List.mem_cons_of_mem _ hy) with h | ⟨z, hz, e⟩
        · exact .inl h
        · exact .inr ⟨z, by rw [List.append_assoc]; exact hz, e⟩
theorem trees_iff {nx : Int} {is : Is} : idsG nx [] is 0 = true ↔ Trees nx is := by
  rw [idsG_iff is [] 0 (fun y hy => by cases hy)]
  exact ⟨fun ⟨a, b, c⟩ => ⟨a, b, c⟩, fun h => ⟨h.pos, h.ris, h.up⟩⟩
structure Snd (nx : Int) (ps : Ps) (is : Is) : Prop where
  nx0 : 0 ≤ nx
  tr : Trees nx is
  ok : ∀ x ∈ is, okI ps is x = true
  len : is.length ≤ 160
theorem sound_iff {nx : Int} {ps : Ps} {is : Is} : soundF nx ps is = true ↔ Snd nx ps is := by
  unfold soundF soundB
  simp only [Bool.and_eq_true, Bool.not_eq_true', decide_eq_false_iff_not, List.all_eq_true, decide_eq_true_iff, trees_iff]
  exact ⟨fun ⟨⟨a, b⟩, c, d⟩ => ⟨by omega, b, c, by omega⟩, fun h => ⟨⟨by have := h.nx0; omega, h.tr⟩, h.ok, by have := h.len; omega⟩⟩
variable {nx : Int} {ps : Ps} {is is' : Is}
theorem Trees.inj (T : Trees nx is) {x y : CL cI} (hx : x ∈ is) (hy : y ∈ is) (e : iI x = iI y) : x = y := by
  obtain ⟨i, hi, rfl⟩ := List.mem_iff_getElem.1 hx
  obtain ⟨j, hj, rfl⟩ := List.mem_iff_getElem.1 hy
  have hp := List.pairwise_iff_getElem.1 T.ris
  rcases Nat.lt_trichotomy i j with h | h | h
  · have := hp i j hi hj h; omega
  · subst h; rfl
  · have := hp j i hj hi h; omega
theorem get_mem {id : Int} (h : hasI is id = true) : getI is id ∈ is ∧ iI (getI is id) = id := by
  obtain ⟨h1, h2⟩ := get_at' h
  exact ⟨List.mem_of_getElem? h1, h2⟩
theorem Trees.get (T : Trees nx is) {x : CL cI} (hx : x ∈ is) : hasI is (iI x) = true ∧ getI is (iI x) = x := by
  have h := has_iff'.2 ⟨x, hx, rfl⟩
  exact ⟨h, T.inj (get_mem h).1 hx (get_mem h).2⟩
theorem Trees.hi (T : Trees nx is) {id : Int} (h : nx < id) : hasI is id = false := has_no.2 fun y hy e => by have := (T.pos y hy).2; omega
theorem Trees.up_lt (T : Trees nx is) {id : Int} (h : hasI is id = true) : gU is id < id ∧ (gU is id = 0 ∨ hasI is (gU is id) = true) := by
  obtain ⟨h1, h2⟩ := get_mem h
  have h0 := (T.pos _ h1).1
  rcases T.up _ h1 with e | ⟨y, hy, e, hlt⟩
  · have e : gU is id = 0 := e
    exact ⟨by omega, .inl e⟩
  · have e : iI y = gU is id := e
    exact ⟨by omega, .inr (has_iff'.2 ⟨y, hy, e⟩)⟩
/-- how many stand up to one -/
def upTo (is : Is) (id : Int) : Nat := (is.filter fun x => decide (iI x ≤ id)).length
theorem upTo_le (is : Is) (id : Int) : upTo is id ≤ is.length := List.length_filter_le _ _
theorem filter_lt {α : Type} {p q : α → Bool} : ∀ {l : List α}, (∀ x ∈ l, p x = true → q x = true) → (∃ x ∈ l, p x = false ∧ q x = true) → (l.filter p).length < (l.filter q).length
  | [], _, ⟨x, hx, _⟩ => by cases hx
  | a :: l, hi, hx => by
    have h1 : ∀ x ∈ l, p x = true → q x = true := fun x hx => hi x (List.mem_cons_of_mem _ hx)
    have hle : (l.filter p).length ≤ (l.filter q).length := by
      rw [← List.countP_eq_length_filter, ← List.countP_eq_length_filter]
      exact List.countP_mono_left h1
    obtain ⟨x, hx, h2, h3⟩ := hx
    rcases List.mem_cons.1 hx with rfl | hx
    · rw [List.filter_cons, List.filter_cons, h2, h3]
      simp only [if_true, Bool.false_eq_true, if_false, List.length_cons]; omega
    · have ih := filter_lt h1 ⟨x, hx, h2, h3⟩
      have ha := hi a (List.mem_cons_self ..)
      rw [List.filter_cons, List.filter_cons]
      cases hp : p a with
      | true => rw [ha hp]; simp only [if_true, List.length_cons]; omega
      | false =>
        cases q a <;> simp only [Bool.false_eq_true, if_false, if_true, List.length_cons] <;> omega
theorem upTo_lt {a b : Int} (h : hasI is b = true) (hab : a < b) : upTo is a < upTo is b := by
  obtain ⟨y, hy, e⟩ := has_iff'.1 h
  exact filter_lt (fun x _ hx => by simp at hx ⊢; omega) ⟨y, hy, by simp; omega, by simp; omega⟩
theorem Trees.go (T : Trees nx is) : ∀ (n m : Nat) (id : Int) (s1 s2 : List Int), upTo is id < n → upTo is id < m → (∀ s ∈ s1, id < s) → (∀ s ∈ s2, id < s) → depthGo is n id s1 = depthGo is m id s2
  | 0, _, _, _, _, h, _, _, _ => by omega
  | _, 0, _, _, _, _, h, _, _ => by omega
  | n + 1, m + 1, id, s1, s2, hn, hm, h1, h2 => by
    rw [depthGo_succ is n id s1, depthGo_succ is m id s2]
    by_cases h : hasI is id = true
    · have g1 : id ∉ s1 := fun hh => by have := h1 id hh; omega
      have g2 : id ∉ s2 := fun hh => by have := h2 id hh; omega
      rw [if_pos (show hasI is id = true ∧ id ∉ s1 from ⟨h, g1⟩), if_pos (show hasI is id = true ∧ id ∉ s2 from ⟨h, g2⟩)]
      obtain ⟨hlt, _⟩ := T.up_lt h
      have hc := upTo_lt h hlt
      have hs : ∀ l : List Int, (∀ s ∈ l, id < s) → ∀ s ∈ l ++ [id], gU is id < s := fun l hl s hs => by
        rcases List.mem_append.1 hs with h | h
        · have := hl s h; omega
        · rw [List.mem_singleton.1 h]; exact hlt
      rw [T.go n m (gU is id) (s1 ++ [id]) (s2 ++ [id]) (by omega) (by omega) (hs _ h1) (hs _ h2)]
    · rw [if_neg (show ¬ (hasI is id = true ∧ id ∉ s1) from fun hh => h hh.1), if_neg (show ¬ (hasI is id = true ∧ id ∉ s2) from fun hh => h hh.1)]
theorem Trees.depth (T : Trees nx is) {id : Int} (h : hasI is id = true) : depthF is id = (if gS is id = 1 then 1 else 0) + depthF is (gU is id) := by
  obtain ⟨hlt, _⟩ := T.up_lt h
  have hc := upTo_lt h hlt
  have hle := upTo_le is id
  unfold depthF
  rw [depthGo_succ, if_pos ⟨h, by simp⟩, T.go is.length (is.length + 1) (gU is id) ([] ++ [id]) [] (by omega) (by omega) (fun s hs => by simp at hs; omega) (fun s hs => by cases hs)]
  split <;> simp
theorem depth_no {id : Int} (h : hasI is id = false) : depthF is id = 0 := by
  unfold depthF
  rw [depthGo_succ, if_neg (fun hh => by rw [h] at hh; cases hh.1)]; rfl
/-- Two forests that agree at what is closed upwards are as deep there. -/
theorem Trees.same (T : Trees nx is) {nx' : Int} (T' : Trees nx' is') {K : Int → Prop} (hK : ∀ id, K id → hasI is id = hasI is' id ∧ (hasI is id = true → getI is id = getI is' id ∧ K (gU is id))) :
    ∀ (n : Nat) (id : Int), id.toNat ≤ n → K id → depthF is id = depthF is' id
  | n, id, hn, hk => by
    obtain ⟨h1, h2⟩ := hK id hk
    by_cases h : hasI is id = true
    · obtain ⟨h3, h4⟩ := h2 h
      obtain ⟨hlt, _⟩ := T.up_lt h
      have h5 : hasI is' id = true := by rw [← h1]; exact h
      have hp : 0 < id := by have := (T.pos _ (get_mem h).1).1; rw [(get_mem h).2] at this; exact this
      have e1 : gS is id = gS is' id := congrArg iS h3
      have e2 : gU is id = gU is' id := congrArg iU h3
      match n, hn with
      | 0, hn => omega
      | n + 1, hn =>
        rw [T.depth h, T'.depth h5, ← e1, ← e2, T.same T' hK n (gU is id) (by omega) h4]
    · have h : hasI is id = false := by simpa using h
      rw [depth_no h, depth_no (by rw [← h1]; exact h)]
end Ds

namespace Ds
open Go Go.Sx Go.Proofs Lf
abbrev sumSd := sumOf [tSt] [tBool] (fun ((_, _, _, is, _, _, ()), ()) => [(is : Is).length ≤ 1000000]) (fun ((_, nx, ps, is, _, _, ()), ()) => (soundF nx ps is, ()))
end Ds

namespace Ds
open Go Go.Sx Go.Proofs Lf
variable {nx : Int} {ps : Ps} {is is' : Is}
theorem okI_same {y : CL cI} (h1 : depthF is (iI y) = depthF is' (iI y)) (h2 : getI is (iU y) = getI is' (iU y)) (h3 : iS y = 2 → kidsN is y = kidsN is' y) : okI ps is y = okI ps is' y := by
  have a1 : gS is (iU y) = gS is' (iU y) := congrArg iS h2
  have a2 : gP is (iU y) = gP is' (iU y) := congrArg iP h2
  have a3 : gN is (iU y) = gN is' (iU y) := congrArg iN h2
  have a4 : gW is (iU y) = gW is' (iU y) := congrArg iW h2
  unfold okI
  congr 1
  by_cases e1 : iS y = 1
  · rw [if_pos e1, if_pos e1]
    unfold scopeF
    rw [h1, a1, a2, a3, a4]
  · rw [if_neg e1, if_neg e1]
    by_cases e2 : iS y = 2
    · rw [if_pos e2, if_pos e2]
      unfold tokenF tokT
      rw [a1, a2, a3, h3 e2]
    · rw [if_neg e2, if_neg e2]
variable {x : CL cI}
theorem Trees.add (T : Trees nx is) (h0 : 0 ≤ nx) (hi : iI x = nx + 1) (hu : iU x = 0 ∨ hasI is (iU x) = true) : Trees (nx + 1) (is ++ [x]) := by
  refine ⟨fun y hy => ?_, ?_, fun y hy => ?_⟩
  · rcases List.mem_append.1 hy with h | h
    · have := T.pos y h; omega
    · rw [List.mem_singleton.1 h]; omega
  · refine List.pairwise_append.2 ⟨T.ris, List.pairwise_singleton .., fun a ha b hb => ?_⟩
    rw [List.mem_singleton.1 hb]
    have := T.pos a ha; omega
  · rcases List.mem_append.1 hy with h | h
    · rcases T.up y h with e | ⟨z, hz, e⟩
      · exact .inl e
      · exact .inr ⟨z, List.mem_append.2 (.inl hz), e⟩
    · rw [List.mem_singleton.1 h]
      rcases hu with e | e
      · exact .inl e
      · obtain ⟨z, hz, e2⟩ := has_iff'.1 e
        have := T.pos z hz
        exact .inr ⟨z, List.mem_append.2 (.inl hz), e2, by omega⟩
end Ds

namespace Ds
open Go Go.Sx Go.Proofs Lf
end Ds

namespace Ds
open Go Go.Sx Go.Proofs Lf
variable {nx : Int} {ps : Ps} {is is' : Is} {x : CL cI}
variable {Z : Glob}
end Ds

namespace Ds
open Go Go.Sx Go.Proofs Lf
end Ds

namespace Ds
open Go Go.Sx Go.Proofs Lf
variable {nx : Int} {ps : Ps} {is is' : Is}
theorem Trees.kid (T : Trees nx is) {a b : Int} (h : b ∈ kidsF (esOf is) a) : a < b ∧ hasI is b = true ∧ gU is b = a := by
  obtain ⟨h1, h2⟩ := mem_kids.1 h
  obtain ⟨x, hx, e⟩ := List.mem_map.1 h1
  simp only [Prod.mk.injEq] at e
  obtain ⟨e1, e2⟩ := e
  obtain ⟨g1, g2⟩ := T.get hx
  rw [e1] at g1 g2
  have hU : gU is b = a := by unfold gU; rw [g2]; exact e2
  exact ⟨by rw [← hU]; exact (T.up_lt g1).1, g1, hU⟩
theorem Trees.reach_lt (T : Trees nx is) {a b : Int} (h : Reach (esOf is) a b) : a < b := by
  induction h with
  | kid h => exact (T.kid h).1
  | more _ h ih => have := (T.kid h).1; omega
theorem Trees.parent (T : Trees nx is) {a b c : Int} (h1 : c ∈ kidsF (esOf is) a) (h2 : c ∈ kidsF (esOf is) b) : a = b := by rw [← (T.kid h1).2.2, (T.kid h2).2.2]
theorem Trees.back (T : Trees nx is) {a b c : Int} (h : Reach (esOf is) a c) (hk : c ∈ kidsF (esOf is) b) : a = b ∨ Reach (esOf is) a b := by
  cases h with
  | kid h => exact .inl (T.parent h hk)
  | more h1 h2 => exact .inr (by rw [← T.parent h2 hk]; exact h1)
theorem Trees.chain (T : Trees nx is) {a b x : Int} (h : Reach (esOf is) a x) : Reach (esOf is) b x → a = b ∨ Reach (esOf is) a b ∨ Reach (esOf is) b a := by
  induction h with
  | kid h =>
    intro h2
    rcases T.back h2 h with e | e
    · exact .inl e.symm
    · exact .inr (.inr e)
  | more h1 h ih =>
    intro h2
    rcases T.back h2 h with e | e
    · subst e; exact .inr (.inl h1)
    · exact ih e
theorem Snd.kind (S : Snd nx ps is) {x : CL cI} (hx : x ∈ is) : (iS x = 1 ∧ scopeF ps is x = true) ∨ (iS x = 2 ∧ tokenF ps is x = true) := by
  have h := S.ok x hx
  unfold okI at h
  rw [Bool.and_eq_true] at h
  by_cases e1 : iS x = 1
  · rw [if_pos e1] at h; exact .inl ⟨e1, h.2⟩
  · rw [if_neg e1] at h
    by_cases e2 : iS x = 2
    · rw [if_pos e2] at h; exact .inr ⟨e2, h.2⟩
    · rw [if_neg e2] at h; cases h.2
theorem Snd.tok_up (S : Snd nx ps is) {x : CL cI} (h : tokenF ps is x = true) : gS is (iU x) = 1 ∧ gP is (iU x) = iP x := by
  unfold tokenF at h
  simp only [Bool.and_eq_true, beq_iff_eq, decide_eq_true_iff] at h
  exact ⟨h.1.1.1.1.1.1, h.1.1.1.1.1.2⟩
end Ds

namespace Ds
open Go Go.Sx Go.Proofs Lf
variable {Z : Glob}
end Ds
