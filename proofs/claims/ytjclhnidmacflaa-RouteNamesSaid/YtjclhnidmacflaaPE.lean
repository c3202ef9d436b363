/- Lemmas: X1, X2, N1, SxGlob, SxWeak, SxTup, SxPan, N0, N2, N3, N4, N5, N6, N7, N8, N9. -/
import Derived.Recover
import Derived.Test.YtjclhnidmacflaaPD

namespace Ds
open Go Go.Sx Go.Proofs Lf
/-! Scopes -/
abbrev inSx : List FuncId := [11, fS1]
def tabSx : Tab := [(13, sumFi)]
def nsSx : List (Nat × Norm) := [((fS1 + 1) * 100000 + 5, ⟨[], [0, 1, 5, 6, 7, 8, 88, 101, 102], 0, [(4, 0, false, .ints .i64 [], 3)]⟩)]
noncomputable def cSx (ck nx : Int) (ps : Ps) (is : Is) (cs : Cs) (ws : Ws) (b own : Bool) (x : CL cI) (m : Mp) (out : List Int) : Cfg := ⟨sl 103 [(0, .tag 0), (1, .ptr 1 0), (5, .s (.bool b)), (6, .mapv 2), (7, .ptr 3 0), (8, .s (.bool own)), (88, .ptr 4 0), (101, .tag 5), (102, .tag 0)], [.dead, obSt ck nx ps is cs ws, .map kM m, obIt x, .own [.vec 6] 33, .dead, .vec (.ints .i64 out) 3], hd Try.f18 5, ⟨some fS1, false, 0, [inRange Try.f6 none 4 1], 0⟩⟩
theorem trSx (ck nx : Int) (ps : Ps) (is : Is) (cs : Cs) (ws : Ws) (id : Int) : run P tabSx.sum Try.f6 nsSx (start Try.f6 [avSt ck nx ps is cs ws, avI id] []) inSx =
  Tree.ite (!hasI is id) (Tree.ret [AObj.own [AV.s (SV.int IntKind.i64 ck), AV.s (SV.int IntKind.i64 nx), AV.s (SV.ro (Con.typ cP ps)), AV.s (SV.ro (Con.typ cI is)), AV.s (SV.ro (Con.typ cC cs)), AV.s (SV.ro (Con.typ cW ws))] (27 : Nat), AObj.own [AV.emp] (33 : Nat), AObj.own [AV.s (SV.int IntKind.i64 ck), AV.s (SV.int IntKind.i64 nx), AV.s (SV.ro (Con.typ cP ps)), AV.s (SV.ro (Con.typ cI is)), AV.s (SV.ro (Con.typ cC cs)), AV.s (SV.ro (Con.typ cW ws))] (27 : Nat), AObj.own [AV.s (SV.int IntKind.i64 id)] (3 : Nat), AObj.dead, AObj.dead, AObj.own [AV.s (SV.int IntKind.i64 (gI is id)), AV.s (SV.int IntKind.i64 (gU is id)), AV.s (SV.int IntKind.u8 (gS is id)), AV.s (SV.str (gP is id)), AV.s (SV.int IntKind.i64 (gN is id)), AV.s (SV.int IntKind.i64 (gF is id)), AV.s (SV.int IntKind.u8 (gW is id)), AV.s (SV.str (gC is id))] (45 : Nat)] AV.emp) (Tree.ite (gS is id != (2 : Int)) (Tree.ret [AObj.own [AV.s (SV.int IntKind.i64 ck), AV.s (SV.int IntKind.i64 nx), AV.s (SV.ro (Con.typ cP ps)), AV.s (SV.ro (Con.typ cI is)), AV.s (SV.ro (Con.typ cC cs)), AV.s (SV.ro (Con.typ cW ws))] (27 : Nat), AObj.own [AV.emp] (33 : Nat), AObj.own [AV.s (SV.int IntKind.i64 ck), AV.s (SV.int IntKind.i64 nx), AV.s (SV.ro (Con.typ cP ps)), AV.s (SV.ro (Con.typ cI is)), AV.s (SV.ro (Con.typ cC cs)), AV.s (SV.ro (Con.typ cW ws))] (27 : Nat), AObj.own [AV.s (SV.int IntKind.i64 id)] (3 : Nat), AObj.dead, AObj.dead, AObj.own [AV.s (SV.int IntKind.i64 (gI is id)), AV.s (SV.int IntKind.i64 (gU is id)), AV.s (SV.int IntKind.u8 (gS is id)), AV.s (SV.str (gP is id)), AV.s (SV.int IntKind.i64 (gN is id)), AV.s (SV.int IntKind.i64 (gF is id)), AV.s (SV.int IntKind.u8 (gW is id)), AV.s (SV.str (gC is id))] (45 : Nat)] AV.emp) (Tree.at (Cfg.mk (sl (103 : Nat) [((0 : Nat), AV.tag (0 : Nat)), ((1 : Nat), AV.ptr (1 : Nat) (0 : Nat)), ((5 : Nat), AV.s (SV.bool (hasI is (gU is id)))), ((6 : Nat), AV.mapv (2 : Nat)), ((7 : Nat), AV.ptr (3 : Nat) (0 : Nat)), ((8 : Nat), AV.s (SV.bool false)), ((88 : Nat), AV.ptr (4 : Nat) (0 : Nat)), ((101 : Nat), AV.tag (5 : Nat)), ((102 : Nat), AV.tag (0 : Nat))]) [AObj.dead, AObj.own [AV.s (SV.int IntKind.i64 ck), AV.s (SV.int IntKind.i64 nx), AV.s (SV.ro (Con.typ cP ps)), AV.s (SV.ro (Con.typ cI is)), AV.s (SV.ro (Con.typ cC cs)), AV.s (SV.ro (Con.typ cW ws))] (27 : Nat), AObj.map (CK.int IntKind.i64) [], AObj.own [AV.s (SV.int IntKind.i64 (gI is (gU is id))), AV.s (SV.int IntKind.i64 (gU is (gU is id))), AV.s (SV.int IntKind.u8 (gS is (gU is id))), AV.s (SV.str (gP is (gU is id))), AV.s (SV.int IntKind.i64 (gN is (gU is id))), AV.s (SV.int IntKind.i64 (gF is (gU is id))), AV.s (SV.int IntKind.u8 (gW is (gU is id))), AV.s (SV.str (gC is (gU is id)))] (45 : Nat), AObj.own [AV.vec (6 : Nat)] (33 : Nat), AObj.dead, AObj.vec (Con.ints IntKind.i64 []) (3 : Nat)] (hd Try.f18 (5 : Nat)) (Stk.mk (some (18 : Nat)) false (0 : Nat) [inRange Try.f6 none (4 : Nat) (1 : Nat)] (0 : Nat))))) := by kernel_rfl
theorem loopSx (ck nx : Int) (ps : Ps) (is : Is) (cs : Cs) (ws : Ws) (b own : Bool) (x : CL cI) (m : Mp) (out : List Int) : run P tabSx.sum Try.f6 nsSx (cSx ck nx ps is cs ws b own x m out) inSx =
  Tree.ite b
  (Tree.ite (iS x == (1 : Int))
    (Tree.ite ((mget m (iI x)).getD (CK.int IntKind.i64).d == (0 : Int))
      (Tree.need (inI64 ((mget m (iI x)).getD (CK.int IntKind.i64).d + (1 : Int)))
        (Tree.need ((out.length + (1 : Nat)) * (8 : Nat) ≤ (140737488355328 : Nat))
          (Tree.ite (hasI is (iU x)) (Tree.ite (hasI is (iU x)) (Tree.ite (gS is (iU x) == (2 : Int)) (Tree.at (Cfg.mk (sl (103 : Nat) [((0 : Nat), AV.tag (0 : Nat)), ((1 : Nat), AV.ptr (1 : Nat) (0 : Nat)), ((5 : Nat), AV.s (SV.bool (hasI is (gU is (iU x))))), ((6 : Nat), AV.mapv (2 : Nat)), ((7 : Nat), AV.ptr (3 : Nat) (0 : Nat)), ((8 : Nat), AV.s (SV.bool (gS is (iU x) != (2 : Int)))), ((88 : Nat), AV.ptr (4 : Nat) (0 : Nat)), ((101 : Nat), AV.tag (5 : Nat)), ((102 : Nat), AV.tag (0 : Nat))]) [AObj.dead, AObj.own [AV.s (SV.int IntKind.i64 ck), AV.s (SV.int IntKind.i64 nx), AV.s (SV.ro (Con.typ cP ps)), AV.s (SV.ro (Con.typ cI is)), AV.s (SV.ro (Con.typ cC cs)), AV.s (SV.ro (Con.typ cW ws))] (27 : Nat), AObj.map (CK.int IntKind.i64) (mput m (iI x) ((mget m (iI x)).getD (CK.int IntKind.i64).d + (1 : Int))), AObj.own [AV.s (SV.int IntKind.i64 (gI is (gU is (iU x)))), AV.s (SV.int IntKind.i64 (gU is (gU is (iU x)))), AV.s (SV.int IntKind.u8 (gS is (gU is (iU x)))), AV.s (SV.str (gP is (gU is (iU x)))), AV.s (SV.int IntKind.i64 (gN is (gU is (iU x)))), AV.s (SV.int IntKind.i64 (gF is (gU is (iU x)))), AV.s (SV.int IntKind.u8 (gW is (gU is (iU x)))), AV.s (SV.str (gC is (gU is (iU x))))] (45 : Nat), AObj.own [AV.vec (6 : Nat)] (33 : Nat), AObj.dead, AObj.vec (Con.ints IntKind.i64 (out ++ [iI x])) (3 : Nat)] (hd Try.f18 (5 : Nat)) (Stk.mk (some (18 : Nat)) false (0 : Nat) [inRange Try.f6 none (4 : Nat) (1 : Nat)] (0 : Nat)))) (Tree.at (Cfg.mk (sl (103 : Nat) [((0 : Nat), AV.tag (0 : Nat)), ((1 : Nat), AV.ptr (1 : Nat) (0 : Nat)), ((5 : Nat), AV.s (SV.bool (hasI is (iU x)))), ((6 : Nat), AV.mapv (2 : Nat)), ((7 : Nat), AV.ptr (3 : Nat) (0 : Nat)), ((8 : Nat), AV.s (SV.bool (gS is (iU x) != (2 : Int)))), ((88 : Nat), AV.ptr (4 : Nat) (0 : Nat)), ((101 : Nat), AV.tag (5 : Nat)), ((102 : Nat), AV.tag (0 : Nat))]) [AObj.dead, AObj.own [AV.s (SV.int IntKind.i64 ck), AV.s (SV.int IntKind.i64 nx), AV.s (SV.ro (Con.typ cP ps)), AV.s (SV.ro (Con.typ cI is)), AV.s (SV.ro (Con.typ cC cs)), AV.s (SV.ro (Con.typ cW ws))] (27 : Nat), AObj.map (CK.int IntKind.i64) (mput m (iI x) ((mget m (iI x)).getD (CK.int IntKind.i64).d + (1 : Int))), AObj.own [AV.s (SV.int IntKind.i64 (gI is (iU x))), AV.s (SV.int IntKind.i64 (gU is (iU x))), AV.s (SV.int IntKind.u8 (gS is (iU x))), AV.s (SV.str (gP is (iU x))), AV.s (SV.int IntKind.i64 (gN is (iU x))), AV.s (SV.int IntKind.i64 (gF is (iU x))), AV.s (SV.int IntKind.u8 (gW is (iU x))), AV.s (SV.str (gC is (iU x)))] (45 : Nat), AObj.own [AV.vec (6 : Nat)] (33 : Nat), AObj.dead, AObj.vec (Con.ints IntKind.i64 (out ++ [iI x])) (3 : Nat)] (hd Try.f18 (5 : Nat)) (Stk.mk (some (18 : Nat)) false (0 : Nat) [inRange Try.f6 none (4 : Nat) (1 : Nat)] (0 : Nat))))) (Tree.at (Cfg.mk (sl (103 : Nat) [((0 : Nat), AV.tag (0 : Nat)), ((1 : Nat), AV.ptr (1 : Nat) (0 : Nat)), ((5 : Nat), AV.s (SV.bool (hasI is (iU x)))), ((6 : Nat), AV.mapv (2 : Nat)), ((7 : Nat), AV.ptr (3 : Nat) (0 : Nat)), ((8 : Nat), AV.s (SV.bool (gS is (iU x) != (2 : Int)))), ((88 : Nat), AV.ptr (4 : Nat) (0 : Nat)), ((101 : Nat), AV.tag (5 : Nat)), ((102 : Nat), AV.tag (0 : Nat))]) [AObj.dead, AObj.own [AV.s (SV.int IntKind.i64 ck), AV.s (SV.int IntKind.i64 nx), AV.s (SV.ro (Con.typ cP ps)), AV.s (SV.ro (Con.typ cI is)), AV.s (SV.ro (Con.typ cC cs)), AV.s (SV.ro (Con.typ cW ws))] (27 : Nat), AObj.map (CK.int IntKind.i64) (mput m (iI x) ((mget m (iI x)).getD (CK.int IntKind.i64).d + (1 : Int))), AObj.own [AV.s (SV.int IntKind.i64 (gI is (iU x))), AV.s (SV.int IntKind.i64 (gU is (iU x))), AV.s (SV.int IntKind.u8 (gS is (iU x))), AV.s (SV.str (gP is (iU x))), AV.s (SV.int IntKind.i64 (gN is (iU x))), AV.s (SV.int IntKind.i64 (gF is (iU x))), AV.s (SV.int IntKind.u8 (gW is (iU x))), AV.s (SV.str (gC is (iU x)))] (45 : Nat), AObj.own [AV.vec (6 : Nat)] (33 : Nat), AObj.dead, AObj.vec (Con.ints IntKind.i64 (out ++ [iI x])) (3 : Nat)] (hd Try.f18 (5 : Nat)) (Stk.mk (some (18 : Nat)) false (0 : Nat) [inRange Try.f6 none (4 : Nat) (1 : Nat)] (0 : Nat)))))
            (Tree.ite (hasI is (iU x)) (Tree.ite (gS is (iU x) == (2 : Int)) (Tree.at (Cfg.mk (sl (103 : Nat) [((0 : Nat), AV.tag (0 : Nat)), ((1 : Nat), AV.ptr (1 : Nat) (0 : Nat)), ((5 : Nat), AV.s (SV.bool (hasI is (gU is (iU x))))), ((6 : Nat), AV.mapv (2 : Nat)), ((7 : Nat), AV.ptr (3 : Nat) (0 : Nat)), ((8 : Nat), AV.s (SV.bool false)), ((88 : Nat), AV.ptr (4 : Nat) (0 : Nat)), ((101 : Nat), AV.tag (5 : Nat)), ((102 : Nat), AV.tag (0 : Nat))]) [AObj.dead, AObj.own [AV.s (SV.int IntKind.i64 ck), AV.s (SV.int IntKind.i64 nx), AV.s (SV.ro (Con.typ cP ps)), AV.s (SV.ro (Con.typ cI is)), AV.s (SV.ro (Con.typ cC cs)), AV.s (SV.ro (Con.typ cW ws))] (27 : Nat), AObj.map (CK.int IntKind.i64) (mput m (iI x) ((mget m (iI x)).getD (CK.int IntKind.i64).d + (1 : Int))), AObj.own [AV.s (SV.int IntKind.i64 (gI is (gU is (iU x)))), AV.s (SV.int IntKind.i64 (gU is (gU is (iU x)))), AV.s (SV.int IntKind.u8 (gS is (gU is (iU x)))), AV.s (SV.str (gP is (gU is (iU x)))), AV.s (SV.int IntKind.i64 (gN is (gU is (iU x)))), AV.s (SV.int IntKind.i64 (gF is (gU is (iU x)))), AV.s (SV.int IntKind.u8 (gW is (gU is (iU x)))), AV.s (SV.str (gC is (gU is (iU x))))] (45 : Nat), AObj.own [AV.vec (6 : Nat)] (33 : Nat), AObj.dead, AObj.vec (Con.ints IntKind.i64 (out ++ [iI x])) (3 : Nat)] (hd Try.f18 (5 : Nat)) (Stk.mk (some (18 : Nat)) false (0 : Nat) [inRange Try.f6 none (4 : Nat) (1 : Nat)] (0 : Nat)))) (Tree.at (Cfg.mk (sl (103 : Nat) [((0 : Nat), AV.tag (0 : Nat)), ((1 : Nat), AV.ptr (1 : Nat) (0 : Nat)), ((5 : Nat), AV.s (SV.bool (hasI is (iU x)))), ((6 : Nat), AV.mapv (2 : Nat)), ((7 : Nat), AV.ptr (3 : Nat) (0 : Nat)), ((8 : Nat), AV.s (SV.bool false)), ((88 : Nat), AV.ptr (4 : Nat) (0 : Nat)), ((101 : Nat), AV.tag (5 : Nat)), ((102 : Nat), AV.tag (0 : Nat))]) [AObj.dead, AObj.own [AV.s (SV.int IntKind.i64 ck), AV.s (SV.int IntKind.i64 nx), AV.s (SV.ro (Con.typ cP ps)), AV.s (SV.ro (Con.typ cI is)), AV.s (SV.ro (Con.typ cC cs)), AV.s (SV.ro (Con.typ cW ws))] (27 : Nat), AObj.map (CK.int IntKind.i64) (mput m (iI x) ((mget m (iI x)).getD (CK.int IntKind.i64).d + (1 : Int))), AObj.own [AV.s (SV.int IntKind.i64 (gI is (iU x))), AV.s (SV.int IntKind.i64 (gU is (iU x))), AV.s (SV.int IntKind.u8 (gS is (iU x))), AV.s (SV.str (gP is (iU x))), AV.s (SV.int IntKind.i64 (gN is (iU x))), AV.s (SV.int IntKind.i64 (gF is (iU x))), AV.s (SV.int IntKind.u8 (gW is (iU x))), AV.s (SV.str (gC is (iU x)))] (45 : Nat), AObj.own [AV.vec (6 : Nat)] (33 : Nat), AObj.dead, AObj.vec (Con.ints IntKind.i64 (out ++ [iI x])) (3 : Nat)] (hd Try.f18 (5 : Nat)) (Stk.mk (some (18 : Nat)) false (0 : Nat) [inRange Try.f6 none (4 : Nat) (1 : Nat)] (0 : Nat))))) (Tree.at (Cfg.mk (sl (103 : Nat) [((0 : Nat), AV.tag (0 : Nat)), ((1 : Nat), AV.ptr (1 : Nat) (0 : Nat)), ((5 : Nat), AV.s (SV.bool (hasI is (iU x)))), ((6 : Nat), AV.mapv (2 : Nat)), ((7 : Nat), AV.ptr (3 : Nat) (0 : Nat)), ((8 : Nat), AV.s (SV.bool false)), ((88 : Nat), AV.ptr (4 : Nat) (0 : Nat)), ((101 : Nat), AV.tag (5 : Nat)), ((102 : Nat), AV.tag (0 : Nat))]) [AObj.dead, AObj.own [AV.s (SV.int IntKind.i64 ck), AV.s (SV.int IntKind.i64 nx), AV.s (SV.ro (Con.typ cP ps)), AV.s (SV.ro (Con.typ cI is)), AV.s (SV.ro (Con.typ cC cs)), AV.s (SV.ro (Con.typ cW ws))] (27 : Nat), AObj.map (CK.int IntKind.i64) (mput m (iI x) ((mget m (iI x)).getD (CK.int IntKind.i64).d + (1 : Int))), AObj.own [AV.s (SV.int IntKind.i64 (gI is (iU x))), AV.s (SV.int IntKind.i64 (gU is (iU x))), AV.s (SV.int IntKind.u8 (gS is (iU x))), AV.s (SV.str (gP is (iU x))), AV.s (SV.int IntKind.i64 (gN is (iU x))), AV.s (SV.int IntKind.i64 (gF is (iU x))), AV.s (SV.int IntKind.u8 (gW is (iU x))), AV.s (SV.str (gC is (iU x)))] (45 : Nat), AObj.own [AV.vec (6 : Nat)] (33 : Nat), AObj.dead, AObj.vec (Con.ints IntKind.i64 (out ++ [iI x])) (3 : Nat)] (hd Try.f18 (5 : Nat)) (Stk.mk (some (18 : Nat)) false (0 : Nat) [inRange Try.f6 none (4 : Nat) (1 : Nat)] (0 : Nat))))))))
      (Tree.ret [AObj.dead, AObj.own [AV.s (SV.int IntKind.i64 ck), AV.s (SV.int IntKind.i64 nx), AV.s (SV.ro (Con.typ cP ps)), AV.s (SV.ro (Con.typ cI is)), AV.s (SV.ro (Con.typ cC cs)), AV.s (SV.ro (Con.typ cW ws))] (27 : Nat), AObj.map (CK.int IntKind.i64) m, AObj.own [AV.s (SV.int IntKind.i64 (iI x)), AV.s (SV.int IntKind.i64 (iU x)), AV.s (SV.int IntKind.u8 (iS x)), AV.s (SV.str (iP x)), AV.s (SV.int IntKind.i64 (iN x)), AV.s (SV.int IntKind.i64 (iF x)), AV.s (SV.int IntKind.u8 (iW x)), AV.s (SV.str (iC x))] (45 : Nat), AObj.own [AV.vec (6 : Nat)] (33 : Nat), AObj.dead, AObj.vec (Con.ints IntKind.i64 out) (3 : Nat)] (AV.vec (6 : Nat))))
    (Tree.ret [AObj.dead, AObj.own [AV.s (SV.int IntKind.i64 ck), AV.s (SV.int IntKind.i64 nx), AV.s (SV.ro (Con.typ cP ps)), AV.s (SV.ro (Con.typ cI is)), AV.s (SV.ro (Con.typ cC cs)), AV.s (SV.ro (Con.typ cW ws))] (27 : Nat), AObj.map (CK.int IntKind.i64) m, AObj.own [AV.s (SV.int IntKind.i64 (iI x)), AV.s (SV.int IntKind.i64 (iU x)), AV.s (SV.int IntKind.u8 (iS x)), AV.s (SV.str (iP x)), AV.s (SV.int IntKind.i64 (iN x)), AV.s (SV.int IntKind.i64 (iF x)), AV.s (SV.int IntKind.u8 (iW x)), AV.s (SV.str (iC x))] (45 : Nat), AObj.own [AV.vec (6 : Nat)] (33 : Nat), AObj.dead, AObj.vec (Con.ints IntKind.i64 out) (3 : Nat)] (AV.vec (6 : Nat))))
  (Tree.ret [AObj.dead, AObj.own [AV.s (SV.int IntKind.i64 ck), AV.s (SV.int IntKind.i64 nx), AV.s (SV.ro (Con.typ cP ps)), AV.s (SV.ro (Con.typ cI is)), AV.s (SV.ro (Con.typ cC cs)), AV.s (SV.ro (Con.typ cW ws))] (27 : Nat), AObj.map (CK.int IntKind.i64) m, AObj.own [AV.s (SV.int IntKind.i64 (iI x)), AV.s (SV.int IntKind.i64 (iU x)), AV.s (SV.int IntKind.u8 (iS x)), AV.s (SV.str (iP x)), AV.s (SV.int IntKind.i64 (iN x)), AV.s (SV.int IntKind.i64 (iF x)), AV.s (SV.int IntKind.u8 (iW x)), AV.s (SV.str (iC x))] (45 : Nat), AObj.own [AV.vec (6 : Nat)] (33 : Nat), AObj.dead, AObj.vec (Con.ints IntKind.i64 out) (3 : Nat)] (AV.vec (6 : Nat))) := by kernel_rfl
end Ds

namespace Ds
open Go Go.Sx Go.Proofs Lf
def scoF (is : Is) (id : Int) : List Int := (scopesF is id).map fun e => iI e.1
theorem tabSx_ok {Z : Glob} : tabSx.Ok P Z := Tab.Ok.cons find_ok.sum Tab.Ok.nil
theorem scopes_ok {Z : Glob} : FnOk P Z 6 [tSt, tInt] [tNs] (fun ((_, _, _, is, _, _, ()), _) => [(is : Is).length ≤ 1000000]) (fun ((_, _, _, is, _, _, ()), id, ()) => (scoF is id, ())) := by
  refine fnOk_of_safe Try.func6 (by kernel_rfl) (by kernel_rfl) ?_
  rintro ⟨⟨(ck : Int), (nx : Int), (ps : Ps), (is : Is), (cs : Cs), (ws : Ws), ⟨⟩⟩, (id : Int), ⟨⟩⟩ _ ⟨(hl : is.length ≤ 1000000), _⟩ X hX hz
  show Safe P 6 X (Ends [tNs] (scoF is id, ())) _
  have loop : ∀ (n : Nat) (b own : Bool) (x : CL cI) (seen : List Int) (m : Mp) (out R : List Int), Marks m seen → seen.Nodup → (∀ k ∈ seen, k ∈ is.map iI) → (b = true → iI x ∈ is.map iI) → is.length < n + seen.length → out.length = seen.length →
      R = out ++ (scL is n b own x seen).map (fun e => iI e.1) → Safe P 6 X (Ends [tNs] (R, ())) (cSx ck nx ps is cs ws b own x m out) := by
    intro n
    induction n with
    | zero =>
      intro b own x seen m out R _ hnd hsub _ hlt _ _
      have := nodup_len hnd hsub
      rw [List.length_map] at this
      omega
    | succ n ih =>
      intro b own x seen m out R hm hnd hsub hb hlt ho hR
      have none_ : ¬ (b = true ∧ iS x = 1 ∧ iI x ∉ seen) → R = out := fun h => by
        rw [hR, scL_succ, if_neg h, List.map_nil, List.append_nil]
      refine go hz hX tabSx_ok Try.func6 (loopSx ck nx ps is cs ws b own x m out) ?_
      cases b with
      | false => rw [none_ (by simp)]; exact no_and rfl (ends_eq _ rfl (by kernel_rfl))
      | true =>
      refine yes_and rfl ?_
      by_cases h1 : iS x = 1
      rotate_left
      · rw [none_ (by simp [h1])]; exact no_and (beq_eq_false_iff_ne.2 h1) (ends_eq _ rfl (by kernel_rfl))
      refine yes_and (beq_iff_eq.2 h1) ?_
      have hc : (mget m (iI x)).getD (CK.int IntKind.i64).d = cnt m (iI x) := rfl
      rw [hc]
      by_cases h2 : iI x ∈ seen
      · have : cnt m (iI x) = 1 := by rw [hm, if_pos h2]
        rw [none_ (by simp [h2])]; exact no_and (by rw [this]; rfl) (ends_eq _ rfl (by kernel_rfl))
      have hc0 : cnt m (iI x) = 0 := by rw [hm, if_neg h2]
      have hnl := nodup_len hnd hsub
      rw [List.length_map] at hnl
      refine yes_and (by rw [hc0]; rfl) ⟨by rw [hc0]; exact ⟨by omega, by omega⟩, by omega, ?_⟩
      have hm' : Marks (mput m (iI x) (cnt m (iI x) + 1)) (seen ++ [iI x]) := marks_put hm h2
      have hR' : R = (out ++ [iI x]) ++ (scL is n (nxB is x) (nxO is x) (nxX is x) (seen ++ [iI x])).map (fun e => iI e.1) := by
        rw [hR, scL_succ, if_pos ⟨rfl, h1, h2⟩, List.map_cons, List.append_assoc]; rfl
      have next := fun b' own' x' => ih b' own' x' (seen ++ [iI x]) (mput m (iI x) (cnt m (iI x) + 1)) (out ++ [iI x]) R hm' (by
            rw [List.nodup_append]
            exact ⟨hnd, by simp, fun a ha b hb' e => h2 (by simp at hb'; rw [← hb', ← e]; exact ha)⟩) (fun k hk => by
            rcases List.mem_append.1 hk with hk | hk
            · exact hsub k hk
            · simp at hk; rw [hk]; exact hb rfl)
      have hlen : is.length < n + (seen ++ [iI x]).length := by rw [List.length_append]; simp; omega
      have hol : (out ++ [iI x]).length = (seen ++ [iI x]).length := by rw [List.length_append, List.length_append, ho]
      cases h3 : hasI is (iU x) with
      | false =>
        refine no_and rfl (no_and rfl ?_)
        have k := next false false (getT is (iU x)) (by simp) hlen hol
        have e1 : nxB is x = false := by unfold nxB; rw [h3]; rfl
        have e2 : nxO is x = false := by unfold nxO; rw [h3]; rfl
        have e3 : nxX is x = getT is (iU x) := by unfold nxX; rw [h3]; rfl
        rw [e1, e2, e3] at hR'
        exact k hR'
      | true =>
        refine yes_and rfl (yes_and rfl ?_)
        cases h4 : gS is (iU x) == 2 with
        | true =>
          refine yes_and rfl ?_
          have h5 : (gS is (iU x) != 2) = false := by simp only [bne, h4]; rfl
          rw [h5]
          have e1 : nxB is x = hasI is (gU is (iU x)) := by unfold nxB; rw [h3, h4]; rfl
          have e2 : nxO is x = false := by unfold nxO; rw [h3, h5]; rfl
          have e3 : nxX is x = getT is (gU is (iU x)) := by unfold nxX; rw [h3, h4]; rfl
          rw [e1, e2, e3] at hR'
          exact next (hasI is (gU is (iU x))) false (getT is (gU is (iU x))) (fun hh => by show gI is (gU is (iU x)) ∈ _; rw [(has_item hh).1]; exact (has_item hh).2.1) hlen hol hR'
        | false =>
          refine no_and rfl ?_
          have h5 : (gS is (iU x) != 2) = true := by simp only [bne, h4]; rfl
          rw [h5]
          have e1 : nxB is x = true := by unfold nxB; rw [h3, h4]; rfl
          have e2 : nxO is x = true := by unfold nxO; rw [h3, h5]; rfl
          have e3 : nxX is x = getT is (iU x) := by unfold nxX; rw [h3, h4]; rfl
          rw [e1, e2, e3] at hR'
          exact next true true (getT is (iU x)) (fun _ => by show gI is (iU x) ∈ _; rw [(has_item h3).1]; exact (has_item h3).2.1) hlen hol hR'
  refine go hz hX tabSx_ok Try.func6 (trSx ck nx ps is cs ws id) ?_
  have e0 : (hasI is id && (gS is id == 2)) = false → scoF is id = [] := fun h => by
    unfold scoF scopesF; rw [if_neg (by rw [h]; simp)]; rfl
  cases h0 : hasI is id with
  | false => rw [e0 (by rw [h0]; rfl)]; exact yes_and rfl (ends_eq _ rfl (by kernel_rfl))
  | true =>
    refine no_and rfl ?_
    cases h1 : gS is id == 2 with
    | false =>
      rw [e0 (by rw [h0, h1]; rfl)]; exact yes_and (by simp only [bne, h1]; rfl) (ends_eq _ rfl (by kernel_rfl))
    | true =>
      refine no_and (by simp only [bne, h1]; rfl) ?_
      refine loop (is.length + 1) (hasI is (gU is id)) false (getT is (gU is id)) [] [] [] _ (fun k => by simp [cnt, mget]) List.nodup_nil (fun k hk => by cases hk) (fun hh => by show gI is (gU is id) ∈ _; rw [(has_item hh).1]; exact (has_item hh).2.1) (by simp) rfl ?_
      unfold scoF scopesF
      rw [if_pos (by rw [h0, h1]; rfl), List.nil_append]
end Ds

namespace Ds
open Go Go.Sx Go.Proofs Lf
abbrev sumSc := sumR [tSt, tInt] [tNs] (fun ((_, _, _, is, _, _, ()), _) => [(is : Is).length ≤ 1000000]) (fun ((_, _, _, is, _, _, ()), id, ()) => (scoF is id, ()))
abbrev sumTt := sumOf [] [tBool] (fun _ => []) (fun _ => (true, ()))
abbrev sumEq := sumOf [tNs, tNs] [tBool] (fun (a, b, ()) => [(a : List Int) = b]) (fun _ => (true, ()))
def tabRn : Tab := [(5, sumRf), (6, sumSc), (7, sumEq), (8, sumTt)]
abbrev inRn : List FuncId := [4]
abbrev kN : Nat := (4 + 1) * 100000
def nsRn : List (Nat × Norm) := [(midKey + ((kN + 6) * 1000 + 1), ⟨[], [2, 21], 0, []⟩)]
def nsEq : List (Nat × Norm) := [(4, ⟨[], [0, 1, 5], 0, []⟩)]
noncomputable def cEq (a b : List Int) (i : Int) : Cfg := ⟨sl 26 [(0, avL a), (1, avL b), (5, avI i)], [], hd Try.f7 4, {}⟩
theorem trRn0  : run P tabRn.sum Try.f3 nsRn (start Try.f3 [] []) inRn =
  Tree.ite false (Tree.ite false (Tree.need (((3 : Nat) + (2 : Nat)) * (152 : Nat) ≤ (140737488355328 : Nat)) (Tree.at (Cfg.mk (sl (130 : Nat) [((2 : Nat), AV.ptr (0 : Nat) (0 : Nat)), ((21 : Nat), AV.agg [AV.s (SV.str (ByteArray.mk #[(112 : UInt8)])), AV.emp, AV.vec (1 : Nat), AV.emp])]) [AObj.own [AV.s (SV.int IntKind.i64 (0 : Int)), AV.s (SV.int IntKind.i64 (0 : Int)), AV.emp, AV.emp, AV.emp, AV.emp] (27 : Nat), AObj.vec (Con.typ cN ([(ByteArray.mk #[(97 : UInt8)], (11 : Int), (-1 : Int), (-1 : Int), (0 : Int), ByteArray.empty, ByteArray.empty, ByteArray.empty, false, [], [], ()), (ByteArray.mk #[(98 : UInt8)], (15 : Int), (-1 : Int), (0 : Int), (4 : Int), ByteArray.mk #[(107 : UInt8)], ByteArray.empty, ByteArray.empty, true, [], [], ()), (ByteArray.mk #[(99 : UInt8)], (3 : Int), (0 : Int), (-1 : Int), (0 : Int), ByteArray.empty, ByteArray.empty, ByteArray.empty, false, [], [], ())] ++ [(ByteArray.mk #[(100 : UInt8)], (13 : Int), (0 : Int), (-1 : Int), (0 : Int), ByteArray.empty, ByteArray.empty, ByteArray.empty, false, [], [], ()), (ByteArray.mk #[(101 : UInt8)], (1 : Int), (3 : Int), (-1 : Int), (4 : Int), ByteArray.empty, ByteArray.empty, ByteArray.empty, true, [], [], ())])) (39 : Nat)] (cal Try.f4 (6 : Nat) (1 : Nat)) (Stk.mk (some (4 : Nat)) false (0 : Nat) [inCall Try.f3 none (1 : Nat) (0 : Nat) false (0 : Nat)] (6 : Nat))))) (Tree.need (((3 : Nat) + (2 : Nat)) * (152 : Nat) ≤ (140737488355328 : Nat)) (Tree.at (Cfg.mk (sl (130 : Nat) [((2 : Nat), AV.ptr (0 : Nat) (0 : Nat)), ((21 : Nat), AV.agg [AV.s (SV.str (ByteArray.mk #[(112 : UInt8)])), AV.emp, AV.vec (1 : Nat), AV.emp])]) [AObj.own [AV.s (SV.int IntKind.i64 (0 : Int)), AV.s (SV.int IntKind.i64 (0 : Int)), AV.emp, AV.emp, AV.emp, AV.emp] (27 : Nat), AObj.vec (Con.typ cN ([(ByteArray.mk #[(97 : UInt8)], (11 : Int), (-1 : Int), (-1 : Int), (0 : Int), ByteArray.empty, ByteArray.empty, ByteArray.empty, false, [], [], ()), (ByteArray.mk #[(98 : UInt8)], (15 : Int), (-1 : Int), (0 : Int), (4 : Int), ByteArray.mk #[(107 : UInt8)], ByteArray.empty, ByteArray.empty, true, [], [], ()), (ByteArray.mk #[(99 : UInt8)], (3 : Int), (0 : Int), (-1 : Int), (0 : Int), ByteArray.empty, ByteArray.empty, ByteArray.empty, false, [], [], ())] ++ [(ByteArray.mk #[(100 : UInt8)], (13 : Int), (0 : Int), (-1 : Int), (0 : Int), ByteArray.empty, ByteArray.empty, ByteArray.empty, false, [], [], ()), (ByteArray.mk #[(101 : UInt8)], (1 : Int), (3 : Int), (-1 : Int), (4 : Int), ByteArray.empty, ByteArray.empty, ByteArray.empty, true, [], [], ())])) (39 : Nat)] (cal Try.f4 (6 : Nat) (1 : Nat)) (Stk.mk (some (4 : Nat)) false (0 : Nat) [inCall Try.f3 none (1 : Nat) (0 : Nat) false (0 : Nat)] (6 : Nat)))))) (Tree.at (Cfg.mk (sl (130 : Nat) [((2 : Nat), AV.ptr (0 : Nat) (0 : Nat)), ((21 : Nat), AV.agg [AV.s (SV.str (ByteArray.mk #[(112 : UInt8)])), AV.emp, AV.vec (1 : Nat), AV.emp])]) [AObj.own [AV.s (SV.int IntKind.i64 (0 : Int)), AV.s (SV.int IntKind.i64 (0 : Int)), AV.emp, AV.emp, AV.emp, AV.emp] (27 : Nat), AObj.vec (Con.typ cN [(ByteArray.mk #[(97 : UInt8)], (11 : Int), (-1 : Int), (-1 : Int), (0 : Int), ByteArray.empty, ByteArray.empty, ByteArray.empty, false, [], [], ()), (ByteArray.mk #[(98 : UInt8)], (15 : Int), (-1 : Int), (0 : Int), (4 : Int), ByteArray.mk #[(107 : UInt8)], ByteArray.empty, ByteArray.empty, true, [], [], ()), (ByteArray.mk #[(99 : UInt8)], (3 : Int), (0 : Int), (-1 : Int), (0 : Int), ByteArray.empty, ByteArray.empty, ByteArray.empty, false, [], [], ())]) (39 : Nat)] (cal Try.f4 (6 : Nat) (1 : Nat)) (Stk.mk (some (4 : Nat)) false (0 : Nat) [inCall Try.f3 none (1 : Nat) (0 : Nat) false (0 : Nat)] (6 : Nat)))) := by kernel_rfl
theorem trEq (a b : List Int) : run P tab0.sum Try.f7 nsEq (start Try.f7 [avL a, avL b] []) =
  Tree.ite ((↑a.length : Int) != (↑b.length : Int)) (Tree.ret [] (AV.s (SV.blit false))) (Tree.at (Cfg.mk (sl (26 : Nat) [((0 : Nat), AV.s (SV.ro (Con.ints IntKind.i64 a))), ((1 : Nat), AV.s (SV.ro (Con.ints IntKind.i64 b))), ((5 : Nat), AV.s (SV.int IntKind.i64 (0 : Int)))]) [] (hd Try.f7 (4 : Nat)) (Stk.mk none false (0 : Nat) [] (0 : Nat)))) := by kernel_rfl
theorem loopEq (a b : List Int) (i : Int) : run P tab0.sum Try.f7 nsEq (cEq a b i) =
  Tree.ite (decide (i < (↑a.length : Int))) (Tree.need ((0 : Int) ≤ i) (Tree.need (i < (↑a.length : Int)) (Tree.need ((0 : Int) ≤ i) (Tree.need (i < (↑b.length : Int)) (Tree.ite (a.getD i.toNat (0 : Int) != b.getD i.toNat (0 : Int)) (Tree.ret [] (AV.s (SV.blit false))) (Tree.need (inI64 (i + (1 : Int))) (Tree.at (Cfg.mk (sl (26 : Nat) [((0 : Nat), AV.s (SV.ro (Con.ints IntKind.i64 a))), ((1 : Nat), AV.s (SV.ro (Con.ints IntKind.i64 b))), ((5 : Nat), AV.s (SV.int IntKind.i64 (i + (1 : Int))))]) [] (hd Try.f7 (4 : Nat)) (Stk.mk none false (0 : Nat) [] (0 : Nat)))))))))) (Tree.ret [] (AV.s (SV.blit true))) := by kernel_rfl
theorem eq_ok {Z : Glob} : FnOk P Z 7 [tNs, tNs] [tBool] (fun (a, b, ()) => [(a : List Int) = b]) (fun _ => (true, ())) := by
  refine fnOk_of_safe Try.func7 (by kernel_rfl) (by kernel_rfl) ?_
  rintro ⟨(l : List Int), (m : List Int), ⟨⟩⟩ ⟨(hl : l.length ≤ maxLen), _⟩ ⟨hE, _⟩ X hX hz
  have hE : l = m := hE
  subst hE
  have hl2 : l.length ≤ 9223372036854775807 := by unfold maxLen at hl; omega
  show Safe P 7 X (Ends [tBool] (true, ())) _
  have loop : ∀ (n k : Nat), k + n = l.length → Safe P 7 X (Ends [tBool] (true, ())) (cEq l l (k : Int)) := by
    intro n
    induction n with
    | zero => exact fun k hk => go hz hX Tab.Ok.nil Try.func7 (loopEq l l k) (no_and (decide_eq_false (by omega)) (ends_eq _ rfl (by kernel_rfl)))
    | succ n ih => exact fun k hk => go hz hX Tab.Ok.nil Try.func7 (loopEq l l k) (yes_and (decide_eq_true (by omega)) ⟨by omega, by omega, by omega, by omega, no_and (by simp) ⟨⟨by omega, by omega⟩, ih (k + 1) (by omega)⟩⟩)
  exact go hz hX Tab.Ok.nil Try.func7 (trEq l l) (no_and (by simp) (loop l.length 0 (by omega)))
end Ds

/-! A package variable that is a map of rows of bytes, and stands: how it is loaded, and what is found in it. -/
namespace Go.Sx
open Go

/-- What the variable bears: the map, and what stands at a key, as the model has them. -/
structure MapVar (P : Program) (Z : Glob) (g : Nat) (t : TypeId) (row : Int → List Int) where
  m : Value
  at_ : Int → Value
  m1 : m.oneCell' = true
  at1 : ∀ n, (at_ n).oneCell' = true
  load : ∀ (o : Oper) (e : Operand → Value) (w : World), o.op = .load t (.global g) → e (.global g) = .pointer (some ⟨g, 0, none⟩) → Z.ok w → (execOp e o).run P w = .ok (.value m) w
  look : ∀ (w : World) (n : Int), Z.ok w → (Instr.lookup t m (.int .u8 n) false).run P w = .ok (at_ n) w
  row_ : ∀ (w : World) (n : Int), Z.ok w → DenS (fun _ => False) w (.ro (.ints .u8 (row n))) (at_ n)

section
variable {ρ ρ' : Nat → Value} {H H' H1 H2 : AHeap} {G O O' : Nat → Prop} {w w' w1 w2 : World} {P : Program} {X : Ctx} {K : List AObj → AV → Prop} {Z : Glob}

/-- Whether an operation is done, told by the slots. -/
def gOk (ops : Array Oper) (o : Oper) (tmps : List AV) : Bool :=
  match o.guard with
  | none => true
  | some (g, want) => match (ops[g]?).bind (·.dst) with
    | some d => (match tmps.getD d (.s .junk) with
      | .s (.blit b) => b == want
      | .s (.bool b) => b == want
      | _ => false)
    | none => false

theorem gOk_wanted {ops : Array Oper} {o : Oper} {s : St} {a : Act} (h : gOk ops o s.tmps = true) (hr : Rep X ρ s a w) : Region.wanted o (yielded ops a.tmps) = true := by
  unfold gOk at h
  split at h
  · rename_i hg; simp [Region.wanted, hg]
  · rename_i g want hg
    split at h
    · rename_i d hd
      split at h
      · rename_i b hb
        have := blit_get hr hb
        simp only [Region.wanted, hg, yielded, hd, Option.bind_some, this]
        simpa using h
      · rename_i b hb
        have hlt : d < s.tmps.length := by
          rcases Nat.lt_or_ge d s.tmps.length with h3 | h3
          · exact h3
          · rw [List.getD, List.getElem?_eq_none h3] at hb
            simp at hb
        have h2 := DenS_of_V (by simp) (hb ▸ hr.den d)
        have hlt2 : d < a.tmps.size := by rw [hr.size] at hlt; exact hlt
        have : a.tmps[d]? = some (.bool b) := by
          have h4 : a.tmps.getD d undef = a.tmps[d] := by simp [Array.getD, hlt2]
          rw [h4] at h2
          rw [Array.getElem?_eq_getElem hlt2]
          generalize a.tmps[d] = u at h2
          cases h2
          rfl
        simp only [Region.wanted, hg, yielded, hd, Option.bind_some, this]
        simpa using h
      · cases h
    · cases h

/-- One operation, by a rule of its own, also behind a guard. -/
theorem oneG_safe {f : FuncId} {fn : Func} {key i : Nat} {ops : Array Oper} {o : Oper} {k : List Item} (hat : opAt fn key i = some (ops, o, k)) (hnd : noDefer ops = true) {tmps : List AV} {L : List AObj} {stk : Stk} (hg : gOk ops o tmps = true)
    (hin : (stk.plain || slotsIn (Cfg.n ⟨tmps, L, [], stk⟩) ops) = true)
    (h : ∀ G E ρ a w, Rep (X.at G E) ρ ⟨tmps, L⟩ a w → Yields P o a.eval w (fun v w' => ∃ q ρ', Rep (X.at G E) ρ' (St.put ⟨tmps, L⟩ o.dst q) (a.put o.dst v) w' ∧
      Safe P f X K ⟨(St.put ⟨tmps, L⟩ o.dst q).tmps, (St.put ⟨tmps, L⟩ o.dst q).H, cal fn key (i + 1), stk⟩)) : Safe P f X K ⟨tmps, L, cal fn key i, stk⟩ := by
  obtain ⟨ho, hc⟩ : ops[i]? = some o ∧ ∀ j, cal fn key j = .inRegion ops (List.range' j (ops.size - j)) :: k := by
    unfold opAt at hat
    split at hat
    · rename_i n ops' d k' hh
      simp only [Option.map_eq_some_iff, Prod.mk.injEq] at hat
      obtain ⟨o', e1, rfl, rfl, rfl⟩ := hat
      exact ⟨e1, fun j => by unfold cal; rw [hh]⟩
    · cases hat
  intro G E ρ a w hG1 hG2 hr b t fs hw
  obtain ⟨rest, Ds, htop0, hplain, hwf⟩ := hw.top (c := ⟨tmps, L, [], stk⟩) hr.dp.len
  have htop : TopR (Cfg.n ⟨tmps, L, [], stk⟩) rest Ds a t := by
    have e : (⟨a.tmps.toList.toArray, []⟩ : Act) = a := by
      have := hr.defers
      cases a
      simp at this ⊢
      exact this
    rw [e] at htop0
    exact htop0
  have hin' : InTop (Cfg.n ⟨tmps, L, [], stk⟩) rest ops := or_in hin hplain (fun x => x)
  have hdst := (hin'.op ho).imp (fun x => x) (·.2.1)
  have hi : i < ops.size := (Array.getElem?_eq_some_iff.1 ho).1
  have hrange : List.range' i (ops.size - i) = i :: List.range' (i + 1) (ops.size - (i + 1)) := by
    rw [show ops.size - i = ops.size - (i + 1) + 1 from by omega, List.range'_succ]
  have hy' := (h G E ρ a w hr).congr (htop.same hin' ho).1
  have hwant : Region.wanted o (yielded ops t.tmps) = true := by rw [(htop.same hin' ho).2]; exact gOk_wanted hg hr
  show GoesM P f (Post X K) b t (cal fn key i) fs w
  rw [hc i, hrange]
  intro cs
  obtain ⟨v, w', ⟨q, ρ', hr', hs⟩, hst⟩ := op_step ho hwant (defer_ne hnd ho) hy' b k (fs ++ cs) (rest := List.range' (i + 1) (ops.size - (i + 1)))
  have hput := htop.put hdst v
  have := hs G E ρ' _ w' hG1 hG2 hr' b (t.put o.dst v) fs (hwf _ _ hput hr'.defers)
  rw [hc (i + 1)] at this
  obtain ⟨e, w2, fr, g1, g2, g3⟩ := this cs
  exact ⟨e, w2, fr, g1, Comes.of_steps hst g2, g3⟩

theorem put_none {s : St} {d : Option Tmp} {r : Nat → AV} : (s.put d ⟨[], [], [], r⟩).look = s.look := by
  funext id
  show (s.H ++ [])[id]? = s.H[id]?
  rw [List.append_nil]
end
end Go.Sx

/-! A value told with less: literals as any numbers, empty rows as rows that are read. -/
namespace Go.Sx
open Go

inductive Wk1 : AV → AV → Prop
  | refl (a : AV) : Wk1 a a
  | bl (b : Bool) : Wk1 (.s (.blit b)) (.s (.bool b))
  | il (k : IntKind) (n : Int) : Wk1 (.s (.ilit k n)) (.s (.int k n))
  | em (c : Con) : c.n = 0 → Wk1 .emp (.s (.ro c))
  | an (k : IntKind) (n : Int) : Wk1 (.s (.int k n)) (.s (.anyi k))
inductive WkL : List AV → List AV → Prop
  | nil : WkL [] []
  | cons {a b : AV} {l m : List AV} : Wk1 a b → WkL l m → WkL (a :: l) (b :: m)
inductive Wk2 : AV → AV → Prop
  | one {a b : AV} : Wk1 a b → Wk2 a b
  | agg {l m : List AV} : WkL l m → Wk2 (.agg l) (.agg m)
inductive WkT : List AV → List AV → Prop
  | nil : WkT [] []
  | cons {a b : AV} {l m : List AV} : Wk2 a b → WkT l m → WkT (a :: l) (b :: m)
inductive Wk : AV → AV → Prop
  | two {a b : AV} : Wk2 a b → Wk a b
  | tup {l m : List AV} : WkT l m → Wk (.tup l) (.tup m)

section
variable {ρ : Nat → Value} {H : AHeap} {O : Nat → Prop} {w : World}
theorem Wk1.den {a b : AV} (h : Wk1 a b) {v : Value} (hd : DenV ρ H O w a v) : DenV ρ H O w b v := by
  cases h with
  | refl => exact hd
  | bl b =>
    have := DenS_of_V (by simp) hd
    cases this
    exact DenV_s (.bool _)
  | il k n =>
    have := DenS_of_V (by simp) hd
    cases this
    exact DenV_s (.int _ _)
  | em c hc =>
    unfold DenV at hd
    obtain ⟨a, rfl⟩ := hd
    exact DenV_s (emp_ro' hc a)
  | an k n =>
    have := DenS_of_V (by simp) hd
    cases this
    exact DenV_s (.anyi _ _)
theorem Wk1.denC {a b : AV} (h : Wk1 a b) {cs : List Value} (hd : DenC ρ H O w a cs) : DenC ρ H O w b cs := by
  cases h with
  | refl => exact hd
  | bl b =>
    unfold DenC at hd ⊢
    obtain ⟨u, rfl, h⟩ := hd
    cases h
    exact ⟨_, rfl, .bool _⟩
  | il k n =>
    unfold DenC at hd ⊢
    obtain ⟨u, rfl, h⟩ := hd
    cases h
    exact ⟨_, rfl, .int _ _⟩
  | em c hc =>
    unfold DenC at hd ⊢
    obtain ⟨u, rfl, a, rfl⟩ := hd
    exact ⟨_, rfl, emp_ro' hc a⟩
  | an k n =>
    unfold DenC at hd ⊢
    obtain ⟨u, rfl, h⟩ := hd
    cases h
    exact ⟨_, rfl, .anyi _ _⟩
theorem WkL.den {l m : List AV} (h : WkL l m) : ∀ {cs : List Value}, DenSegs ρ H O w l cs → DenSegs ρ H O w m cs := by
  induction h with
  | nil => exact fun hd => hd
  | cons h1 _ ih =>
    intro cs hd
    unfold DenSegs at hd ⊢
    obtain ⟨c1, c2, e, g1, g2⟩ := hd
    exact ⟨c1, c2, e, h1.denC g1, ih g2⟩
theorem Wk2.den {a b : AV} (h : Wk2 a b) {v : Value} (hd : DenV ρ H O w a v) : DenV ρ H O w b v := by
  cases h with
  | one h => exact h.den hd
  | agg h =>
    unfold DenV at hd ⊢
    obtain ⟨cs, e, g⟩ := hd
    exact ⟨cs, e, h.den g⟩
theorem WkT.den {l m : List AV} (h : WkT l m) : ∀ {vs : List Value}, DenL ρ H O w l vs → DenL ρ H O w m vs := by
  induction h with
  | nil => exact fun hd => hd
  | cons h1 _ ih =>
    intro vs hd
    obtain ⟨v, rest, e, g1, g2⟩ := DenL_cons.1 hd
    exact DenL_cons.2 ⟨v, rest, e, h1.den g1, ih g2⟩
theorem Wk.den {a b : AV} (h : Wk a b) {v : Value} (hd : DenV ρ H O w a v) : DenV ρ H O w b v := by
  cases h with
  | two h => exact h.den hd
  | tup h =>
    unfold DenV at hd ⊢
    obtain ⟨us, e, g⟩ := hd
    exact ⟨us, e, h.den g⟩
end

end Go.Sx

/-! Own rows given up by a call, also those in parts of its arguments; a run's end whose answers are seen one by one. -/
namespace Go.Sx
open Go

section
variable {ρ ρ' : Nat → Value} {H H' : AHeap} {G O O' : Nat → Prop} {w w' : World} {P : Program} {Z : Glob} {X : Type} {S : Spec X}

theorem WkT.same : ∀ (os : List AV), WkT os os
  | [] => .nil
  | a :: os => .cons (.one (.refl a)) (WkT.same os)
end
end Go.Sx

/-! Calls that always panic. -/
namespace Go.Sx
open Go

section
variable {ρ ρ' : Nat → Value} {H H' : AHeap} {G O O' : Nat → Prop} {w w' : World} {P : Program} {X : Ctx} {K : List AObj → AV → Prop} {Z : Glob}

variable {T : Type} {S : Spec T} {ch : List PanicEntry}
end
end Go.Sx

namespace Go.Sx
open Go
section
variable {ρ ρ' : Nat → Value} {H H' H1 H2 : AHeap} {G O O' : Nat → Prop} {w w' w1 w2 : World} {P : Program} {X : Ctx} {K : List AObj → AV → Prop} {Z : Glob} {E : List (Nat × Obj)} {a : Act}
/-- From just this state the call comes to its end. -/
def SafeAt (P : Program) (f : FuncId) (X : Ctx) (K : List AObj → AV → Prop) (c : Cfg) (E : List (Nat × Obj)) (a : Act) (w : World) : Prop :=
  ∀ b t fs, Wf f c.stk a.tmps.toList E b t fs → GoesM P f (Post X K) b t c.todo fs w
/-- One operation, by a rule of its own; what goes on may hang on the state. -/
theorem oneAt {f : FuncId} {fn : Func} {key i : Nat} {ops : Array Oper} {o : Oper} {k : List Item} (hat : opAt fn key i = some (ops, o, k)) (hnd : noDefer ops = true) {tmps : List AV} {L : List AObj} {stk : Stk} (hg : gOk ops o tmps = true)
    (hin : (stk.plain || slotsIn (Cfg.n ⟨tmps, L, [], stk⟩) ops) = true)
    (h : ∀ G E ρ a w, (∀ b, X.G b → G b) → (∀ b, G b → X.G b ∨ X.w.heap.size ≤ b) → Rep (X.at G E) ρ ⟨tmps, L⟩ a w → Yields P o a.eval w (fun v w' => ∃ q ρ', Rep (X.at G E) ρ' (St.put ⟨tmps, L⟩ o.dst q) (a.put o.dst v) w' ∧
      SafeAt P f X K ⟨(St.put ⟨tmps, L⟩ o.dst q).tmps, (St.put ⟨tmps, L⟩ o.dst q).H, cal fn key (i + 1), stk⟩ E (a.put o.dst v) w')) : Safe P f X K ⟨tmps, L, cal fn key i, stk⟩ := by
  obtain ⟨ho, hc⟩ : ops[i]? = some o ∧ ∀ j, cal fn key j = .inRegion ops (List.range' j (ops.size - j)) :: k := by
    unfold opAt at hat
    split at hat
    · rename_i n ops' d k' hh
      simp only [Option.map_eq_some_iff, Prod.mk.injEq] at hat
      obtain ⟨o', e1, rfl, rfl, rfl⟩ := hat
      exact ⟨e1, fun j => by unfold cal; rw [hh]⟩
    · cases hat
  intro G E ρ a w hG1 hG2 hr b t fs hw
  obtain ⟨rest, Ds, htop0, hplain, hwf⟩ := hw.top (c := ⟨tmps, L, [], stk⟩) hr.dp.len
  have htop : TopR (Cfg.n ⟨tmps, L, [], stk⟩) rest Ds a t := by
    have e : (⟨a.tmps.toList.toArray, []⟩ : Act) = a := by
      have := hr.defers
      cases a
      simp at this ⊢
      exact this
    rw [e] at htop0
    exact htop0
  have hin' : InTop (Cfg.n ⟨tmps, L, [], stk⟩) rest ops := or_in hin hplain (fun x => x)
  have hdst := (hin'.op ho).imp (fun x => x) (·.2.1)
  have hi : i < ops.size := (Array.getElem?_eq_some_iff.1 ho).1
  have hrange : List.range' i (ops.size - i) = i :: List.range' (i + 1) (ops.size - (i + 1)) := by
    rw [show ops.size - i = ops.size - (i + 1) + 1 from by omega, List.range'_succ]
  have hy' := (h G E ρ a w hG1 hG2 hr).congr (htop.same hin' ho).1
  have hwant : Region.wanted o (yielded ops t.tmps) = true := by rw [(htop.same hin' ho).2]; exact gOk_wanted hg hr
  show GoesM P f (Post X K) b t (cal fn key i) fs w
  rw [hc i, hrange]
  intro cs
  obtain ⟨v, w', ⟨q, ρ', hr', hs⟩, hst⟩ := op_step ho hwant (defer_ne hnd ho) hy' b k (fs ++ cs) (rest := List.range' (i + 1) (ops.size - (i + 1)))
  have hput := htop.put hdst v
  have := hs b (t.put o.dst v) fs (hwf _ _ hput hr'.defers)
  rw [hc (i + 1)] at this
  obtain ⟨e, w2, fr, g1, g2, g3⟩ := this cs
  exact ⟨e, w2, fr, g1, Comes.of_steps hst g2, g3⟩
/-- The call's rest, as of a call that begins here. -/
def Ctx.here (X : Ctx) (ρ : Nat → Value) (L : List AObj) (G : Nat → Prop) (w : World) : Ctx := ⟨ρ, lk L, G, w, [], X.pan⟩
theorem Post.here {tmps : List AV} {L : List AObj} (hG1 : ∀ b, X.G b → G b) (hG2 : ∀ b, G b → X.G b ∨ X.w.heap.size ≤ b) (hr : Rep (X.at G E) ρ ⟨tmps, L⟩ a w) {e : Ending} {w1 : World} (h : Post (X.here ρ L G w) K e w1) : Post X K e w1 := by
  rcases h with ⟨v, rfl, L', r, hK, ρ', s', d', st', fr'⟩ | h
  · refine Post.of_rep (tmps := []) (a := ⟨#[], []⟩) (E := E) hG1 hG2 ⟨s', rfl, fun t => ?_, rfl, hr.from_.trans st', Frm.trans hr fr', hr.kept.frm hr.sat fr'⟩ d' hK
    simp [DenV]
  · exact .inr h
theorem ZCtx.here {tmps : List AV} {L : List AObj} (hz : ZCtx Z X) (hr : Rep (X.at G E) ρ ⟨tmps, L⟩ a w) : ZCtx Z (X.here ρ L G w) := zed (hz.at G E) hr.frm hr.sat hr.from_
/-- No marks: no ghosts. -/
theorem WfS.none {f0 : FuncId} : ∀ {ds : List FrD} {vs : List Value} {E : List (Nat × Obj)} {fs : List Frame}, WfS f0 ds vs E fs → (∀ d ∈ ds, d.marks = 0 ∧ d.lp = none) → E = []
  | [], _, _, _, h, _ => h.2.1
  | d :: ds, _, _, _, h, k => by
    obtain ⟨v0, rv, v2, Ds, E1, E2, b, a, fs2, lv, lE, todo, rfl, rfl, rfl, h1, h2, h3, h4, h5⟩ := h
    obtain ⟨k1, k2⟩ := k d List.mem_cons_self
    rw [k1] at h2
    have := List.eq_nil_of_length_eq_zero h2
    subst this
    rw [k2] at h5
    obtain ⟨_, rfl, _⟩ := h5
    rw [h3.ghost, WfS.none h4 fun x hx => k x (List.mem_cons_of_mem _ hx)]
    rfl
theorem Wf.none {f0 : FuncId} {k : Stk} {vs : List Value} {E : List (Nat × Obj)} {b : Frame} {t : Act} {fs : List Frame} (h : Wf f0 k vs E b t fs) (hk : k.marks = 0) (hd : ∀ d ∈ k.below, d.marks = 0 ∧ d.lp = none) : E = [] := by
  obtain ⟨_, v0, rv, v2, Ds, E1, E2, rfl, rfl, h2, h3, h4⟩ := h
  rw [hk] at h2
  have := List.eq_nil_of_length_eq_zero h2
  subst this
  rw [h3.ghost, h4.none hd]
  rfl
theorem rebase {f : FuncId} {tmps : List AV} {L : List AObj} {todo : List Item} {stk : Stk} (hG1 : ∀ b, X.G b → G b) (hG2 : ∀ b, G b → X.G b ∨ X.w.heap.size ≤ b) (hr : Rep (X.at G E) ρ ⟨tmps, L⟩ a w) (hk : stk.marks = 0) (hd : ∀ d ∈ stk.below, d.marks = 0 ∧ d.lp = none)
    (h : Safe P f (X.here ρ L G w) K ⟨tmps, L, todo, stk⟩) : SafeAt P f X K ⟨tmps, L, todo, stk⟩ E a w := by
  intro b t fs hw cs
  have hE := hw.none hk hd
  subst hE
  obtain ⟨e, w2, fr, g1, g2⟩ := h G [] ρ a w (fun _ h => h) (fun _ h => .inl h) ⟨hr.sat, hr.size, hr.den, hr.defers, Step.refl _ _ _ _, ⟨rfl, rfl, rfl, fun _ _ _ => rfl⟩, fun _ hx => by cases hx⟩ b t fs hw cs
  exact ⟨e, w2, fr, Post.here hG1 hG2 hr g1, g2⟩
/-- A row's value, and the own object that its block is. -/
def RowAt (ρ : Nat → Value) (d : Nat) (dv : Value) (m : Nat) : Prop := ∃ b, ρ d = .pointer (some ⟨b, 0, none⟩) ∧ dv = .slice (some ⟨b, 0, none⟩) m m
theorem Rep.goodAt {s : St} (h : Rep X ρ s a w) {dst : Option Tmp} {q : Res} {v : Value} (g1 : Sat ρ' (s.put dst q).look X.G w') (g2 : DenV ρ' (s.put dst q).look (Hot ρ' (s.put dst q).look X.G) w' (q.r s.H.length) v)
    (g3 : Step ρ s.look (Hot ρ s.look X.G) w ρ' (s.put dst q).look (Hot ρ' (s.put dst q).look X.G) w') (g4 : Frm ρ s.look w w') : Rep X ρ' (s.put dst q) (a.put dst v) w' := by
  obtain ⟨arr, df⟩ := a
  have hp := put_den (ρ := ρ') (H := (s.put dst q).look) (O := Hot ρ' (s.put dst q).look X.G) (w := w') h.size (fun t => DenV.step g3 _ _ (h.den t)) dst g2 df
  exact ⟨g1, hp.1, hp.2, by have := h.defers; cases dst <;> exact this, h.from_.trans g3, Frm.trans h g4, h.kept.frm h.sat g4⟩
/-- One element whose parts may be own: the row's block, as the model builds it. -/
theorem bs1_run {t el : TypeId} {sz : Nat} {z ss : List AV} {ps : Array (Nat × Operand)} {ev : Operand → AV} {e : Operand → Value} (ht : P.underlying t = some (.slice el)) (hsz : szOf P el = some sz) (hz : (zeroOf P el).bind AV.segs? = some z) (c1 : 1 ≤ sz) (c2 : 1 * sz ≤ 4096) (c3 : wides z = sz)
    (hput : putAll (fun i => some (i * sz, sz)) (rep 1 z) (ps.toList.map fun p => (p.1, ev p.2)) = some ss) (hp : ∀ p ∈ ps, DenV ρ H O w (ev p.2) (e p.2)) :
    ∃ cells' : Array Value, (Instr.buildSlice t 1 (ps.map fun (i, x) => (i, e x))).run P w = .ok (.slice (some ⟨w.heap.size, 0, none⟩) 1 1) (w.alloc (.cells cells' el)) ∧ DenSegs ρ H O w ss cells'.toList := by
  have hp' : ∀ p ∈ ps.toList, DenV ρ H O w (ev p.2) (e p.2) := fun p hm => hp p (Array.mem_toList_iff.1 hm)
  obtain ⟨i, v, hi, hv, hd⟩ := zeroOf_ok (ρ := ρ) (H := H) (O := O) (w := w) hz
  have hlz : v.cells.size = sz := by rw [← Array.length_toList, DenSegs_len hd, c3]
  have hrange : ((Array.range (1 * sz)).map (v.cells[· % v.cells.size]!)).toList = rep 1 v.cells.toList := by rw [← hlz]; exact range_rep _ _
  obtain ⟨cells', h1, h2⟩ := fill_ok ps.toList _ ss ((Array.range (1 * sz)).map (v.cells[· % v.cells.size]!)) hp' hput (by rw [hrange]; exact DenSegs_rep hd 1)
  refine ⟨cells', ?_, h2⟩
  have hbig : ¬ (1 * sz > 2 ^ 24) := by omega
  have key : ∀ zc : Array Value, ((Array.range (1 * sz)).map (zc[· % zc.size]!)) = ((Array.range (1 * sz)).map (v.cells[· % v.cells.size]!)) →
      (match Instr.fill (fun i => some (i * sz, sz)) ((Array.range (1 * sz)).map (zc[· % zc.size]!)) (ps.map fun (i, x) => (i, e x)).toList with
        | some cells => do
          let a ← newRow el cells
          pure (Value.slice (some a) 1 1)
        | _ => stuck "buildSlice: a part of the wrong size" : Sem Value).run P w = .ok (.slice (some ⟨w.heap.size, 0, none⟩) 1 1) (w.alloc (.cells cells' el)) := by
    intro zc hz
    rw [hz]
    simp only [Array.toList_map]
    erw [h1]
    simp [newRow]
  simp only [Instr.buildSlice, Sem.run_bind, run_underlying ht, Result.andThen_ok, run_sizeOf hsz, hbig, if_false]
  have h0 : ¬ 1 * sz = 0 := by omega
  rw [if_neg h0]
  simp only [Sem.run_bind, Sem.run_pure, Result.andThen_ok, zeroValue, typeInfo, run_program, hi, hv]
  exact key v.cells rfl
theorem bs1_safe {f : FuncId} {fn : Func} {key i : Nat} {ops : Array Oper} {o : Oper} {k : List Item} {t el : TypeId} {sz : Nat} {z ss : List AV} {ps : Array (Nat × Operand)} {d : Tmp} {tmps : List AV} {L : List AObj} {stk : Stk} (hz : ZCtx Z X)
    (hat : opAt fn key i = some (ops, o, k)) (hnd : noDefer ops = true) (hg : gOk ops o tmps = true) (hin : (stk.plain || slotsIn (Cfg.n ⟨tmps, L, [], stk⟩) ops) = true) (ho : o.op = .buildSlice t 1 ps) (hdst : o.dst = some d)
    (ht : P.underlying t = some (.slice el)) (hsz : szOf P el = some sz) (hzz : (zeroOf P el).bind AV.segs? = some z) (c1 : 1 ≤ sz) (c2 : 1 * sz ≤ 4096) (c3 : wides z = sz)
    (hput : putAll (fun i => some (i * sz, sz)) (rep 1 z) (ps.toList.map fun p => (p.1, evOf tmps p.2)) = some ss) (hk : stk.marks = 0) (hb : ∀ d ∈ stk.below, d.marks = 0 ∧ d.lp = none)
    (h : ∀ (X' : Ctx) (dv : Value), X'.H = lk (L ++ [.own ss el]) → ZCtx Z X' → X'.pan = X.pan → RowAt X'.ρ L.length dv 1 → Safe P f X' K ⟨tmps.set d (.s (.raw dv [])), L ++ [.own ss el], cal fn key (i + 1), stk⟩) : Safe P f X K ⟨tmps, L, cal fn key i, stk⟩ := by
  refine oneAt hat hnd hg hin fun G E ρ a w hG1 hG2 hr => ?_
  obtain ⟨cells', hrun, hd⟩ := bs1_run (P := P) (ρ := ρ) (H := lk L) (O := Hot ρ (lk L) G) (w := w) (e := a.eval) ht hsz hzz c1 c2 c3 hput (fun p _ => hr.ev p.2)
  have hn : lk L L.length = none := by simp [lk]
  have hs : Sat ρ (lk L) G w := hr.sat
  obtain ⟨ρ', s', d', t', f'⟩ := fresh_own hs hn (e := el) hd
  have hrow : RowAt ρ' L.length (.slice (some ⟨w.heap.size, 0, none⟩) 1 1) 1 := by
    unfold DenV Den1 at d'
    obtain ⟨b, h1, h2, _⟩ := d'
    cases h2
    exact ⟨_, h1, rfl⟩
  have hlk : (St.put ⟨tmps, L⟩ o.dst ⟨[], [], [.own ss el], fun _ => .s (.raw (.slice (some ⟨w.heap.size, 0, none⟩) 1 1) [])⟩).look = updH (lk L) L.length (.own ss el) := by
    rw [look_put _ _ _ (fun _ _ => rfl)]; exact resH_new _ _
  unfold Yields
  have he : (execOp a.eval o).run P w = (do pure (Next.value (← Instr.buildSlice t 1 (ps.map fun (i, x) => (i, a.eval x)))) : Sem Next).run P w := by simp only [execOp, ho]
  rw [he]
  simp only [Sem.run_bind, hrun, Result.andThen_ok, Sem.run_pure]
  have hr' := hr.goodAt (dst := o.dst) (q := ⟨[], [], [.own ss el], fun _ => .s (.raw (.slice (some ⟨w.heap.size, 0, none⟩) 1 1) [])⟩) (v := .slice (some ⟨w.heap.size, 0, none⟩) 1 1) (ρ' := ρ') (w' := w.alloc (.cells cells' el)) (by rw [hlk]; exact s') (DenV_s (.raw _ _ rfl)) (by rw [hlk]; exact t') f'
  refine ⟨_, ρ', hr', ?_⟩
  have e1 : St.put ⟨tmps, L⟩ o.dst ⟨[], [], [.own ss el], fun _ => .s (.raw (.slice (some ⟨w.heap.size, 0, none⟩) 1 1) [])⟩ = ⟨tmps.set d (.s (.raw (.slice (some ⟨w.heap.size, 0, none⟩) 1 1) [])), L ++ [.own ss el]⟩ := by
    rw [hdst]; simp [St.put, upList, setSlot]
  have hr2 := hr'
  rw [e1] at hr2
  have key := rebase (X := X) (K := K) (f := f) (todo := cal fn key (i + 1)) (stk := stk) hG1 hG2 hr2 hk hb (h _ _ rfl (hz.here hr2) rfl hrow)
  rw [e1]
  exact key
/-- A call that only looks: all stands. -/
theorem outer_core (hs : Sat ρ H G w) {ρ1 : Nat → Value} {H1 H2 : AHeap} (h1 : ∀ b, ¬ Own ρ1 H1 b) {r : AV} {v : Value} (hg : Good ρ1 H1 (fun _ => False) w H2 r v w') {r2 : AV} (hr : DenV ρ H (Hot ρ H G) w' r2 v) : Good ρ H G w H r2 v w' := by
  obtain ⟨ρ', s', d', st', fr⟩ := hg
  have hheap : ∀ b, b < w.heap.size → w'.heap[b]? = w.heap[b]? := fun b hb => fr.heap b hb (h1 b)
  have st : Step ρ H (Hot ρ H G) w ρ H (Hot ρ H G) w' := ⟨fun _ _ _ => rfl, fun _ o h => ⟨o, h, fun c' e' e => ⟨c', e', e, rfl, rfl⟩⟩, fun _ h => .inl h, fun b hb _ => hheap b hb, st'.size⟩
  have hlow : ∀ id o, H id = some o → ∀ b, o.alive = true → blk (ρ id) = some b → w'.heap[b]? = w.heap[b]? := fun id o ho b hal hb => hheap b (own_lt hs ⟨id, o, ho, hal, hb⟩)
  exact ⟨ρ, ⟨fun id o ho => (hs.obj id o ho).step st (hlow id o ho), hs.inj, hs.apart, fun b hb => Nat.lt_of_lt_of_le (hs.low b hb) st'.size⟩, hr, st, ⟨fr.os, fr.tape, fr.output, fun b hb _ => hheap b hb⟩⟩
theorem no_own {b : Nat} : ¬ Own (fun _ => undef) (fun _ => none) b := fun ⟨_, _, hx, _⟩ => by cases hx
theorem no_hot : Hot (fun _ => undef) (fun _ => none) (fun _ => False) = (fun _ => False) := funext fun b => propext ⟨fun h => h.elim (fun h => no_own h) id, False.elim⟩
/-- A call whose arguments stand still while it runs, though they are own; its answer bears no memory, or a new row. -/
theorem lend_gen {ts rs : List Ty} {pre : AL ts → List Prop} {F : AL ts → AL rs} {g : FuncId} (hF : FnOk P Z g ts rs pre F) (x : AL ts) (hpre : Needs (pre x)) {f : FuncId} {fn : Func} {key i : Nat} {ops : Array Oper} {o : Oper} {c : Call} {k : List Item} {d : Tmp} {tmps : List AV} {L : List AObj} {stk : Stk} (hz : ZCtx Z X)
    (hat : opAt fn key i = some (ops, o, k)) (hnd : noDefer ops = true) (hg : gOk ops o tmps = true) (hin : (stk.plain || slotsIn (Cfg.n ⟨tmps, L, [], stk⟩) ops) = true) (ho : o.op = .call c) (hc : c.callee = .value (.func g)) (hcall : callable P g = true) (hdst : o.dst = some d)
    (hden : ∀ ρ w G vs, Sat ρ (lk L) G w → (∀ id y, X.H id = some y → ρ id = X.ρ id) → Frm X.ρ X.H X.w w → X.w.heap.size ≤ w.heap.size → DenL ρ (lk L) (Hot ρ (lk L) G) w (c.args.toList.map (evOf tmps)) vs → DenL (fun _ => undef) (fun _ => none) (fun _ => False) w (AL.av ts x) vs)
    (r : AV) (hr : ∀ ρ w G v w', Sat ρ (lk L) G w → Good (fun _ => undef) (fun _ => none) (fun _ => False) w (lk (AL.res rs (F x)).1) (AL.res rs (F x)).2 v w' → DenV ρ (lk L) (Hot ρ (lk L) G) w' r v)
    (h : Safe P f X K ⟨tmps.set d r, L, cal fn key (i + 1), stk⟩) : Safe P f X K ⟨tmps, L, cal fn key i, stk⟩ := by
  refine oneG_safe hat hnd hg hin fun G E ρ a w hr0 => ?_
  have hl : DenL ρ (lk L) (Hot ρ (lk L) G) w (c.args.toList.map (evOf tmps)) (c.args.toList.map a.eval) := DenL_map c.args.toList fun z _ => hr0.ev z
  have hd := hden ρ w G _ hr0.sat hr0.from_.rho hr0.frm hr0.from_.size hl
  rw [← no_hot] at hd
  have hzw := (zed (hz.at G E) hr0.frm hr0.sat hr0.from_).1
  have key := hF x (AL.okL hd) hpre (fun _ => False) w _ (fun b hb => hb.elim) hzw hd
  have e1 : (c.args.toList.map a.eval).toArray = c.args.map a.eval := by apply Array.toList_inj.1; simp
  have hrun : (execOp a.eval o).run P w = .ok (.enter g (c.args.toList.map a.eval).toArray) w := by
    rw [e1]
    have hv : a.eval (.func g) = .func (.func g) #[] #[] := rfl
    simp [execOp, ho, resolve, hc, hv, Deferred.ofValue, invoke, callFunc_run hcall]
  unfold Yields
  rw [hrun]
  refine key.mono ?_
  rintro en w' ⟨v, rfl, hgd⟩
  refine ⟨v, rfl, ?_⟩
  have hg2 : Good ρ (lk L) G w (lk L) r v w' := outer_core hr0.sat (fun b => no_own) hgd (hr ρ w G v w' hr0.sat hgd)
  obtain ⟨ρ', hr'⟩ := hr0.good (q := ⟨[], [], [], fun _ => r⟩) (dst := o.dst) (.inl rfl) (by rw [put_none]; exact hg2)
  refine ⟨_, ρ', hr', ?_⟩
  rw [hdst]
  simpa [St.put, upList, setSlot] using h
/-- The answer is a new row: from here on it stands still. -/
theorem fresh_row {L : List AObj} (hs : Sat ρ (lk L) G w) {l : List Int} {e : TypeId} {v : Value} (hg : Good (fun _ => undef) (fun _ => none) (fun _ => False) w (lk [.vec (.ints .i64 l) e]) (.vec 0) v w') : DenV ρ (lk L) (Hot ρ (lk L) G) w' (.s (.ro (.ints .i64 l))) v := by
  obtain ⟨ρ', s', d', st', fr⟩ := hg
  have hv : v = ρ' 0 := by
    unfold DenV Den1 at d'
    obtain ⟨_, o, ho, h⟩ := d'
    cases ho
    exact h _ _ rfl
  subst hv
  obtain ⟨a, cap, us, h1, h2, h3, h4⟩ := vec_row s' (id := 0) rfl
  refine DenV_s ?_
  rw [h1]
  by_cases h0 : 0 < (Con.ints .i64 l).n
  · obtain ⟨b, o, rfl, h5, h6⟩ := h4 h0
    refine .ro _ _ cap us b o h2 h3 (fun _ => ⟨rfl, fun hb => ?_, h5⟩) (fun i j hi hj => (h6 i j hi hj).1) (fun i j hi hj => ?_)
    · have hown : Own ρ' (lk [.vec (.ints .i64 l) e]) b := ⟨0, _, rfl, rfl, by rw [h1]; simp [blk]; omega⟩
      have hge : w.heap.size ≤ b := by
        rcases st'.hot b (.inl hown) with h7 | h7
        · rw [no_hot] at h7; exact h7.elim
        · exact h7
      rcases hb with hb | hb
      · have := own_lt hs hb; omega
      · have := hs.low b hb; omega
    · have h9 := (h6 i j hi hj).2
      revert h9
      generalize us i j = u
      intro h9
      cases h9
      exact .int _ _
  · exact .ro _ _ cap us 0 0 h2 h3 (fun h => absurd h h0) (fun i j hi hj => absurd (Nat.lt_of_le_of_lt (Nat.zero_le i) hi) h0) (fun i j hi hj => absurd (Nat.lt_of_le_of_lt (Nat.zero_le i) hi) h0)
/-- An operation that only looks, by hand. -/
theorem val_safe {f : FuncId} {fn : Func} {key i : Nat} {ops : Array Oper} {o : Oper} {k : List Item} {d : Tmp} {tmps : List AV} {L : List AObj} {stk : Stk} {r : AV}
    (hat : opAt fn key i = some (ops, o, k)) (hnd : noDefer ops = true) (hg : gOk ops o tmps = true) (hin : (stk.plain || slotsIn (Cfg.n ⟨tmps, L, [], stk⟩) ops) = true) (hdst : o.dst = some d)
    (hrun : ∀ ρ G w (e : Operand → Value), Sat ρ (lk L) G w → (∀ id y, X.H id = some y → ρ id = X.ρ id) → Frm X.ρ X.H X.w w → X.w.heap.size ≤ w.heap.size → (∀ x, DenV ρ (lk L) (Hot ρ (lk L) G) w (evOf tmps x) (e x)) → ∃ v, (execOp e o).run P w = .ok (.value v) w ∧ DenV ρ (lk L) (Hot ρ (lk L) G) w r v)
    (h : Safe P f X K ⟨tmps.set d r, L, cal fn key (i + 1), stk⟩) : Safe P f X K ⟨tmps, L, cal fn key i, stk⟩ := by
  refine oneG_safe hat hnd hg hin fun G E ρ a w hr0 => ?_
  obtain ⟨v, h1, h2⟩ := hrun ρ G w a.eval hr0.sat hr0.from_.rho hr0.frm hr0.from_.size hr0.ev
  unfold Yields
  rw [h1]
  obtain ⟨ρ', hr'⟩ := hr0.good (q := ⟨[], [], [], fun _ => r⟩) (dst := o.dst) (v := v) (w' := w) (.inl rfl) (by rw [put_none]; exact Good.val hr0.sat h2)
  refine ⟨_, ρ', hr', ?_⟩
  rw [hdst]
  simpa [St.put, upList, setSlot] using h
/-- A slot seen in another way. -/
theorem view_safe {f : FuncId} {tmps : List AV} {L : List AObj} {todo : List Item} {stk : Stk} {d : Nat} {x y : AV} (hx : tmps.getD d (.s .junk) = x) (hxy : ∀ ρ G w v, DenV ρ (lk L) (Hot ρ (lk L) G) w x v → DenV ρ (lk L) (Hot ρ (lk L) G) w y v)
    (h : Safe P f X K ⟨tmps.set d y, L, todo, stk⟩) : Safe P f X K ⟨tmps, L, todo, stk⟩ := by
  intro G E ρ a w hG1 hG2 hr
  exact h G E ρ a w hG1 hG2 (hr.refine (d := d) hx (hxy ρ G w))
def callOf (x : Array Oper × Oper × List Item) : Option (FuncId × List Operand × Option Tmp) := match x.2.1.op with
  | .call c => (match c.callee with
    | .value (.func g) => bif noDefer x.1 then some (g, c.args.toList, x.2.1.dst) else none
    | _ => none)
  | _ => none
theorem callOf_ok {x : Array Oper × Oper × List Item} {g : FuncId} {args : List Operand} {d : Option Tmp} (h : callOf x = some (g, args, d)) : noDefer x.1 = true ∧ x.2.1.dst = d ∧ ∃ c, x.2.1.op = .call c ∧ c.callee = .value (.func g) ∧ c.args.toList = args := by
  unfold callOf at h
  split at h
  · rename_i c hc
    split at h
    · rename_i g' hg
      rw [Bool.cond_eq_ite] at h
      split at h
      · rename_i hn
        cases h
        exact ⟨hn, rfl, c, hc, hg, rfl⟩
      · cases h
    · cases h
  · cases h
/-- A call whose arguments stand still while it runs, though they are own. -/
theorem lend {ts rs : List Ty} {pre : AL ts → List Prop} {F : AL ts → AL rs} {g : FuncId} (hF : FnOk P Z g ts rs pre F) (x : AL ts) (hpre : Needs (pre x)) {f : FuncId} {fn : Func} {key i : Nat} {args : List Operand} {d : Tmp} {tmps : List AV} {L : List AObj} {stk : Stk} (hz : ZCtx Z X)
    (hat : (opAt fn key i).bind callOf = some (g, args, some d)) (hg : ((opAt fn key i).all fun y => gOk y.1 y.2.1 tmps) = true) (hin : stk.plain = true) (hcall : callable P g = true)
    (hden : ∀ ρ w G vs, Sat ρ (lk L) G w → (∀ id y, X.H id = some y → ρ id = X.ρ id) → Frm X.ρ X.H X.w w → X.w.heap.size ≤ w.heap.size → DenL ρ (lk L) (Hot ρ (lk L) G) w (args.map (evOf tmps)) vs → DenL (fun _ => undef) (fun _ => none) (fun _ => False) w (AL.av ts x) vs)
    (r : AV) (hr : ∀ ρ w G v w', Sat ρ (lk L) G w → Good (fun _ => undef) (fun _ => none) (fun _ => False) w (lk (AL.res rs (F x)).1) (AL.res rs (F x)).2 v w' → DenV ρ (lk L) (Hot ρ (lk L) G) w' r v)
    (h : Safe P f X K ⟨tmps.set d r, L, cal fn key (i + 1), stk⟩) : Safe P f X K ⟨tmps, L, cal fn key i, stk⟩ := by
  obtain ⟨⟨ops, o, k⟩, h1, h2⟩ := Option.bind_eq_some_iff.1 hat
  obtain ⟨h3, h4, c, h5, h6, rfl⟩ := callOf_ok h2
  rw [h1] at hg
  exact lend_gen hF x hpre hz h1 h3 (by simpa using hg) (by rw [hin]; rfl) h5 h6 hcall h4 hden r hr h
/-- The world has grown; what was there stands. -/
theorem grow_good (hs : Sat ρ H G w) (hheap : ∀ b, b < w.heap.size → w'.heap[b]? = w.heap[b]?) (hsz : w.heap.size ≤ w'.heap.size) :
    Sat ρ H G w' ∧ Step ρ H (Hot ρ H G) w ρ H (Hot ρ H G) w' := by
  have st : Step ρ H (Hot ρ H G) w ρ H (Hot ρ H G) w' := ⟨fun _ _ _ => rfl, fun _ o h => ⟨o, h, fun c' e' e => ⟨c', e', e, rfl, rfl⟩⟩, fun _ h => .inl h, fun b hb _ => hheap b hb, hsz⟩
  exact ⟨⟨fun id o ho => (hs.obj id o ho).step st fun b hal hb => hheap b (own_lt hs ⟨id, o, ho, hal, hb⟩), hs.inj, hs.apart, fun b hb => Nat.lt_of_lt_of_le (hs.low b hb) hsz⟩, st⟩
end
end Go.Sx

namespace Ds
open Go Go.Sx Go.Proofs Lf
abbrev nsN0 : List (CL cN) := [mkN 97 11 (-1) (-1) 0 ByteArray.empty false, mkN 98 15 (-1) 0 4 (tx1 107) true, mkN 99 3 0 (-1) 0 ByteArray.empty false]
abbrev obS (d i : AV) (nx : Int) : AObj := .own [.s (.int .i64 0), .s (.int .i64 nx), d, i, .emp, .emp] 27
abbrev obD1 (a : ByteArray) (n : Nat) : AObj := .own [.s (.str a), .emp, .vec n, .emp] eP
noncomputable def stN : Stk := Stk.mk (some 4) false 0 [inCall Try.f3 none 1 0 false 0] 6
noncomputable def cRB (dv : Value) : Cfg := ⟨sl 130 [(2, .ptr 0 0), (21, .agg [.s (.str (tx1 112)), .emp, .vec 1, .emp]), (22, .s (.raw dv []))], [obS .emp .emp 0, .vec (.typ cN nsN0) eN, obD1 (tx1 112) 1], cal Try.f4 6 2, stN⟩
def nsR1 : List (Nat × Norm) := [(midKey + 2001, ⟨[], [1, 14], 3, []⟩), (midKey + 3001, ⟨[], [1, 3, 19], 3, []⟩), (midKey + 4001, ⟨[], [1, 3, 5, 24], 3, []⟩), (midKey + 5001, ⟨[], [1, 3, 5, 7, 29], 3, []⟩), (midKey + 6012, ⟨[], [1, 43, 44], 3, []⟩), (midKey + 6018, ⟨[], [1, 49, 50], 3, []⟩), (midKey + 8006, ⟨[], [1, 57, 61], 3, []⟩)]
theorem trRB (dv : Value) : run P tabRn.sum Try.f3 nsR1 (cRB dv) inRn =
  Tree.at (Cfg.mk (sl (101 : Nat) [((1 : Nat), AV.ptr (4 : Nat) (0 : Nat)), ((14 : Nat), AV.agg [AV.s (SV.int IntKind.i64 (0 : Int)), AV.s (SV.int IntKind.i64 (4 : Int)), AV.s (SV.raw dv []), AV.vec (3 : Nat), AV.emp, AV.emp])]) [AObj.own [AV.s (SV.int IntKind.i64 (0 : Int)), AV.s (SV.int IntKind.i64 (4 : Int)), AV.s (SV.raw dv []), AV.vec (3 : Nat), AV.emp, AV.emp] (27 : Nat), AObj.vec (Con.typ cN nsN0) (39 : Nat), AObj.own [AV.s (SV.str (tx1 (112 : UInt8))), AV.emp, AV.vec (1 : Nat), AV.emp] (43 : Nat), AObj.vec (Con.typ cI [((1 : Int), (0 : Int), (1 : Int), ByteArray.mk #[(112 : UInt8)], (-1 : Int), (-1 : Int), (0 : Int), ByteArray.empty, ()), ((2 : Int), (1 : Int), (2 : Int), ByteArray.mk #[(112 : UInt8)], (0 : Int), (-1 : Int), (3 : Int), ByteArray.empty, ()), ((3 : Int), (2 : Int), (1 : Int), ByteArray.mk #[(112 : UInt8)], (0 : Int), (-1 : Int), (0 : Int), ByteArray.empty, ()), ((4 : Int), (3 : Int), (2 : Int), ByteArray.mk #[(112 : UInt8)], (2 : Int), (-1 : Int), (2 : Int), ByteArray.empty, ())]) (45 : Nat), AObj.own [AV.s (SV.int IntKind.i64 (0 : Int)), AV.s (SV.int IntKind.i64 (4 : Int)), AV.s (SV.raw dv []), AV.vec (3 : Nat), AV.emp, AV.emp] (27 : Nat)] (cal Try.f3 (2 : Nat) (1 : Nat)) (Stk.mk none false (0 : Nat) [] (2 : Nat))) := by kernel_rfl
end Ds

namespace Ds
open Go Go.Sx Go.Proofs Lf
section
variable {ρ : Nat → Value} {H : AHeap} {G O : Nat → Prop} {w : World}
/-- An own object seen as a row that stands still. -/
theorem ro_own (hs : Sat ρ H G w) {d m : Nat} {segs : List AV} {e : TypeId} {dv : Value} {c : Con} (hrow : RowAt ρ d dv m) (ho : H d = some (.own segs e)) (hn : c.n = m) (hm : m ≤ 1000)
    (h : ∀ cells, DenSegs ρ H (Hot ρ H G) w segs cells → ∀ i j, i < c.n → j < c.size → ∃ u, cells[i * c.size + j]? = some u ∧ DenS (fun _ => False) w (c.cell i j) u) : DenS (fun _ => False) w (.ro c) dv := by
  obtain ⟨b, hb, rfl⟩ := hrow
  obtain ⟨b', cells, fr, hroot, hheap, _, hsegs⟩ := hs.obj d _ ho
  rw [hb] at hroot
  cases hroot
  subst hn
  refine .ro c _ c.n (fun i j => (cells[i * c.size + j]?).getD undef) b 0 (Nat.le_refl _) (Nat.le_trans hm (by decide)) (fun _ => ⟨rfl, id, (Array.getElem?_eq_some_iff.1 hheap).1⟩) (fun i j hi hj => ?_) (fun i j hi hj => ?_)
  · obtain ⟨u, h1, _⟩ := h cells hsegs i j hi hj
    rw [Nat.zero_add, cell_of_blk hheap, h1]
    rfl
  · obtain ⟨u, h1, h2⟩ := h cells hsegs i j hi hj
    simp only [h1, Option.getD_some]
    exact h2
theorem ro_vec (hs : Sat ρ H G w) {n : Nat} {c : Con} {e : TypeId} (hn : H n = some (.vec c e)) : DenS (fun _ => False) w (.ro c) (ρ n) := by
  obtain ⟨a, cap, us, h1, h2, h3, h4⟩ := vec_row hs hn
  rw [h1]
  by_cases h0 : 0 < c.n
  · obtain ⟨b, o, rfl, h5, h6⟩ := h4 h0
    exact .ro _ _ cap us b o h2 h3 (fun _ => ⟨rfl, id, h5⟩) (fun i j hi hj => (h6 i j hi hj).1) (fun i j hi hj => (h6 i j hi hj).2.less fun _ h => h.elim)
  · exact .ro _ _ cap us 0 0 h2 h3 (fun h => absurd h h0) (fun i j hi hj => absurd (Nat.lt_of_le_of_lt (Nat.zero_le i) hi) h0) (fun i j hi hj => absurd (Nat.lt_of_le_of_lt (Nat.zero_le i) hi) h0)
theorem ro_nil {cs : List CK} {a : Option Addr} : DenS O w (.ro (.typ cs [])) (.slice a 0 0) := .ro (.typ cs []) a 0 (fun _ _ => undef) 0 0 (Nat.le_refl _) (Nat.zero_le _) (fun h => absurd h (Nat.lt_irrefl _)) (fun i j hi hj => absurd hi (Nat.not_lt_zero _)) (fun i j hi hj => absurd hi (Nat.not_lt_zero _))
theorem denC_s {x : SV} {cs : List Value} (h : DenC ρ H O w (.s x) cs) : ∃ u, cs = [u] ∧ DenS O w x u := by unfold DenC at h; exact h
theorem denC_emp {cs : List Value} (h : DenC ρ H O w .emp cs) : ∃ a, cs = [.slice a 0 0] := by
  unfold DenC at h
  obtain ⟨u, rfl, a, rfl⟩ := h
  exact ⟨a, rfl⟩
theorem denC_vec {n : Nat} {c : Con} {e : TypeId} (hn : H n = some (.vec c e)) {cs : List Value} (h : DenC ρ H O w (.vec n) cs) : cs = [ρ n] := by
  unfold DenC Den1 at h
  obtain ⟨u, rfl, _, o, ho, h⟩ := h
  rw [hn] at ho
  cases ho
  rw [h _ _ rfl]
theorem den_defs1 (hs : Sat ρ H G w) {d n : Nat} {a : ByteArray} {ns : List (CL cN)} {dv : Value} (hrow : RowAt ρ d dv 1) (ho : H d = some (obD1 a n)) (hn : H n = some (.vec (.typ cN ns) eN)) : DenS (fun _ => False) w (.ro (.typ cP [(a, [], ns, [], ())])) dv := by
  refine ro_own hs hrow ho rfl (by decide) fun cells h i j hi hj => ?_
  obtain ⟨c1, r1, rfl, k1, h⟩ := DenSegs_cons.1 h
  obtain ⟨c2, r2, rfl, k2, h⟩ := DenSegs_cons.1 h
  obtain ⟨c3, r3, rfl, k3, h⟩ := DenSegs_cons.1 h
  obtain ⟨c4, r4, rfl, k4, h⟩ := DenSegs_cons.1 h
  have h := DenSegs_nil.1 h
  subst h
  obtain ⟨u1, rfl, d1⟩ := denC_s k1
  obtain ⟨a2, rfl⟩ := denC_emp k2
  have k3 := denC_vec hn k3
  subst k3
  obtain ⟨a4, rfl⟩ := denC_emp k4
  have hi : i = 0 := Nat.lt_one_iff.1 hi
  subst hi
  have hj : j < 4 := hj
  match j, hj with
  | 0, _ => exact ⟨_, rfl, d1.less fun _ h => h.elim⟩
  | 1, _ => exact ⟨_, rfl, ro_nil⟩
  | 2, _ => exact ⟨_, rfl, ro_vec hs hn⟩
  | 3, _ => exact ⟨_, rfl, ro_nil⟩
theorem den_state (hs : Sat ρ H G w) {ps : Ps} {is : Is} {ck nx : Int} {dv v : Value} {i : Nat} (hd : DenS (fun _ => False) w (.ro (.typ cP ps)) dv) (hi : H i = some (.vec (.typ cI is) eI)) (hv : DenV ρ H (Hot ρ H G) w (.agg [.s (.int .i64 ck), .s (.int .i64 nx), .s (.raw dv []), .vec i, .emp, .emp]) v) :
    DenV (fun _ => undef) (fun _ => none) (fun _ => False) w (avSt ck nx ps is [] []) v := by
  unfold DenV at hv ⊢
  obtain ⟨cs, rfl, h⟩ := hv
  refine ⟨cs, rfl, ?_⟩
  obtain ⟨c1, r1, rfl, k1, h⟩ := DenSegs_cons.1 h
  obtain ⟨c2, r2, rfl, k2, h⟩ := DenSegs_cons.1 h
  obtain ⟨c3, r3, rfl, k3, h⟩ := DenSegs_cons.1 h
  obtain ⟨c4, r4, rfl, k4, h⟩ := DenSegs_cons.1 h
  obtain ⟨c5, r5, rfl, k5, h⟩ := DenSegs_cons.1 h
  obtain ⟨c6, r6, rfl, k6, h⟩ := DenSegs_cons.1 h
  have h := DenSegs_nil.1 h
  subst h
  obtain ⟨u1, rfl, d1⟩ := denC_s k1
  obtain ⟨u2, rfl, d2⟩ := denC_s k2
  obtain ⟨u3, rfl, d3⟩ := denC_s k3
  have k4 := denC_vec hi k4
  subst k4
  obtain ⟨a5, rfl⟩ := denC_emp k5
  obtain ⟨a6, rfl⟩ := denC_emp k6
  cases d1
  cases d2
  have e3 : u3 = dv := by cases d3; rfl
  subst e3
  have one : ∀ {x : SV} {u : Value}, DenS (fun _ => False) w x u → DenC (fun _ => undef) (fun _ => none) (fun _ => False) w (.s x) [u] := fun {x u} k => by unfold DenC; exact ⟨u, rfl, k⟩
  exact DenSegs_cons.2 ⟨[_], _, rfl, one (.int _ _), DenSegs_cons.2 ⟨[_], _, rfl, one (.int _ _), DenSegs_cons.2 ⟨[_], _, rfl, one hd, DenSegs_cons.2 ⟨[_], _, rfl, one (ro_vec hs hi), DenSegs_cons.2 ⟨[_], _, rfl, one ro_nil, DenSegs_cons.2 ⟨[_], _, rfl, one ro_nil, DenSegs_nil.2 rfl⟩⟩⟩⟩⟩⟩
end
end Ds

namespace Ds
open Go Go.Sx Go.Proofs Lf
abbrev rFd (m n : Int) (b : Bool) : AV := .tup [.agg [avI m, avI n], .s (.blit b)]
abbrev avS1 (dv : Value) : AV := .agg [avI 0, avI 4, .s (.raw dv []), .vec 3, .emp, .emp]
abbrev H1 (dv : Value) : List AObj := [obS (.s (.raw dv [])) (.vec 3) 4, .vec (.typ cN nsN0) eN, obD1 (tx1 112) 1, .vec (.typ cI neIs) eI, obS (.s (.raw dv [])) (.vec 3) 4]
noncomputable def cR (dv : Value) (sl' : List (Nat × AV)) (r o : Nat) : Cfg := ⟨sl 101 ((1, .ptr 4 0) :: sl'), H1 dv, cal Try.f3 r o, Stk.mk none false 0 [] r⟩
abbrev bl (b : Bool) : AV := .s (.blit b)
theorem trR22 (dv : Value) : run P tabRn.sum Try.f3 nsR1 (cR dv [(14, avS1 dv), (15, rFd 0 0 false)] 2 2) inRn =
  Tree.at (Cfg.mk (sl (101 : Nat) [((1 : Nat), AV.ptr (4 : Nat) (0 : Nat)), ((3 : Nat), AV.s (SV.bool false)), ((19 : Nat), AV.agg [AV.s (SV.int IntKind.i64 (0 : Int)), AV.s (SV.int IntKind.i64 (4 : Int)), AV.s (SV.raw dv []), AV.vec (3 : Nat), AV.emp, AV.emp])]) [AObj.own [AV.s (SV.int IntKind.i64 (0 : Int)), AV.s (SV.int IntKind.i64 (4 : Int)), AV.s (SV.raw dv []), AV.vec (3 : Nat), AV.emp, AV.emp] (27 : Nat), AObj.vec (Con.typ cN nsN0) (39 : Nat), AObj.own [AV.s (SV.str (tx1 (112 : UInt8))), AV.emp, AV.vec (1 : Nat), AV.emp] (43 : Nat), AObj.vec (Con.typ cI neIs) (45 : Nat), AObj.own [AV.s (SV.int IntKind.i64 (0 : Int)), AV.s (SV.int IntKind.i64 (4 : Int)), AV.s (SV.raw dv []), AV.vec (3 : Nat), AV.emp, AV.emp] (27 : Nat)] (cal Try.f3 (3 : Nat) (1 : Nat)) (Stk.mk none false (0 : Nat) [] (3 : Nat))) := by kernel_rfl
theorem trR32 (dv : Value) : run P tabRn.sum Try.f3 nsR1 (cR dv [(3, bl false), (19, avS1 dv), (20, rFd 0 0 false)] 3 2) inRn =
  Tree.at (Cfg.mk (sl (101 : Nat) [((1 : Nat), AV.ptr (4 : Nat) (0 : Nat)), ((3 : Nat), AV.s (SV.bool false)), ((5 : Nat), AV.s (SV.bool false)), ((24 : Nat), AV.agg [AV.s (SV.int IntKind.i64 (0 : Int)), AV.s (SV.int IntKind.i64 (4 : Int)), AV.s (SV.raw dv []), AV.vec (3 : Nat), AV.emp, AV.emp])]) [AObj.own [AV.s (SV.int IntKind.i64 (0 : Int)), AV.s (SV.int IntKind.i64 (4 : Int)), AV.s (SV.raw dv []), AV.vec (3 : Nat), AV.emp, AV.emp] (27 : Nat), AObj.vec (Con.typ cN nsN0) (39 : Nat), AObj.own [AV.s (SV.str (tx1 (112 : UInt8))), AV.emp, AV.vec (1 : Nat), AV.emp] (43 : Nat), AObj.vec (Con.typ cI neIs) (45 : Nat), AObj.own [AV.s (SV.int IntKind.i64 (0 : Int)), AV.s (SV.int IntKind.i64 (4 : Int)), AV.s (SV.raw dv []), AV.vec (3 : Nat), AV.emp, AV.emp] (27 : Nat)] (cal Try.f3 (4 : Nat) (1 : Nat)) (Stk.mk none false (0 : Nat) [] (4 : Nat))) := by kernel_rfl
theorem trR42 (dv : Value) : run P tabRn.sum Try.f3 nsR1 (cR dv [(3, bl false), (5, bl false), (24, avS1 dv), (25, rFd 0 0 false)] 4 2) inRn =
  Tree.at (Cfg.mk (sl (101 : Nat) [((1 : Nat), AV.ptr (4 : Nat) (0 : Nat)), ((3 : Nat), AV.s (SV.bool false)), ((5 : Nat), AV.s (SV.bool false)), ((7 : Nat), AV.s (SV.bool false)), ((29 : Nat), AV.agg [AV.s (SV.int IntKind.i64 (0 : Int)), AV.s (SV.int IntKind.i64 (4 : Int)), AV.s (SV.raw dv []), AV.vec (3 : Nat), AV.emp, AV.emp])]) [AObj.own [AV.s (SV.int IntKind.i64 (0 : Int)), AV.s (SV.int IntKind.i64 (4 : Int)), AV.s (SV.raw dv []), AV.vec (3 : Nat), AV.emp, AV.emp] (27 : Nat), AObj.vec (Con.typ cN nsN0) (39 : Nat), AObj.own [AV.s (SV.str (tx1 (112 : UInt8))), AV.emp, AV.vec (1 : Nat), AV.emp] (43 : Nat), AObj.vec (Con.typ cI neIs) (45 : Nat), AObj.own [AV.s (SV.int IntKind.i64 (0 : Int)), AV.s (SV.int IntKind.i64 (4 : Int)), AV.s (SV.raw dv []), AV.vec (3 : Nat), AV.emp, AV.emp] (27 : Nat)] (cal Try.f3 (5 : Nat) (1 : Nat)) (Stk.mk none false (0 : Nat) [] (5 : Nat))) := by kernel_rfl
theorem trR52 (dv : Value) : run P tabRn.sum Try.f3 nsR1 (cR dv [(3, bl false), (5, bl false), (7, bl false), (29, avS1 dv), (30, rFd 0 0 false)] 5 2) inRn =
  Tree.at (Cfg.mk (sl (101 : Nat) [((1 : Nat), AV.ptr (4 : Nat) (0 : Nat)), ((43 : Nat), AV.s (SV.bool false)), ((44 : Nat), AV.agg [AV.s (SV.int IntKind.i64 (0 : Int)), AV.s (SV.int IntKind.i64 (4 : Int)), AV.s (SV.raw dv []), AV.vec (3 : Nat), AV.emp, AV.emp])]) [AObj.own [AV.s (SV.int IntKind.i64 (0 : Int)), AV.s (SV.int IntKind.i64 (4 : Int)), AV.s (SV.raw dv []), AV.vec (3 : Nat), AV.emp, AV.emp] (27 : Nat), AObj.vec (Con.typ cN nsN0) (39 : Nat), AObj.own [AV.s (SV.str (tx1 (112 : UInt8))), AV.emp, AV.vec (1 : Nat), AV.emp] (43 : Nat), AObj.vec (Con.typ cI neIs) (45 : Nat), AObj.own [AV.s (SV.int IntKind.i64 (0 : Int)), AV.s (SV.int IntKind.i64 (4 : Int)), AV.s (SV.raw dv []), AV.vec (3 : Nat), AV.emp, AV.emp] (27 : Nat)] (cal Try.f3 (6 : Nat) (12 : Nat)) (Stk.mk none false (0 : Nat) [] (6 : Nat))) := by kernel_rfl
theorem trR613 (dv : Value) : run P tabRn.sum Try.f3 nsR1 (cR dv [(43, bl false), (44, avS1 dv), (45, avL [])] 6 13) inRn =
  Tree.ite false (Tree.ret [AObj.own [AV.s (SV.int IntKind.i64 (0 : Int)), AV.s (SV.int IntKind.i64 (4 : Int)), AV.s (SV.raw dv []), AV.vec (3 : Nat), AV.emp, AV.emp] (27 : Nat), AObj.vec (Con.typ cN nsN0) (39 : Nat), AObj.own [AV.s (SV.str (tx1 (112 : UInt8))), AV.emp, AV.vec (1 : Nat), AV.emp] (43 : Nat), AObj.vec (Con.typ cI neIs) (45 : Nat), AObj.own [AV.s (SV.int IntKind.i64 (0 : Int)), AV.s (SV.int IntKind.i64 (4 : Int)), AV.s (SV.raw dv []), AV.vec (3 : Nat), AV.emp, AV.emp] (27 : Nat)] (AV.s (SV.blit false))) (Tree.at (Cfg.mk (sl (101 : Nat) [((1 : Nat), AV.ptr (4 : Nat) (0 : Nat)), ((49 : Nat), AV.s (SV.bool false)), ((50 : Nat), AV.agg [AV.s (SV.int IntKind.i64 (0 : Int)), AV.s (SV.int IntKind.i64 (4 : Int)), AV.s (SV.raw dv []), AV.vec (3 : Nat), AV.emp, AV.emp])]) [AObj.own [AV.s (SV.int IntKind.i64 (0 : Int)), AV.s (SV.int IntKind.i64 (4 : Int)), AV.s (SV.raw dv []), AV.vec (3 : Nat), AV.emp, AV.emp] (27 : Nat), AObj.vec (Con.typ cN nsN0) (39 : Nat), AObj.own [AV.s (SV.str (tx1 (112 : UInt8))), AV.emp, AV.vec (1 : Nat), AV.emp] (43 : Nat), AObj.vec (Con.typ cI neIs) (45 : Nat), AObj.own [AV.s (SV.int IntKind.i64 (0 : Int)), AV.s (SV.int IntKind.i64 (4 : Int)), AV.s (SV.raw dv []), AV.vec (3 : Nat), AV.emp, AV.emp] (27 : Nat)] (cal Try.f3 (6 : Nat) (18 : Nat)) (Stk.mk none false (0 : Nat) [] (6 : Nat)))) := by kernel_rfl
theorem trR619 (dv : Value) : run P tabRn.sum Try.f3 nsR1 (cR dv [(49, bl false), (50, avS1 dv), (51, avL [3, 1])] 6 19) inRn =
  Tree.need ([(3 : Int), (1 : Int)] = [(3 : Int), (1 : Int)]) (Tree.ite false (Tree.ret [AObj.own [AV.s (SV.int IntKind.i64 (0 : Int)), AV.s (SV.int IntKind.i64 (4 : Int)), AV.s (SV.raw dv []), AV.vec (3 : Nat), AV.emp, AV.emp] (27 : Nat), AObj.vec (Con.typ cN nsN0) (39 : Nat), AObj.own [AV.s (SV.str (tx1 (112 : UInt8))), AV.emp, AV.vec (1 : Nat), AV.emp] (43 : Nat), AObj.vec (Con.typ cI neIs) (45 : Nat), AObj.own [AV.s (SV.int IntKind.i64 (0 : Int)), AV.s (SV.int IntKind.i64 (4 : Int)), AV.s (SV.raw dv []), AV.vec (3 : Nat), AV.emp, AV.emp] (27 : Nat), AObj.vec (Con.ints IntKind.i64 [(3 : Int), (1 : Int)]) (3 : Nat)] (AV.s (SV.blit false))) (Tree.at (Cfg.mk (sl (101 : Nat) [((1 : Nat), AV.ptr (4 : Nat) (0 : Nat)), ((57 : Nat), AV.s (SV.raw dv [])), ((61 : Nat), AV.vec (5 : Nat))]) [AObj.own [AV.s (SV.int IntKind.i64 (0 : Int)), AV.s (SV.int IntKind.i64 (4 : Int)), AV.s (SV.raw dv []), AV.vec (3 : Nat), AV.emp, AV.emp] (27 : Nat), AObj.vec (Con.typ cN nsN0) (39 : Nat), AObj.own [AV.s (SV.str (tx1 (112 : UInt8))), AV.emp, AV.vec (1 : Nat), AV.emp] (43 : Nat), AObj.vec (Con.typ cI neIs) (45 : Nat), AObj.own [AV.s (SV.int IntKind.i64 (0 : Int)), AV.s (SV.int IntKind.i64 (4 : Int)), AV.s (SV.raw dv []), AV.vec (3 : Nat), AV.emp, AV.emp] (27 : Nat), AObj.vec (Con.typ cP [(ByteArray.mk #[(113 : UInt8)], [], [(ByteArray.mk #[(120 : UInt8)], (3 : Int), (-1 : Int), (-1 : Int), (0 : Int), ByteArray.empty, ByteArray.empty, ByteArray.empty, false, [], [], ())], [], ())]) (43 : Nat)] (cal Try.f3 (8 : Nat) (6 : Nat)) (Stk.mk none false (0 : Nat) [] (8 : Nat))))) := by kernel_rfl
end Ds

namespace Ds
open Go Go.Sx Go.Proofs Lf
abbrev nX : CL cN := mkN 120 3 (-1) (-1) 0 ByteArray.empty false
abbrev qP : CL cP := (tx1 113, [], [nX], [], ())
abbrev H2 (v dv : Value) (ns : List (CL cN)) (is : Is) : List AObj := [obS (.s (.raw dv [])) (.vec 3) 4, .vec (.typ cN ns) eN, obD1 (tx1 112) 1, .vec (.typ cI is) eI, obS (.s (.raw v [])) (.vec 3) 4, .vec (.typ cP [qP]) eP]
noncomputable def cQ (v dv : Value) (ns : List (CL cN)) (is : Is) (sl' : List (Nat × AV)) (r o : Nat) : Cfg := ⟨sl 101 ((1, .ptr 4 0) :: sl'), H2 v dv ns is, cal Try.f3 r o, Stk.mk none false 0 [] r⟩
def nsR2 : List (Nat × Norm) := [(midKey + 9002, ⟨[], [1, 65], 6, []⟩), (midKey + 9007, ⟨[], [1, 69, 70], 6, []⟩)]
def nsR3 : List (Nat × Norm) := [(midKey + 12001, ⟨[], [1, 88], 6, []⟩)]
abbrev nA : CL cN := mkN 97 14 (-1) (-1) 0 (tx1 113) false
abbrev avNA (x y : AV) : AV := .agg [.s (.str (tx1 97)), .s (.int .u8 14), avI (-1), avI (-1), .s (.int .u8 0), .s (.str (tx1 113)), .s (.str ByteArray.empty), .s (.str ByteArray.empty), .s (.bool false), x, y]
abbrev nsQ : List (CL cN) := [nA, mkN 98 15 (-1) 0 4 (tx1 107) true, mkN 99 3 0 (-1) 0 ByteArray.empty false]
def neQ (a u s n w : Int) : CL cI := (a, u, s, tx1 113, n, (-1 : Int), w, ByteArray.empty, ())
def isQ : Is := [neI 1 0 1 (-1) 0, neI 2 1 2 0 3, neQ 3 2 1 (-1) 0, neQ 4 3 2 0 2]
def psQ : Ps := [(tx1 112, [], nsQ, [], ()), qP]
theorem trR87 (v dv : Value) : run P tabRn.sum Try.f3 nsR2 (cQ dv dv nsN0 neIs [(57, .s (.raw dv [])), (61, .vec 5), (62, .s (.raw v []))] 8 7) inRn =
  Tree.at (Cfg.mk (sl (101 : Nat) [((1 : Nat), AV.ptr (4 : Nat) (0 : Nat)), ((65 : Nat), AV.s (SV.raw v []))]) [AObj.own [AV.s (SV.int IntKind.i64 (0 : Int)), AV.s (SV.int IntKind.i64 (4 : Int)), AV.s (SV.raw dv []), AV.vec (3 : Nat), AV.emp, AV.emp] (27 : Nat), AObj.vec (Con.typ cN nsN0) (39 : Nat), AObj.own [AV.s (SV.str (tx1 (112 : UInt8))), AV.emp, AV.vec (1 : Nat), AV.emp] (43 : Nat), AObj.vec (Con.typ cI neIs) (45 : Nat), AObj.own [AV.s (SV.int IntKind.i64 (0 : Int)), AV.s (SV.int IntKind.i64 (4 : Int)), AV.s (SV.raw v []), AV.vec (3 : Nat), AV.emp, AV.emp] (27 : Nat), AObj.vec (Con.typ cP [(tx1 (113 : UInt8), [], [(tx1 (120 : UInt8), (3 : Int), (-1 : Int), (-1 : Int), (0 : Int), ByteArray.empty, ByteArray.empty, ByteArray.empty, false, [], [], ())], [], ())]) (43 : Nat)] (cal Try.f3 (9 : Nat) (2 : Nat)) (Stk.mk none false (0 : Nat) [] (9 : Nat))) := by kernel_rfl
theorem trR95 (v dv x y : Value) : run P tabRn.sum Try.f3 nsR2 (cQ v dv nsN0 neIs [(65, .s (.raw v [])), (66, .s (.raw x [])), (67, .s (.raw y [])), (68, .vec 1)] 9 5) inRn =
  Tree.need ((0 : Int) ≤ (0 : Int)) (Tree.need ((0 : Int) < (↑(3 : Nat) : Int)) (Tree.at (Cfg.mk (sl (101 : Nat) [((1 : Nat), AV.ptr (4 : Nat) (0 : Nat)), ((69 : Nat), AV.agg [AV.s (SV.str (ByteArray.mk #[(97 : UInt8)])), AV.s (SV.int IntKind.u8 (14 : Int)), AV.s (SV.int IntKind.i64 (-1 : Int)), AV.s (SV.int IntKind.i64 (-1 : Int)), AV.s (SV.int IntKind.u8 (0 : Int)), AV.s (SV.str (ByteArray.mk #[(113 : UInt8)])), AV.s (SV.str ByteArray.empty), AV.s (SV.str ByteArray.empty), AV.s (SV.bool false), AV.emp, AV.emp]), ((70 : Nat), AV.vptr (1 : Nat) (0 : Nat) (0 : Nat))]) [AObj.own [AV.s (SV.int IntKind.i64 (0 : Int)), AV.s (SV.int IntKind.i64 (4 : Int)), AV.s (SV.raw dv []), AV.vec (3 : Nat), AV.emp, AV.emp] (27 : Nat), AObj.vec (Con.typ cN nsN0) (39 : Nat), AObj.own [AV.s (SV.str (tx1 (112 : UInt8))), AV.emp, AV.vec (1 : Nat), AV.emp] (43 : Nat), AObj.vec (Con.typ cI neIs) (45 : Nat), AObj.own [AV.s (SV.int IntKind.i64 (0 : Int)), AV.s (SV.int IntKind.i64 (4 : Int)), AV.s (SV.raw v []), AV.vec (3 : Nat), AV.emp, AV.emp] (27 : Nat), AObj.vec (Con.typ cP [(tx1 (113 : UInt8), [], [(tx1 (120 : UInt8), (3 : Int), (-1 : Int), (-1 : Int), (0 : Int), ByteArray.empty, ByteArray.empty, ByteArray.empty, false, [], [], ())], [], ())]) (43 : Nat)] (cal Try.f3 (9 : Nat) (7 : Nat)) (Stk.mk none false (0 : Nat) [] (9 : Nat))))) := by kernel_rfl
theorem trR122 (v dv : Value) : run P tabRn.sum Try.f3 nsR3 (cQ v dv nsQ isQ [(88, .agg [avI 0, avI 4, .s (.raw v []), .vec 3, .emp, .emp]), (89, rFd 2 1 true)] 12 2) inRn =
  Tree.ite true (Tree.ret [AObj.own [AV.s (SV.int IntKind.i64 (0 : Int)), AV.s (SV.int IntKind.i64 (4 : Int)), AV.s (SV.raw dv []), AV.vec (3 : Nat), AV.emp, AV.emp] (27 : Nat), AObj.vec (Con.typ cN nsQ) (39 : Nat), AObj.own [AV.s (SV.str (tx1 (112 : UInt8))), AV.emp, AV.vec (1 : Nat), AV.emp] (43 : Nat), AObj.vec (Con.typ cI isQ) (45 : Nat), AObj.own [AV.s (SV.int IntKind.i64 (0 : Int)), AV.s (SV.int IntKind.i64 (4 : Int)), AV.s (SV.raw v []), AV.vec (3 : Nat), AV.emp, AV.emp] (27 : Nat), AObj.vec (Con.typ cP [(tx1 (113 : UInt8), [], [(tx1 (120 : UInt8), (3 : Int), (-1 : Int), (-1 : Int), (0 : Int), ByteArray.empty, ByteArray.empty, ByteArray.empty, false, [], [], ())], [], ())]) (43 : Nat), AObj.own [AV.s (SV.int IntKind.i64 (2 : Int)), AV.s (SV.int IntKind.i64 (1 : Int))] (30 : Nat)] (AV.s (SV.bool true))) (Tree.ret [AObj.own [AV.s (SV.int IntKind.i64 (0 : Int)), AV.s (SV.int IntKind.i64 (4 : Int)), AV.s (SV.raw dv []), AV.vec (3 : Nat), AV.emp, AV.emp] (27 : Nat), AObj.vec (Con.typ cN nsQ) (39 : Nat), AObj.own [AV.s (SV.str (tx1 (112 : UInt8))), AV.emp, AV.vec (1 : Nat), AV.emp] (43 : Nat), AObj.vec (Con.typ cI isQ) (45 : Nat), AObj.own [AV.s (SV.int IntKind.i64 (0 : Int)), AV.s (SV.int IntKind.i64 (4 : Int)), AV.s (SV.raw v []), AV.vec (3 : Nat), AV.emp, AV.emp] (27 : Nat), AObj.vec (Con.typ cP [(tx1 (113 : UInt8), [], [(tx1 (120 : UInt8), (3 : Int), (-1 : Int), (-1 : Int), (0 : Int), ByteArray.empty, ByteArray.empty, ByteArray.empty, false, [], [], ())], [], ())]) (43 : Nat), AObj.own [AV.s (SV.int IntKind.i64 (2 : Int)), AV.s (SV.int IntKind.i64 (1 : Int))] (30 : Nat)] (AV.s (SV.blit false))) := by kernel_rfl
theorem trR97 (v dv : Value) : run P tabRn.sum Try.f3 nsR3 (cQ v dv nsN0 neIs [(69, avNA (.s (.ro (.typ cV []))) (.s (.ro (.strs [])))), (70, .vptr 1 0 0)] 9 7) inRn =
  .need ((0 : Int) ≤ 2) (.need ((2 : Int) < ((4 : Nat) : Int)) (.need ((0 : Int) ≤ 2) (.need ((2 : Int) < ((4 : Nat) : Int)) (.need ((0 : Int) ≤ 3) (.need ((3 : Int) < ((4 : Nat) : Int)) (.need ((0 : Int) ≤ 3) (.need ((3 : Int) < ((4 : Nat) : Int)) (.at (cQ v dv nsQ isQ [(88, .agg [avI 0, avI 4, .s (.raw v []), .vec 3, .emp, .emp])] 12 1))))))))) := by kernel_rfl
theorem sco0 : scoF neIs 1 = [] ∧ scoF neIs 4 = [3, 1] := ⟨by kernel_rfl, by kernel_rfl⟩
end Ds

namespace Ds
open Go Go.Sx Go.Proofs Lf
def psN : Ps := [(tx1 112, [], nsN0, [], ())]
theorem okN_N : okN psN := fun p hp => by
  have : p = (tx1 112, [], nsN0, [], ()) := List.mem_singleton.1 hp
  rw [this]
  exact Nat.le_of_ble_eq_true rfl
theorem okN_Q : okN psQ := fun p hp => by
  rcases List.mem_cons.1 hp with h | h
  · rw [h]; exact Nat.le_of_ble_eq_true rfl
  · have : p = qP := List.mem_singleton.1 h
    rw [this]; exact Nat.le_of_ble_eq_true rfl
section
variable {Z : Glob} {X : Ctx} {K : List AObj → AV → Prop} {ρ : Nat → Value} {H : AHeap} {G O : Nat → Prop} {w w' : World}
theorem find_res {m n : Int} {b : Bool} {v : Value} (h : Good (fun _ => undef) (fun _ => none) (fun _ => False) w (lk []) (.tup [.agg [avI m, avI n], .s (.bool b)]) v w') : DenV ρ H O w' (rFd m n b) v := by
  obtain ⟨ρ', _, d, _⟩ := h
  unfold DenV at d ⊢
  obtain ⟨us, rfl, d⟩ := d
  obtain ⟨v1, r1, rfl, d1, d⟩ := DenL_cons.1 d
  obtain ⟨v2, r2, rfl, d2, d⟩ := DenL_cons.1 d
  have d := DenL_nil.1 d
  subst d
  refine ⟨_, rfl, DenL_cons.2 ⟨_, _, rfl, ?_, DenL_cons.2 ⟨_, _, rfl, ?_, DenL_nil.2 rfl⟩⟩⟩
  · unfold DenV at d1 ⊢
    obtain ⟨cs, rfl, d1⟩ := d1
    refine ⟨cs, rfl, ?_⟩
    obtain ⟨c1, q1, rfl, k1, d1⟩ := DenSegs_cons.1 d1
    obtain ⟨c2, q2, rfl, k2, d1⟩ := DenSegs_cons.1 d1
    have d1 := DenSegs_nil.1 d1
    subst d1
    obtain ⟨u1, rfl, e1⟩ := denC_s k1
    obtain ⟨u2, rfl, e2⟩ := denC_s k2
    cases e1
    cases e2
    have one : ∀ {x : SV} {u : Value}, DenS O w' x u → DenC ρ H O w' (.s x) [u] := fun {x u} k => by unfold DenC; exact ⟨u, rfl, k⟩
    exact DenSegs_cons.2 ⟨[_], _, rfl, one (.int _ _), DenSegs_cons.2 ⟨[_], _, rfl, one (.int _ _), DenSegs_nil.2 rfl⟩⟩
  · have d2 := DenS_of_V (by simp) d2
    cases d2
    exact DenV_s (.blit _)
theorem find_at (hz : ZCtx Z X) {r i s d : Nat} {n ev : Int} {ps : Ps} {is : Is} {dv : Value} {tmps : List AV} {L : List AObj}
    (hat : (opAt Try.f3 r i).bind callOf = some (5, [.tmp s, .const (.int .i64 n), .const (.int .u8 ev), .const (.string (tx1 107))], some d)) (hg : ((opAt Try.f3 r i).all fun y => gOk y.1 y.2.1 tmps) = true)
    (hs : tmps.getD s (.s .junk) = .agg [avI 0, avI 4, .s (.raw dv []), .vec 3, .emp, .emp]) (hi : lk L 3 = some (.vec (.typ cI is) eI))
    (hps : ∀ ρ w G, Sat ρ (lk L) G w → (∀ id y, X.H id = some y → ρ id = X.ρ id) → Frm X.ρ X.H X.w w → X.w.heap.size ≤ w.heap.size → DenS (fun _ => False) w (.ro (.typ cP ps)) dv) (hok : okN ps) {m k : Int} {b : Bool} (hf : resT (findF ps is n ev (tx1 107)) = ((m, k, ()), b, ()))
    (h : Safe P 3 X K ⟨tmps.set d (rFd m k b), L, cal Try.f3 r (i + 1), Stk.mk none false 0 [] r⟩) : Safe P 3 X K ⟨tmps, L, cal Try.f3 r i, Stk.mk none false 0 [] r⟩ := by
  refine lend rfind_ok ((0, 4, ps, is, [], [], ()), n, ev, tx1 107, ()) ⟨hok, trivial⟩ hz hat hg rfl (by kernel_rfl) (fun ρ w G vs hsat hrho hfrm hsz hd => ?_) (rFd m k b) (fun ρ w G v w' _ hgood => ?_) h
  · obtain ⟨v1, r1, rfl, d1, hd⟩ := DenL_cons.1 hd
    obtain ⟨v2, r2, rfl, d2, hd⟩ := DenL_cons.1 hd
    obtain ⟨v3, r3, rfl, d3, hd⟩ := DenL_cons.1 hd
    obtain ⟨v4, r4, rfl, d4, hd⟩ := DenL_cons.1 hd
    have hd := DenL_nil.1 hd
    subst hd
    have d1 : DenV ρ (lk L) (Hot ρ (lk L) G) w (.agg [avI 0, avI 4, .s (.raw dv []), .vec 3, .emp, .emp]) v1 := by rw [← hs]; exact d1
    have d2 := DenS_of_V (x := .ilit .i64 n) (by simp) d2
    have d3 := DenS_of_V (x := .ilit .u8 ev) (by simp) d3
    have d4 := DenS_of_V (x := .str (tx1 107)) (by simp) d4
    cases d2
    cases d3
    cases d4
    exact DenL_cons.2 ⟨_, _, rfl, den_state hsat (hps ρ w G hsat hrho hfrm hsz) hi d1, DenL_cons.2 ⟨_, _, rfl, DenV_s (.int _ _), DenL_cons.2 ⟨_, _, rfl, DenV_s (.int _ _), DenL_cons.2 ⟨_, _, rfl, DenV_s (.str _), DenL_nil.2 rfl⟩⟩⟩⟩
  · have e : AL.res [tHd, tBool] (resT (findF ps is n ev (tx1 107))) = ([], .tup [.agg [avI m, avI k], .s (.bool b)]) := by rw [hf]; rfl
    have hgood : Good (fun _ => undef) (fun _ => none) (fun _ => False) w (lk (AL.res [tHd, tBool] (resT (findF ps is n ev (tx1 107)))).1) (AL.res [tHd, tBool] (resT (findF ps is n ev (tx1 107)))).2 v w' := hgood
    rw [e] at hgood
    exact find_res hgood
theorem scopes_at (hz : ZCtx Z X) {r i s d : Nat} {n : Int} {ps : Ps} {is : Is} {dv : Value} {tmps : List AV} {L : List AObj}
    (hat : (opAt Try.f3 r i).bind callOf = some (6, [.tmp s, .const (.int .i64 n)], some d)) (hg : ((opAt Try.f3 r i).all fun y => gOk y.1 y.2.1 tmps) = true)
    (hs : tmps.getD s (.s .junk) = .agg [avI 0, avI 4, .s (.raw dv []), .vec 3, .emp, .emp]) (hi : lk L 3 = some (.vec (.typ cI is) eI))
    (hps : ∀ ρ w G, Sat ρ (lk L) G w → (∀ id y, X.H id = some y → ρ id = X.ρ id) → Frm X.ρ X.H X.w w → X.w.heap.size ≤ w.heap.size → DenS (fun _ => False) w (.ro (.typ cP ps)) dv) (hl : is.length ≤ 1000000) {l : List Int} (hf : scoF is n = l)
    (h : Safe P 3 X K ⟨tmps.set d (avL l), L, cal Try.f3 r (i + 1), Stk.mk none false 0 [] r⟩) : Safe P 3 X K ⟨tmps, L, cal Try.f3 r i, Stk.mk none false 0 [] r⟩ := by
  refine lend scopes_ok ((0, 4, ps, is, [], [], ()), n, ()) ⟨hl, trivial⟩ hz hat hg rfl (by kernel_rfl) (fun ρ w G vs hsat hrho hfrm hsz hd => ?_) (avL l) (fun ρ w G v w' hsat hgood => ?_) h
  · obtain ⟨v1, r1, rfl, d1, hd⟩ := DenL_cons.1 hd
    obtain ⟨v2, r2, rfl, d2, hd⟩ := DenL_cons.1 hd
    have hd := DenL_nil.1 hd
    subst hd
    have d1 : DenV ρ (lk L) (Hot ρ (lk L) G) w (.agg [avI 0, avI 4, .s (.raw dv []), .vec 3, .emp, .emp]) v1 := by rw [← hs]; exact d1
    have d2 := DenS_of_V (x := .ilit .i64 n) (by simp) d2
    cases d2
    exact DenL_cons.2 ⟨_, _, rfl, den_state hsat (hps ρ w G hsat hrho hfrm hsz) hi d1, DenL_cons.2 ⟨_, _, rfl, DenV_s (.int _ _), DenL_nil.2 rfl⟩⟩
  · have e : AL.res [tNs] (scoF is n, ()) = ([.vec (.ints .i64 l) 3], .vec 0) := by rw [hf]; rfl
    have hgood : Good (fun _ => undef) (fun _ => none) (fun _ => False) w (lk (AL.res [tNs] (scoF is n, ())).1) (AL.res [tNs] (scoF is n, ())).2 v w' := hgood
    rw [e] at hgood
    exact fresh_row hsat hgood
end
end Ds

namespace Ds
open Go Go.Sx Go.Proofs Lf
def appOf (x : Array Oper × Oper × List Item) : Option (TypeId × TypeId × Operand × Operand × Option Tmp) := match x.2.1.op with
  | .call c => (match c.callee, c.argTypes.toList, c.args.toList with
    | .builtin .append, [t, t'], [y, z] => bif noDefer x.1 then some (t, t', y, z, x.2.1.dst) else none
    | _, _, _ => none)
  | _ => none
theorem appOf_ok {x : Array Oper × Oper × List Item} {t t' : TypeId} {y z : Operand} {d : Option Tmp} (h : appOf x = some (t, t', y, z, d)) : noDefer x.1 = true ∧ x.2.1.dst = d ∧ ∃ c, x.2.1.op = .call c ∧ c.callee = .builtin .append ∧ c.argTypes = #[t, t'] ∧ c.args = #[y, z] := by
  unfold appOf at h
  split at h
  · rename_i c hc
    split at h
    · rename_i hg h1 h2
      rw [Bool.cond_eq_ite] at h
      split at h
      · rename_i hn
        cases h
        exact ⟨hn, rfl, c, hc, hg, by apply Array.toList_inj.1; rw [h1], by apply Array.toList_inj.1; rw [h2]⟩
      · cases h
    · cases h
  · cases h
theorem info43 : (P.info? eP).map (fun i => (i.size, i.bytes, i.zero.isSome)) = some (4, 88, true) := by kernel_rfl
/-- The row of both processes: its block stands still. -/
def Two (X : Ctx) (v : Value) : Prop := ∃ (be cap : Nat) (cells : List Value) (fr : Nat × Nat) (a1 a3 : Option Addr), v = .slice (some ⟨be, 0, none⟩) 2 cap ∧ 2 ≤ cap ∧ cap ≤ maxLen ∧ X.w.heap[be]? = some (.cells cells.toArray eP fr) ∧ ¬ Own X.ρ X.H be ∧
  cells[0]? = some (.string (tx1 112)) ∧ cells[1]? = some (.slice a1 0 0) ∧ cells[2]? = some (X.ρ 1) ∧ cells[3]? = some (.slice a3 0 0) ∧ ∀ j, j < 4 → ∃ u, cells[4 + j]? = some u ∧ DenS (Hot X.ρ X.H X.G) X.w ((Con.typ cP [qP]).cell 0 j) u
theorem app_safe {Z : Glob} {X : Ctx} {K : List AObj → AV → Prop} (hz : ZCtx Z X) {dv : Value} (hH : (X.H 2).isSome = true) (hrow : RowAt X.ρ 2 dv 1)
    (h : ∀ (X' : Ctx) (v : Value), X'.H = lk (H2 dv dv nsN0 neIs) → ZCtx Z X' → X'.pan = X.pan → Two X' v → Safe P 3 X' K (cQ dv dv nsN0 neIs [(57, .s (.raw dv [])), (61, .vec 5), (62, .s (.raw v []))] 8 7)) :
    Safe P 3 X K (cQ dv dv nsN0 neIs [(57, .s (.raw dv [])), (61, .vec 5)] 8 6) := by
  have hap : (opAt Try.f3 8 6).bind appOf = some (22, 22, .tmp 57, .tmp 61, some 62) := by kernel_rfl
  have hgd : ((opAt Try.f3 8 6).all fun y => gOk y.1 y.2.1 (sl 101 [(1, .ptr 4 0), (57, .s (.raw dv [])), (61, .vec 5)])) = true := by kernel_rfl
  obtain ⟨⟨ops, o, k⟩, h1, h2⟩ := Option.bind_eq_some_iff.1 hap
  obtain ⟨h3, h4, c, h5, h6, h7, h8⟩ := appOf_ok h2
  have h5 : o.op = .call c := h5
  have h4 : o.dst = some 62 := h4
  rw [h1] at hgd
  refine oneAt h1 h3 (by simpa using hgd) rfl fun G E ρ a w hG1 hG2 hr => ?_
  have hs : Sat ρ (lk (H2 dv dv nsN0 neIs)) G w := hr.sat
  obtain ⟨b, hb, hdv⟩ := hrow
  obtain ⟨y2, hy2⟩ := Option.isSome_iff_exists.1 hH
  have hb2 : ρ 2 = .pointer (some ⟨b, 0, none⟩) := by rw [hr.from_.rho 2 y2 hy2]; exact hb
  have e57 : a.eval (.tmp 57) = dv := by
    have := DenS_of_V (x := .raw dv []) (by simp) (hr.ev (.tmp 57))
    cases this; rfl
  have e61 : a.eval (.tmp 61) = ρ 5 := by
    have := hr.ev (.tmp 61)
    have this : DenV ρ (lk (H2 dv dv nsN0 neIs)) (Hot ρ (lk (H2 dv dv nsN0 neIs)) G) w (.vec 5) (a.eval (.tmp 61)) := this
    unfold DenV Den1 at this
    obtain ⟨_, y, hy, hv⟩ := this
    cases hy
    exact hv _ _ rfl
  obtain ⟨cells, fr, hblk, _, hsegs⟩ := own_obj hs (id := 2) rfl hb2
  obtain ⟨c1, r1, rfl, k1, hsegs⟩ := DenSegs_cons.1 hsegs
  obtain ⟨c2, r2, rfl, k2, hsegs⟩ := DenSegs_cons.1 hsegs
  obtain ⟨c3, r3, rfl, k3, hsegs⟩ := DenSegs_cons.1 hsegs
  obtain ⟨c4, r4, rfl, k4, hsegs⟩ := DenSegs_cons.1 hsegs
  have hnil := DenSegs_nil.1 hsegs
  subst hnil
  obtain ⟨u1, rfl, d1⟩ := denC_s k1
  obtain ⟨a2, rfl⟩ := denC_emp k2
  have k3 := denC_vec (n := 1) (c := .typ cN nsN0) (e := eN) rfl k3
  subst k3
  obtain ⟨a4, rfl⟩ := denC_emp k4
  cases d1
  obtain ⟨news, src⟩ := row_src (P := P) (size := 4) (vec_row hs (id := 5) (c := .typ cP [qP]) (e := eP) rfl) rfl (by decide)
  obtain ⟨i, hi, hi2⟩ := Option.map_eq_some_iff.1 info43
  simp only [Prod.mk.injEq] at hi2
  obtain ⟨hsz, hby, hzs⟩ := hi2
  obtain ⟨z, hzz⟩ := Option.isSome_iff_exists.1 hzs
  have ht : P.underlying 22 = some (.slice eP) := by kernel_rfl
  have hold : (Builtin.firstCells i.size 1 (.slice (some ⟨b, 0, none⟩) 1 1)).run P w.drew = .ok ([Value.string (tx1 112)] ++ ([Value.slice a2 0 0] ++ ([ρ 1] ++ ([Value.slice a4 0 0] ++ [])))).toArray w.drew := by
    rw [hsz]
    simp only [Builtin.firstCells]
    exact run_loadCells_list (P := P) (w := w.drew) ⟨b, 0, none⟩ ([Value.string (tx1 112)] ++ ([Value.slice a2 0 0] ++ ([ρ 1] ++ ([Value.slice a4 0 0] ++ [])))) (fun j v hj => by
      rw [add_zero_spot, Nat.zero_add]
      rw [cell_of_blk (w := w.drew) (b := b) (by show w.heap[b]? = _; exact hblk)]
      exact hj)
  obtain ⟨cap, g1, g2, g3⟩ := run_append_new (P := P) (w := w) (ty := o.type) ht hi hzz (.inl ⟨_, ht⟩) src.len hold (by rw [hsz]; exact src.first w.drew rfl) (by decide) (by rw [hby]; decide) (by omega)
  have hn1 : (Con.typ cP [qP]).n = 1 := rfl
  rw [hn1] at g1 g3
  subst hdv
  have he : (execOp a.eval o).run P w = (do pure (Next.value (← Builtin.append_ #[22, 22] o.type #[.slice (some ⟨b, 0, none⟩) 1 1, ρ 5])) : Sem Next).run P w := by
    have hrun : (execOp a.eval o).run P w = (builtin .append c.argTypes o.type (c.args.map fun | .const _ => true | _ => false) (c.args.map a.eval)).run P w := by
      simp [execOp, h5, resolve, h6, invoke]
      rfl
    rw [hrun, h7, h8]
    have : (#[Operand.tmp 57, Operand.tmp 61].map a.eval) = #[.slice (some ⟨b, 0, none⟩) 1 1, ρ 5] := by
      rw [← e57, ← e61]; simp
    rw [this]
    rfl
  unfold Sx.Yields
  rw [he]
  simp only [Sem.run_bind, g3, Result.andThen_ok, Sem.run_pure]
  have hgr : ∀ b', b' < w.heap.size → (w.drew.alloc (.cells ([Value.string (tx1 112)] ++ ([Value.slice a2 0 0] ++ ([ρ 1] ++ ([Value.slice a4 0 0] ++ []))) ++ news ++ (Builtin.zeroCells z.cells (cap - (1 + 1))).toList).toArray eP)).heap[b']? = w.heap[b']? := fun b' hb' => alloc_old hb'
  generalize hcells : ([Value.string (tx1 112)] ++ ([Value.slice a2 0 0] ++ ([ρ 1] ++ ([Value.slice a4 0 0] ++ []))) ++ news ++ (Builtin.zeroCells z.cells (cap - (1 + 1))).toList) = cells at *
  obtain ⟨s', st'⟩ := grow_good hs hgr (by rw [alloc_size]; exact Nat.le_succ _)
  have hr' := hr.goodAt (dst := o.dst) (q := ⟨[], [], [], fun _ => .s (.raw (.slice (some ⟨w.heap.size, 0, none⟩) 2 cap) [])⟩) (v := .slice (some ⟨w.heap.size, 0, none⟩) 2 cap) (ρ' := ρ) (w' := w.drew.alloc (.cells cells.toArray eP)) (by rw [put_none]; exact s') (DenV_s (.raw _ _ rfl)) (by rw [put_none]; exact st') ⟨rfl, rfl, rfl, fun b' hb' _ => hgr b' hb'⟩
  refine ⟨_, ρ, hr', ?_⟩
  have e1 : St.put ⟨sl 101 [(1, .ptr 4 0), (57, .s (.raw (.slice (some ⟨b, 0, none⟩) 1 1) [])), (61, .vec 5)], H2 (.slice (some ⟨b, 0, none⟩) 1 1) (.slice (some ⟨b, 0, none⟩) 1 1) nsN0 neIs⟩ o.dst ⟨[], [], [], fun _ => .s (.raw (.slice (some ⟨w.heap.size, 0, none⟩) 2 cap) [])⟩ = ⟨sl 101 [(1, .ptr 4 0), (57, .s (.raw (.slice (some ⟨b, 0, none⟩) 1 1) [])), (61, .vec 5), (62, .s (.raw (.slice (some ⟨w.heap.size, 0, none⟩) 2 cap) []))], H2 (.slice (some ⟨b, 0, none⟩) 1 1) (.slice (some ⟨b, 0, none⟩) 1 1) nsN0 neIs⟩ := by
    rw [h4]; rfl
  have hr2 := hr'
  rw [e1] at hr2
  have hlen : news.length = 4 := src.length
  have htwo : Two (X.here ρ (H2 (.slice (some ⟨b, 0, none⟩) 1 1) (.slice (some ⟨b, 0, none⟩) 1 1) nsN0 neIs) G (w.drew.alloc (.cells cells.toArray eP))) (.slice (some ⟨w.heap.size, 0, none⟩) 2 cap) := by
    refine ⟨w.heap.size, cap, cells, (0, 0), a2, a4, rfl, g1, g2, alloc_get, fun ho => Nat.lt_irrefl _ (own_lt hs ho), by rw [← hcells]; rfl, by rw [← hcells]; rfl, by rw [← hcells]; rfl, by rw [← hcells]; rfl, fun j hj => ?_⟩
    obtain ⟨u, q1, q2⟩ := src.den 0 j (by decide) hj
    refine ⟨u, ?_, q2.step st'.hot st'.heap st'.size⟩
    rw [← hcells, List.getElem?_append_left (by simp only [List.length_append, List.length_cons, List.length_nil, hlen]; omega), List.getElem?_append_right (by simp)]
    simpa using q1
  have key := rebase (X := X) (K := K) (f := 3) (todo := cal Try.f3 8 (6 + 1)) (stk := Stk.mk none false 0 [] 8) hG1 hG2 hr2 rfl (fun _ hd => by cases hd) (h _ _ rfl (hz.here hr2) rfl htwo)
  rw [e1]
  exact key
end Ds

namespace Ds
open Go Go.Sx Go.Proofs Lf
section
variable {Z : Glob} {X : Ctx} {K : List AObj → AV → Prop}
theorem den_two {v : Value} (h2 : Two X v) {ρ : Nat → Value} {G : Nat → Prop} {w : World} {L : List AObj} (hs : Sat ρ (lk L) G w) (hrho : ∀ id y, X.H id = some y → ρ id = X.ρ id) (hfrm : Frm X.ρ X.H X.w w) (hsz : X.w.heap.size ≤ w.heap.size) (h1 : (X.H 1).isSome = true) (hn : lk L 1 = some (.vec (.typ cN nsQ) eN)) :
    DenS (fun _ => False) w (.ro (.typ cP psQ)) v := by
  obtain ⟨be, cap, cells, fr, a1, a3, rfl, hc1, hc2, hblk, hown, e0, e1, e2, e3, e4⟩ := h2
  obtain ⟨y1, hy1⟩ := Option.isSome_iff_exists.1 h1
  have hlt : be < X.w.heap.size := (Array.getElem?_eq_some_iff.1 hblk).1
  have hblk' : w.heap[be]? = some (.cells cells.toArray eP fr) := by rw [hfrm.heap be hlt hown]; exact hblk
  rw [← hrho 1 y1 hy1] at e2
  have later : ∀ {x : SV} {u : Value}, DenS (Hot X.ρ X.H X.G) X.w x u → DenS (fun _ => False) w x u := fun h => h.step (fun b hb => hb.elim) (fun b hb hO => hfrm.heap b hb fun ho => hO (.inl ho)) hsz
  have key : ∀ i j, i < (Con.typ cP psQ).n → j < (Con.typ cP psQ).size → ∃ u, cells[i * (Con.typ cP psQ).size + j]? = some u ∧ DenS (fun _ => False) w ((Con.typ cP psQ).cell i j) u := by
    intro i j hi hj
    have hi : i < 2 := hi
    have hj : j < 4 := hj
    match i, hi with
    | 0, _ =>
      match j, hj with
      | 0, _ => exact ⟨_, e0, .str _⟩
      | 1, _ => exact ⟨_, e1, ro_nil⟩
      | 2, _ => exact ⟨_, e2, ro_vec hs hn⟩
      | 3, _ => exact ⟨_, e3, ro_nil⟩
    | 1, _ =>
      obtain ⟨u, q1, q2⟩ := e4 j hj
      exact ⟨u, q1, later q2⟩
  refine .ro (.typ cP psQ) _ cap (fun i j => (cells[i * (Con.typ cP psQ).size + j]?).getD undef) be 0 hc1 hc2 (fun _ => ⟨rfl, id, Nat.lt_of_lt_of_le hlt hsz⟩) (fun i j hi hj => ?_) (fun i j hi hj => ?_)
  · obtain ⟨u, q1, _⟩ := key i j hi hj
    rw [Nat.zero_add, cell_of_blk hblk', q1]
    rfl
  · obtain ⟨u, q1, q2⟩ := key i j hi hj
    simp only [q1, Option.getD_some]
    exact q2
theorem raw_ev {ρ : Nat → Value} {H : AHeap} {O : Nat → Prop} {w : World} {u v : Value} (h : DenV ρ H O w (.s (.raw u [])) v) : v = u := by
  have h := DenS_of_V (x := .raw u []) (by simp) h
  cases h; rfl
def opOf (x : Array Oper × Oper × List Item) : Option (Op × Option Tmp) := bif noDefer x.1 && x.2.1.guard.isNone then some (x.2.1.op, x.2.1.dst) else none
theorem opOf_ok {x : Array Oper × Oper × List Item} {op : Op} {d : Option Tmp} (h : opOf x = some (op, d)) : noDefer x.1 = true ∧ x.2.1.guard = none ∧ x.2.1.op = op ∧ x.2.1.dst = d := by
  unfold opOf at h
  rw [Bool.cond_eq_ite] at h
  split at h
  · rename_i hc
    rw [Bool.and_eq_true] at hc
    cases h
    exact ⟨hc.1, Option.isNone_iff_eq_none.1 hc.2, rfl, rfl⟩
  · cases h
/-- An operation that only looks, by its text. -/
theorem look_at {f : FuncId} {fn : Func} {key i : Nat} {op : Op} {d : Tmp} {tmps : List AV} {L : List AObj} {stk : Stk} {r : AV} (hat : (opAt fn key i).bind opOf = some (op, some d)) (hin : stk.plain = true)
    (hrun : ∀ ρ G w (e : Operand → Value) (o : Oper), o.op = op → Sat ρ (lk L) G w → (∀ id y, X.H id = some y → ρ id = X.ρ id) → Frm X.ρ X.H X.w w → X.w.heap.size ≤ w.heap.size → (∀ x, DenV ρ (lk L) (Hot ρ (lk L) G) w (evOf tmps x) (e x)) → ∃ v, (execOp e o).run P w = .ok (.value v) w ∧ DenV ρ (lk L) (Hot ρ (lk L) G) w r v)
    (h : Safe P f X K ⟨tmps.set d r, L, cal fn key (i + 1), stk⟩) : Safe P f X K ⟨tmps, L, cal fn key i, stk⟩ := by
  obtain ⟨⟨ops, o, k⟩, h1, h2⟩ := Option.bind_eq_some_iff.1 hat
  obtain ⟨h3, h4, h5, h6⟩ := opOf_ok h2
  have h4 : o.guard = none := h4
  exact val_safe h1 h3 (by unfold gOk; rw [h4]) (by rw [hin]; rfl) h6 (fun ρ G w e => hrun ρ G w e o h5) h
theorem field2 : (P.underlying eP).bind (fun u => match u with
    | .struct fs => (fs[2]?).map fun fd => (fd.offset, szOf P fd.type)
    | _ => none) = some (2, some 1) := by kernel_rfl
theorem step9 {v dv : Value} (h2 : Two X v) (h1 : (X.H 1).isSome = true)
    (h : ∀ x y, Safe P 3 X K (cQ v dv nsN0 neIs [(65, .s (.raw v [])), (66, .s (.raw x [])), (67, .s (.raw y [])), (68, .vec 1)] 9 5)) : Safe P 3 X K (cQ v dv nsN0 neIs [(65, .s (.raw v []))] 9 2) := by
  obtain ⟨be, cap, cells, fr, a1, a3, rfl, hc1, hc2, hblk, hown, e0, e1, e2, e3, e4⟩ := h2
  obtain ⟨y1, hy1⟩ := Option.isSome_iff_exists.1 h1
  have hlt : be < X.w.heap.size := (Array.getElem?_eq_some_iff.1 hblk).1
  have ht : P.underlying 22 = some (.slice eP) := by kernel_rfl
  have hsz : szOf P eP = some 4 := by kernel_rfl
  refine look_at (op := .indexAddr 22 (.tmp 65) (.const (.int .i64 0))) (d := 66) (r := .s (.raw (.pointer (some ⟨be, 0, none⟩)) [])) (by kernel_rfl) rfl (fun ρ G w e o ho _ _ _ _ hev => ?_) ?_
  · refine ⟨.pointer (some ⟨be, 0, none⟩), ?_, DenV_s (.raw _ _ rfl)⟩
    have q1 := raw_ev (hev (.tmp 65))
    have q2 : e (.const (.int .i64 0)) = .int .i64 0 := by
      have h9 := DenS_of_V (x := .ilit .i64 0) (by simp) (hev (.const (.int .i64 0)))
      revert h9
      generalize e (.const (.int .i64 0)) = u
      intro h9
      cases h9; rfl
    have he : (execOp e o).run P w = (do pure (Next.value (← Instr.indexAt 22 (e (.tmp 65)) (e (.const (.int .i64 0))))) : Sem Next).run P w := by simp only [execOp, ho]
    rw [he, q1, q2]
    have := indexAt_slice_run (P := P) (b := be) (o := 0) (len := 2) (cap := cap) (k := .i64) (i := 0) ht hsz (by decide) (by decide) w
    simp only [Sem.run_bind, this, Result.andThen_ok, Sem.run_pure]
    rfl
  refine look_at (op := .fieldAddr eP (.tmp 66) 2) (d := 67) (r := .s (.raw (.pointer (some ⟨be, 2, none⟩)) [])) (by kernel_rfl) rfl (fun ρ G w e o ho _ _ _ _ hev => ?_) ?_
  · refine ⟨.pointer (some ⟨be, 2, none⟩), ?_, DenV_s (.raw _ _ rfl)⟩
    have q1 := raw_ev (hev (.tmp 66))
    have he : (execOp e o).run P w = (do pure (Next.value (← Instr.fieldAt eP (e (.tmp 66)) 2)) : Sem Next).run P w := by simp only [execOp, ho]
    rw [he, q1]
    obtain ⟨u, hu, hu2⟩ := Option.bind_eq_some_iff.1 field2
    split at hu2
    · rename_i fs
      obtain ⟨fd, hfd, hfd2⟩ := Option.map_eq_some_iff.1 hu2
      simp only [Prod.mk.injEq] at hfd2
      have := fieldAt_run (P := P) (b := be) (off := 0) hu hfd hfd2.2 (Nat.le_refl 1) w
      rw [hfd2.1] at this
      simp only [Sem.run_bind, this, Result.andThen_ok, Sem.run_pure]
    · cases hu2
  refine look_at (op := .load 40 (.tmp 67)) (d := 68) (r := .vec 1) (by kernel_rfl) rfl (fun ρ G w e o ho hs hrho hfrm hsz2 hev => ?_) ?_
  · have hblk' : w.heap[be]? = some (.cells cells.toArray eP fr) := by rw [hfrm.heap be hlt hown]; exact hblk
    refine ⟨X.ρ 1, ?_, ?_⟩
    · have q1 := raw_ev (hev (.tmp 67))
      have he : (execOp e o).run P w = (do pure (Next.value (← Instr.loadAt 40 (e (.tmp 67)))) : Sem Next).run P w := by simp only [execOp, ho]
      rw [he, q1]
      have := run_loadVar_one (P := P) (w := w) (t := 40) (b := be) (off := 2) (v := X.ρ 1) (by kernel_rfl) (by rw [cell_of_blk hblk']; exact e2)
      simp only [Sem.run_bind, this, Result.andThen_ok, Sem.run_pure]
    · rw [← hrho 1 y1 hy1]
      have hrow := vec_row hs (id := 1) (c := .typ cN nsN0) (e := eN) rfl
      obtain ⟨a, cap', us, q1, _⟩ := hrow
      unfold DenV Den1
      exact ⟨by rw [q1]; rfl, _, rfl, fun c' e' hc => rfl⟩
  exact h _ _
end
end Ds

namespace Ds
open Go Go.Sx Go.Proofs Lf
theorem safe_eq {f : FuncId} {X : Ctx} {K : List AObj → AV → Prop} {c c' : Cfg} (h : c = c') (k : Safe P f X K c') : Safe P f X K c := h ▸ k
theorem tabRn_ok {Z : Glob} : tabRn.Ok P Z := Tab.Ok.cons rfind_ok.sum (Tab.Ok.cons scopes_ok.sumR (Tab.Ok.cons eq_ok.sum (Tab.Ok.cons awake_ok.sum Tab.Ok.nil)))
theorem hmR1 : ∀ x ∈ nsR1, 3 ≤ x.2.m := fun x hx => Nat.le_of_ble_eq_true (List.all_eq_true.1 (show (nsR1.all fun x => (3 : Nat).ble x.2.m) = true by kernel_rfl) x hx)
theorem hmR2 : ∀ x ∈ nsR2, 6 ≤ x.2.m := fun x hx => Nat.le_of_ble_eq_true (List.all_eq_true.1 (show (nsR2.all fun x => (6 : Nat).ble x.2.m) = true by kernel_rfl) x hx)
theorem hmR3 : ∀ x ∈ nsR3, 6 ≤ x.2.m := fun x hx => Nat.le_of_ble_eq_true (List.all_eq_true.1 (show (nsR3.all fun x => (6 : Nat).ble x.2.m) = true by kernel_rfl) x hx)
abbrev KR : List AObj → AV → Prop := Ends [tBool] (true, ())
section
variable {Z : Glob} {X : Ctx}
/-- From the row of both processes on. -/
theorem last_part (hz : ZCtx Z X) {v dv : Value} (hH : X.H = lk (H2 dv dv nsN0 neIs)) (h2 : Two X v) : Safe P 3 X KR (cQ dv dv nsN0 neIs [(57, .s (.raw dv [])), (61, .vec 5), (62, .s (.raw v []))] 8 7) := by
  have h1 : (X.H 1).isSome = true := by rw [hH]; rfl
  refine goS hz hH hmR2 tabRn_ok Try.func3 (trR87 v dv) ?_
  refine step9 (v := v) (dv := dv) h2 h1 fun x y => ?_
  refine goS hz hH hmR2 tabRn_ok Try.func3 (trR95 v dv x y) ⟨by decide, by decide, ?_⟩
  refine view_safe (d := 69) (y := avNA (.s (.ro (.typ cV []))) (.s (.ro (.strs [])))) rfl (fun ρ G w u hu => ?_) ?_
  · have hv : DenV ρ _ _ w (avNA .emp .emp) u := hu
    clear hu
    unfold DenV at hv ⊢
    obtain ⟨cs, rfl, hv⟩ := hv
    refine ⟨cs, rfl, ?_⟩
    have tail : ∀ {xs : List AV} {cs : List Value} {H : AHeap} {O : Nat → Prop}, DenSegs ρ H O w [.emp, .emp] cs → DenSegs ρ H O w [.s (.ro (.typ cV [])), .s (.ro (.strs []))] cs := by
      intro xs cs H O h
      obtain ⟨c1, q1, rfl, k1, h⟩ := DenSegs_cons.1 h
      obtain ⟨c2, q2, rfl, k2, h⟩ := DenSegs_cons.1 h
      have h := DenSegs_nil.1 h
      subst h
      obtain ⟨a1, rfl⟩ := denC_emp k1
      obtain ⟨a2, rfl⟩ := denC_emp k2
      have one : ∀ {x : SV} {u : Value}, DenS O w x u → DenC ρ H O w (.s x) [u] := fun {x u} k => by unfold DenC; exact ⟨u, rfl, k⟩
      exact DenSegs_cons.2 ⟨[_], _, rfl, one ro_nil, DenSegs_cons.2 ⟨[_], _, rfl, one (.ro (.strs []) a2 0 (fun _ _ => undef) 0 0 (Nat.le_refl _) (Nat.zero_le _) (fun h => absurd h (Nat.lt_irrefl _)) (fun i j hi hj => absurd hi (Nat.not_lt_zero _)) (fun i j hi hj => absurd hi (Nat.not_lt_zero _))), DenSegs_nil.2 rfl⟩⟩
    have split := (DenSegs_append (azs := [.s (.str (tx1 97)), .s (.int .u8 14), avI (-1), avI (-1), .s (.int .u8 0), .s (.str (tx1 113)), .s (.str ByteArray.empty), .s (.str ByteArray.empty), .s (.bool false)]) (bs := [.emp, .emp])).1 hv
    obtain ⟨p1, p2, rfl, s1, s2⟩ := split
    exact (DenSegs_append (azs := [.s (.str (tx1 97)), .s (.int .u8 14), avI (-1), avI (-1), .s (.int .u8 0), .s (.str (tx1 113)), .s (.str ByteArray.empty), .s (.str ByteArray.empty), .s (.bool false)]) (bs := [.s (.ro (.typ cV [])), .s (.ro (.strs []))])).2 ⟨p1, p2, rfl, s1, tail (xs := []) s2⟩
  refine safe_eq (c' := cQ v dv nsN0 neIs [(69, avNA (.s (.ro (.typ cV []))) (.s (.ro (.strs [])))), (70, .vptr 1 0 0)] 9 7) (by kernel_rfl) ?_
  refine goS hz hH hmR3 tabRn_ok Try.func3 (trR97 v dv) ⟨by decide, by decide, by decide, by decide, by decide, by decide, by decide, by decide, ?_⟩
  refine find_at hz (r := 12) (i := 1) (s := 88) (d := 89) (n := 4) (ev := 4) (ps := psQ) (is := isQ) (dv := v) (by kernel_rfl) (by kernel_rfl) rfl rfl (fun ρ w G hs hrho hfrm hsz => den_two h2 hs hrho hfrm hsz h1 rfl) okN_Q (m := 2) (k := 1) (b := true) (by kernel_rfl) ?_
  refine safe_eq (c' := cQ v dv nsQ isQ [(88, .agg [avI 0, avI 4, .s (.raw v []), .vec 3, .emp, .emp]), (89, rFd 2 1 true)] 12 2) (by kernel_rfl) ?_
  exact goS hz hH hmR3 tabRn_ok Try.func3 (trR122 v dv) (yes_and rfl (ends_eq _ rfl (by kernel_rfl)))
theorem to_lit {ρ : Nat → Value} {H : AHeap} {O : Nat → Prop} {w : World} {b : Bool} {v : Value} (h : DenV ρ H O w (.s (.bool b)) v) : DenV ρ H O w (bl b) v := by
  have h := DenS_of_V (x := .bool b) (by simp) h
  cases h
  exact DenV_s (.blit b)
/-- From the row of one process on. -/
theorem mid_part (hz : ZCtx Z X) {dv : Value} (hH : X.H = lk [obS .emp .emp 0, .vec (.typ cN nsN0) eN, obD1 (tx1 112) 1]) (hrow : RowAt X.ρ 2 dv 1) : Safe P 3 X KR (cRB dv) := by
  have hps : ∀ L : List AObj, lk L 2 = some (obD1 (tx1 112) 1) → lk L 1 = some (.vec (.typ cN nsN0) eN) → ∀ ρ w G, Sat ρ (lk L) G w → (∀ id y, X.H id = some y → ρ id = X.ρ id) → Frm X.ρ X.H X.w w → X.w.heap.size ≤ w.heap.size → DenS (fun _ => False) w (.ro (.typ cP psN)) dv := fun L e2 e1 ρ w G hs hrho _ _ => by
    obtain ⟨b, hb, hdv⟩ := hrow
    exact den_defs1 hs ⟨b, by rw [hrho 2 (obD1 (tx1 112) 1) (by rw [hH]; rfl)]; exact hb, hdv⟩ e2 e1
  refine goS hz hH hmR1 tabRn_ok Try.func3 (trRB dv) ?_
  refine find_at hz (r := 2) (i := 1) (s := 14) (d := 15) (n := 9) (ev := 4) (ps := psN) (is := neIs) (dv := dv) (by kernel_rfl) (by kernel_rfl) rfl rfl (hps _ rfl rfl) okN_N (m := 0) (k := 0) (b := false) (by kernel_rfl) ?_
  refine safe_eq (c' := cR dv [(14, avS1 dv), (15, rFd 0 0 false)] 2 2) (by kernel_rfl) ?_
  refine goS hz hH hmR1 tabRn_ok Try.func3 (trR22 dv) ?_
  refine find_at hz (r := 3) (i := 1) (s := 19) (d := 20) (n := 1) (ev := 4) (ps := psN) (is := neIs) (dv := dv) (by kernel_rfl) (by kernel_rfl) rfl rfl (hps _ rfl rfl) okN_N (m := 0) (k := 0) (b := false) (by kernel_rfl) ?_
  refine view_safe (d := 3) (y := bl false) rfl (fun _ _ _ _ h => to_lit h) ?_
  refine safe_eq (c' := cR dv [(3, bl false), (19, avS1 dv), (20, rFd 0 0 false)] 3 2) (by kernel_rfl) ?_
  refine goS hz hH hmR1 tabRn_ok Try.func3 (trR32 dv) ?_
  refine find_at hz (r := 4) (i := 1) (s := 24) (d := 25) (n := 4) (ev := 1) (ps := psN) (is := neIs) (dv := dv) (by kernel_rfl) (by kernel_rfl) rfl rfl (hps _ rfl rfl) okN_N (m := 0) (k := 0) (b := false) (by kernel_rfl) ?_
  refine view_safe (d := 3) (y := bl false) rfl (fun _ _ _ _ h => to_lit h) ?_
  refine view_safe (d := 5) (y := bl false) rfl (fun _ _ _ _ h => to_lit h) ?_
  refine safe_eq (c' := cR dv [(3, bl false), (5, bl false), (24, avS1 dv), (25, rFd 0 0 false)] 4 2) (by kernel_rfl) ?_
  refine goS hz hH hmR1 tabRn_ok Try.func3 (trR42 dv) ?_
  refine find_at hz (r := 5) (i := 1) (s := 29) (d := 30) (n := 4) (ev := 5) (ps := psN) (is := neIs) (dv := dv) (by kernel_rfl) (by kernel_rfl) rfl rfl (hps _ rfl rfl) okN_N (m := 0) (k := 0) (b := false) (by kernel_rfl) ?_
  refine view_safe (d := 3) (y := bl false) rfl (fun _ _ _ _ h => to_lit h) ?_
  refine view_safe (d := 5) (y := bl false) rfl (fun _ _ _ _ h => to_lit h) ?_
  refine view_safe (d := 7) (y := bl false) rfl (fun _ _ _ _ h => to_lit h) ?_
  refine safe_eq (c' := cR dv [(3, bl false), (5, bl false), (7, bl false), (29, avS1 dv), (30, rFd 0 0 false)] 5 2) (by kernel_rfl) ?_
  refine goS hz hH hmR1 tabRn_ok Try.func3 (trR52 dv) ?_
  refine scopes_at hz (r := 6) (i := 12) (s := 44) (d := 45) (n := 1) (ps := psN) (is := neIs) (dv := dv) (by kernel_rfl) (by kernel_rfl) rfl rfl (hps _ rfl rfl) (Nat.le_of_ble_eq_true rfl) (l := []) sco0.1 ?_
  refine view_safe (d := 43) (y := bl false) rfl (fun _ _ _ _ h => to_lit h) ?_
  refine safe_eq (c' := cR dv [(43, bl false), (44, avS1 dv), (45, avL [])] 6 13) (by kernel_rfl) ?_
  refine goS hz hH hmR1 tabRn_ok Try.func3 (trR613 dv) (no_and rfl ?_)
  refine scopes_at hz (r := 6) (i := 18) (s := 50) (d := 51) (n := 4) (ps := psN) (is := neIs) (dv := dv) (by kernel_rfl) (by kernel_rfl) rfl rfl (hps _ rfl rfl) (Nat.le_of_ble_eq_true rfl) (l := [3, 1]) sco0.2 ?_
  refine view_safe (d := 49) (y := bl false) rfl (fun _ _ _ _ h => to_lit h) ?_
  refine safe_eq (c' := cR dv [(49, bl false), (50, avS1 dv), (51, avL [3, 1])] 6 19) (by kernel_rfl) ?_
  refine goS hz hH hmR1 tabRn_ok Try.func3 (trR619 dv) ⟨rfl, no_and rfl ?_⟩
  refine safe_eq (c' := cQ dv dv nsN0 neIs [(57, .s (.raw dv [])), (61, .vec 5)] 8 6) (by kernel_rfl) ?_
  exact app_safe hz (by rw [hH]; rfl) hrow fun X' v hH' hz' _ h2 => last_part hz' hH' h2
end
theorem routeNames_ok {Z : Glob} : FnOk P Z 3 [] [tBool] (fun _ => []) (fun _ => (true, ())) := by
  refine fnOk_of_safe Try.func3 (by kernel_rfl) (by kernel_rfl) ?_
  rintro ⟨⟩ _ _ X hX hz
  show Safe P 3 X KR _
  refine go hz hX tabRn_ok Try.func3 trRn0 (no_and rfl ?_)
  have hat : (opAt Try.f4 6 1).bind opOf = some (.buildSlice 22 1 #[(0, .tmp 21)], some 22) := by kernel_rfl
  obtain ⟨⟨ops, o, k⟩, h1, h2⟩ := Option.bind_eq_some_iff.1 hat
  obtain ⟨h3, h4, h5, h6⟩ := opOf_ok h2
  have h4 : o.guard = none := h4
  have hin : ((opAt Try.f4 6 1).all fun y => slotsIn (Cfg.n ⟨sl 130 [(2, .ptr 0 0), (21, .agg [.s (.str (tx1 112)), .emp, .vec 1, .emp])], [obS .emp .emp 0, .vec (.typ cN nsN0) eN], [], stN⟩) y.1) = true := by kernel_rfl
  rw [h1] at hin
  have hzz : (zeroOf P eP).bind AV.segs? = some [.s (.str ByteArray.empty), .emp, .emp, .emp] := by kernel_rfl
  refine bs1_safe (tmps := sl 130 [(2, .ptr 0 0), (21, .agg [.s (.str (tx1 112)), .emp, .vec 1, .emp])]) (L := [obS .emp .emp 0, .vec (.typ cN nsN0) eN]) (stk := stN) (d := 22) (el := eP) (sz := 4) (ss := [.s (.str (tx1 112)), .emp, .vec 1, .emp]) hz h1 h3 (by unfold gOk; rw [h4]) (Bool.or_eq_true_iff.2 (.inr (by simpa using hin))) h5 h6 (by kernel_rfl) (by kernel_rfl) hzz (by decide) (by decide) rfl (by kernel_rfl) rfl (fun d hd => ?_) fun X' dv hH' hz' _ hrow => ?_
  · have e : d = inCall Try.f3 none 1 0 false 0 := List.mem_singleton.1 hd
    rw [e]
    exact ⟨rfl, rfl⟩
  · exact safe_eq (by kernel_rfl) (mid_part hz' hH' hrow)
end Ds
