/- Lemmas: X4, X5, Q11, X6, SxMapVar. -/
import Derived.WideKeyElems2
import Derived.ChangeBears2
import Derived.LaidLaws
import Derived.Test.YtgfngdhelbfmdaaDoorPE

namespace Ds
open Go Go.Sx Go.Proofs Lf
variable {nx : Int} {ps : Ps} {is : Is}
/-- the scopes above, one above the other -/
structure ScL (is : Is) (a : Int) (L : List Int) : Prop where
  len : (L.length : Int) = depthF is a
  hd : L.head? = some a
  up : ∀ i, i + 1 < L.length → Reach (esOf is) (L.getD (i + 1) 0) (L.getD i 0)
  fin : hasI is (L.getD (L.length - 1) 0) = true ∧ gU is (L.getD (L.length - 1) 0) = 0
theorem ScL.one {a : Int} (h : hasI is a = true) (hu : gU is a = 0) (hd : depthF is a = 1) : ScL is a [a] :=
  ⟨by rw [hd]; rfl, rfl, fun i hi => by simp at hi, ⟨h, hu⟩⟩
theorem ScL.cons {a b : Int} {L : List Int} (S : ScL is b L) (hr : Reach (esOf is) b a) (hd : depthF is a = 1 + depthF is b) : ScL is a (a :: L) := by
  have hl := S.len
  have hne : L ≠ [] := fun e => by have := S.hd; rw [e] at this; cases this
  obtain ⟨c, r, rfl⟩ := List.exists_cons_of_ne_nil hne
  have hc : c = b := by have := S.hd; simpa using this
  subst hc
  refine ⟨by rw [hd, ← hl]; simp; omega, rfl, fun i hi => ?_, ?_⟩
  · cases i with
    | zero => exact hr
    | succ i =>
      have := S.up i (by simp at hi ⊢; omega)
      simpa [List.getD] using this
  · have := S.fin
    simpa [List.getD] using this
theorem up_kid {x : CL cI} (hx : x ∈ is) (h : iU x ≠ iI x) : Reach (esOf is) (iU x) (iI x) :=
  .kid (mem_kids.2 ⟨List.mem_map.2 ⟨x, hx, rfl⟩, fun e => h e.symm⟩)
variable {Z : Glob}
end Ds

namespace Ds
open Go Go.Sx Go.Proofs Lf
def nsRo : List (Nat × Norm) := [(14, ⟨[], [1, 2, 3, 11, 13, 15, 16, 17, 18], 0, []⟩)]
abbrev sumRfd := sumOf [tSt, tInt, tU8, tStr] [tHd, tBool] (fun ((_, _, ps, _, _, _, ()), _) => [okN ps]) (fun ((_, _, ps, is, _, _, ()), id, ev, key, ()) => resT (findF ps is id ev key))
def tabRo : Tab := [(25, sumL22'), (26, sumTt), (12, sumSd), (16, sumBlo), (19, sumFi), (27, sumRfd), (14, sumDf), (28, sumAc)]
theorem trRo (ck nx : Int) (ps : Ps) (is : Is) (cs : Cs) (ws : Ws) (id ev : Int) (key : ByteArray) : run P tabRo.sum Tryd.f8 nsRo (start Tryd.f8 [avSt ck nx ps is cs ws, avI id, avU ev, .s (.str key)] []) =
  Tree.ite (large22 ps is cs ws) (Tree.ret [AObj.own [AV.s (SV.int IntKind.i64 ck), AV.s (SV.int IntKind.i64 nx), AV.s (SV.ro (Con.typ cP ps)), AV.s (SV.ro (Con.typ cI is)), AV.s (SV.ro (Con.typ cC cs)), AV.s (SV.ro (Con.typ cW ws))] (27 : Nat)] (AV.s (SV.bool true)))
  (Tree.ite false (Tree.ret [AObj.own [AV.s (SV.int IntKind.i64 ck), AV.s (SV.int IntKind.i64 nx), AV.s (SV.ro (Con.typ cP ps)), AV.s (SV.ro (Con.typ cI is)), AV.s (SV.ro (Con.typ cC cs)), AV.s (SV.ro (Con.typ cW ws))] (27 : Nat)] (AV.s (SV.bool true)))
    (Tree.need (okN ps)
      (Tree.need (List.length is ≤ (1000000 : Nat))
        (Tree.ite (!soundF nx ps is) (Tree.ret [AObj.own [AV.s (SV.int IntKind.i64 ck), AV.s (SV.int IntKind.i64 nx), AV.s (SV.ro (Con.typ cP ps)), AV.s (SV.ro (Con.typ cI is)), AV.s (SV.ro (Con.typ cC cs)), AV.s (SV.ro (Con.typ cW ws))] (27 : Nat), AObj.own [AV.s (SV.int IntKind.i64 (hI (findF ps is id ev key))), AV.s (SV.int IntKind.i64 (hN (findF ps is id ev key)))] (57 : Nat)] (AV.s (SV.blit true)))
          (Tree.ite (!(findF ps is id ev key).isSome) (Tree.ret [AObj.own [AV.s (SV.int IntKind.i64 ck), AV.s (SV.int IntKind.i64 nx), AV.s (SV.ro (Con.typ cP ps)), AV.s (SV.ro (Con.typ cI is)), AV.s (SV.ro (Con.typ cC cs)), AV.s (SV.ro (Con.typ cW ws))] (27 : Nat), AObj.own [AV.s (SV.int IntKind.i64 (hI (findF ps is id ev key))), AV.s (SV.int IntKind.i64 (hN (findF ps is id ev key)))] (57 : Nat)] (AV.s (SV.blit true)))
            (Tree.ite (!hasI is (hI (findF ps is id ev key))) (Tree.ret [AObj.own [AV.s (SV.int IntKind.i64 ck), AV.s (SV.int IntKind.i64 nx), AV.s (SV.ro (Con.typ cP ps)), AV.s (SV.ro (Con.typ cI is)), AV.s (SV.ro (Con.typ cC cs)), AV.s (SV.ro (Con.typ cW ws))] (27 : Nat), AObj.own [AV.s (SV.int IntKind.i64 (hI (findF ps is id ev key))), AV.s (SV.int IntKind.i64 (hN (findF ps is id ev key)))] (57 : Nat), AObj.own [AV.s (SV.int IntKind.i64 (gI is (hI (findF ps is id ev key)))), AV.s (SV.int IntKind.i64 (gU is (hI (findF ps is id ev key)))), AV.s (SV.int IntKind.u8 (gS is (hI (findF ps is id ev key)))), AV.s (SV.str (gP is (hI (findF ps is id ev key)))), AV.s (SV.int IntKind.i64 (gN is (hI (findF ps is id ev key)))), AV.s (SV.int IntKind.i64 (gF is (hI (findF ps is id ev key)))), AV.s (SV.int IntKind.u8 (gW is (hI (findF ps is id ev key)))), AV.s (SV.str (gC is (hI (findF ps is id ev key))))] (31 : Nat), AObj.own [AV.s (SV.str (pN (getP ps (gP is (hI (findF ps is id ev key)))))), AV.s (SV.ro (Con.typ cV (pV (getP ps (gP is (hI (findF ps is id ev key))))))), AV.s (SV.ro (Con.typ cN (pO (getP ps (gP is (hI (findF ps is id ev key))))))), AV.s (SV.ro (Con.typ cF (pF (getP ps (gP is (hI (findF ps is id ev key)))))))] (40 : Nat)] (AV.s (SV.blit false)))
              (Tree.ite (!hasP ps (gP is (hI (findF ps is id ev key)))) (Tree.ret [AObj.own [AV.s (SV.int IntKind.i64 ck), AV.s (SV.int IntKind.i64 nx), AV.s (SV.ro (Con.typ cP ps)), AV.s (SV.ro (Con.typ cI is)), AV.s (SV.ro (Con.typ cC cs)), AV.s (SV.ro (Con.typ cW ws))] (27 : Nat), AObj.own [AV.s (SV.int IntKind.i64 (hI (findF ps is id ev key))), AV.s (SV.int IntKind.i64 (hN (findF ps is id ev key)))] (57 : Nat), AObj.own [AV.s (SV.int IntKind.i64 (gI is (hI (findF ps is id ev key)))), AV.s (SV.int IntKind.i64 (gU is (hI (findF ps is id ev key)))), AV.s (SV.int IntKind.u8 (gS is (hI (findF ps is id ev key)))), AV.s (SV.str (gP is (hI (findF ps is id ev key)))), AV.s (SV.int IntKind.i64 (gN is (hI (findF ps is id ev key)))), AV.s (SV.int IntKind.i64 (gF is (hI (findF ps is id ev key)))), AV.s (SV.int IntKind.u8 (gW is (hI (findF ps is id ev key)))), AV.s (SV.str (gC is (hI (findF ps is id ev key))))] (31 : Nat), AObj.own [AV.s (SV.str (pN (getP ps (gP is (hI (findF ps is id ev key)))))), AV.s (SV.ro (Con.typ cV (pV (getP ps (gP is (hI (findF ps is id ev key))))))), AV.s (SV.ro (Con.typ cN (pO (getP ps (gP is (hI (findF ps is id ev key))))))), AV.s (SV.ro (Con.typ cF (pF (getP ps (gP is (hI (findF ps is id ev key)))))))] (40 : Nat)] (AV.s (SV.blit false)))
                (Tree.ite (decide (hN (findF ps is id ev key) < (0 : Int))) (Tree.ret [AObj.own [AV.s (SV.int IntKind.i64 ck), AV.s (SV.int IntKind.i64 nx), AV.s (SV.ro (Con.typ cP ps)), AV.s (SV.ro (Con.typ cI is)), AV.s (SV.ro (Con.typ cC cs)), AV.s (SV.ro (Con.typ cW ws))] (27 : Nat), AObj.own [AV.s (SV.int IntKind.i64 (hI (findF ps is id ev key))), AV.s (SV.int IntKind.i64 (hN (findF ps is id ev key)))] (57 : Nat), AObj.own [AV.s (SV.int IntKind.i64 (gI is (hI (findF ps is id ev key)))), AV.s (SV.int IntKind.i64 (gU is (hI (findF ps is id ev key)))), AV.s (SV.int IntKind.u8 (gS is (hI (findF ps is id ev key)))), AV.s (SV.str (gP is (hI (findF ps is id ev key)))), AV.s (SV.int IntKind.i64 (gN is (hI (findF ps is id ev key)))), AV.s (SV.int IntKind.i64 (gF is (hI (findF ps is id ev key)))), AV.s (SV.int IntKind.u8 (gW is (hI (findF ps is id ev key)))), AV.s (SV.str (gC is (hI (findF ps is id ev key))))] (31 : Nat), AObj.own [AV.s (SV.str (pN (getP ps (gP is (hI (findF ps is id ev key)))))), AV.s (SV.ro (Con.typ cV (pV (getP ps (gP is (hI (findF ps is id ev key))))))), AV.s (SV.ro (Con.typ cN (pO (getP ps (gP is (hI (findF ps is id ev key))))))), AV.s (SV.ro (Con.typ cF (pF (getP ps (gP is (hI (findF ps is id ev key)))))))] (40 : Nat)] (AV.s (SV.blit false)))
                  (Tree.ite (decide (hN (findF ps is id ev key) ≥ (↑(pO (getP ps (gP is (hI (findF ps is id ev key))))).length : Int))) (Tree.ret [AObj.own [AV.s (SV.int IntKind.i64 ck), AV.s (SV.int IntKind.i64 nx), AV.s (SV.ro (Con.typ cP ps)), AV.s (SV.ro (Con.typ cI is)), AV.s (SV.ro (Con.typ cC cs)), AV.s (SV.ro (Con.typ cW ws))] (27 : Nat), AObj.own [AV.s (SV.int IntKind.i64 (hI (findF ps is id ev key))), AV.s (SV.int IntKind.i64 (hN (findF ps is id ev key)))] (57 : Nat), AObj.own [AV.s (SV.int IntKind.i64 (gI is (hI (findF ps is id ev key)))), AV.s (SV.int IntKind.i64 (gU is (hI (findF ps is id ev key)))), AV.s (SV.int IntKind.u8 (gS is (hI (findF ps is id ev key)))), AV.s (SV.str (gP is (hI (findF ps is id ev key)))), AV.s (SV.int IntKind.i64 (gN is (hI (findF ps is id ev key)))), AV.s (SV.int IntKind.i64 (gF is (hI (findF ps is id ev key)))), AV.s (SV.int IntKind.u8 (gW is (hI (findF ps is id ev key)))), AV.s (SV.str (gC is (hI (findF ps is id ev key))))] (31 : Nat), AObj.own [AV.s (SV.str (pN (getP ps (gP is (hI (findF ps is id ev key)))))), AV.s (SV.ro (Con.typ cV (pV (getP ps (gP is (hI (findF ps is id ev key))))))), AV.s (SV.ro (Con.typ cN (pO (getP ps (gP is (hI (findF ps is id ev key))))))), AV.s (SV.ro (Con.typ cF (pF (getP ps (gP is (hI (findF ps is id ev key)))))))] (40 : Nat)] (AV.s (SV.blit false)))
                    (Tree.need ((0 : Int) ≤ hN (findF ps is id ev key)) (Tree.need (hN (findF ps is id ev key) < (↑(pO (getP ps (gP is (hI (findF ps is id ev key))))).length : Int)) (Tree.need (List.length is ≤ (1000000 : Nat)) (Tree.at (Cfg.mk (sl (175 : Nat) [((1 : Nat), AV.s (SV.int IntKind.i64 id)), ((2 : Nat), AV.s (SV.int IntKind.u8 ev)), ((3 : Nat), AV.s (SV.str key)), ((11 : Nat), AV.ptr (0 : Nat) (0 : Nat)), ((13 : Nat), AV.ptr (1 : Nat) (0 : Nat)), ((15 : Nat), AV.ptr (2 : Nat) (0 : Nat)), ((16 : Nat), AV.s (SV.bool (hI (findF ps is id ev key) == id))), ((17 : Nat), AV.vec (3 : Nat)), ((18 : Nat), AV.s (SV.int IntKind.i64 (0 : Int)))]) [AObj.own [AV.s (SV.int IntKind.i64 (gI is (hI (findF ps is id ev key)))), AV.s (SV.int IntKind.i64 (gU is (hI (findF ps is id ev key)))), AV.s (SV.int IntKind.u8 (gS is (hI (findF ps is id ev key)))), AV.s (SV.str (gP is (hI (findF ps is id ev key)))), AV.s (SV.int IntKind.i64 (gN is (hI (findF ps is id ev key)))), AV.s (SV.int IntKind.i64 (gF is (hI (findF ps is id ev key)))), AV.s (SV.int IntKind.u8 (gW is (hI (findF ps is id ev key)))), AV.s (SV.str (gC is (hI (findF ps is id ev key))))] (31 : Nat), AObj.own [AV.s (SV.str (pN (getP ps (gP is (hI (findF ps is id ev key)))))), AV.s (SV.ro (Con.typ cV (pV (getP ps (gP is (hI (findF ps is id ev key))))))), AV.s (SV.ro (Con.typ cN (pO (getP ps (gP is (hI (findF ps is id ev key))))))), AV.s (SV.ro (Con.typ cF (pF (getP ps (gP is (hI (findF ps is id ev key)))))))] (40 : Nat), AObj.own [AV.s (SV.str (nN (el (pO (getP ps (gP is (hI (findF ps is id ev key))))) (hN (findF ps is id ev key))))), AV.s (SV.int IntKind.u8 (nK (el (pO (getP ps (gP is (hI (findF ps is id ev key))))) (hN (findF ps is id ev key))))), AV.s (SV.int IntKind.i64 (nI (el (pO (getP ps (gP is (hI (findF ps is id ev key))))) (hN (findF ps is id ev key))))), AV.s (SV.int IntKind.i64 (nO (el (pO (getP ps (gP is (hI (findF ps is id ev key))))) (hN (findF ps is id ev key))))), AV.s (SV.int IntKind.u8 (nE (el (pO (getP ps (gP is (hI (findF ps is id ev key))))) (hN (findF ps is id ev key))))), AV.s (SV.str (nY (el (pO (getP ps (gP is (hI (findF ps is id ev key))))) (hN (findF ps is id ev key))))), AV.s (SV.str (nT (el (pO (getP ps (gP is (hI (findF ps is id ev key))))) (hN (findF ps is id ev key))))), AV.s (SV.str (nS (el (pO (getP ps (gP is (hI (findF ps is id ev key))))) (hN (findF ps is id ev key))))), AV.s (SV.bool (nB (el (pO (getP ps (gP is (hI (findF ps is id ev key))))) (hN (findF ps is id ev key))))), AV.s (SV.ro (Con.typ cV (nV (el (pO (getP ps (gP is (hI (findF ps is id ev key))))) (hN (findF ps is id ev key)))))), AV.s (SV.ro (Con.strs (nZ (el (pO (getP ps (gP is (hI (findF ps is id ev key))))) (hN (findF ps is id ev key))))))] (45 : Nat), AObj.vec (Con.ints IntKind.i64 (belowF (esOf is) (hI (findF ps is id ev key)))) (3 : Nat)] (hd Tryd.f8 (14 : Nat)) (Stk.mk none false (0 : Nat) [] (0 : Nat)))))))))))))))) := by kernel_rfl
noncomputable def cRo (id ev : Int) (key : ByteArray) (x : CL cI) (p : CL cP) (n : CL cN) (b : Bool) (l : List Int) (i : Int) : Cfg := ⟨sl 175 [(1, avI id), (2, avU ev), (3, .s (.str key)), (11, .ptr 0 0), (13, .ptr 1 0), (15, .ptr 2 0), (16, .s (.bool b)), (17, avL l), (18, avI i)], [obIt x, .own [.s (.str (pN p)), .s (.ro (.typ cV (pV p))), .s (.ro (.typ cN (pO p))), .s (.ro (.typ cF (pF p)))] 40, obNo n], hd Tryd.f8 14, {}⟩
theorem loopRo (id ev : Int) (key : ByteArray) (x : CL cI) (p : CL cP) (n : CL cN) (b : Bool) (l : List Int) (i : Int) : run P tabRo.sum Tryd.f8 nsRo (cRo id ev key x p n b l i) =
  Tree.ite (decide (i < (↑l.length : Int))) (Tree.ite b (Tree.need (inI64 (i + (1 : Int))) (Tree.at (Cfg.mk (sl (175 : Nat) [((1 : Nat), AV.s (SV.int IntKind.i64 id)), ((2 : Nat), AV.s (SV.int IntKind.u8 ev)), ((3 : Nat), AV.s (SV.str key)), ((11 : Nat), AV.ptr (0 : Nat) (0 : Nat)), ((13 : Nat), AV.ptr (1 : Nat) (0 : Nat)), ((15 : Nat), AV.ptr (2 : Nat) (0 : Nat)), ((16 : Nat), AV.s (SV.bool true)), ((17 : Nat), AV.s (SV.ro (Con.ints IntKind.i64 l))), ((18 : Nat), AV.s (SV.int IntKind.i64 (i + (1 : Int))))]) [AObj.own [AV.s (SV.int IntKind.i64 (iI x)), AV.s (SV.int IntKind.i64 (iU x)), AV.s (SV.int IntKind.u8 (iS x)), AV.s (SV.str (iP x)), AV.s (SV.int IntKind.i64 (iN x)), AV.s (SV.int IntKind.i64 (iF x)), AV.s (SV.int IntKind.u8 (iW x)), AV.s (SV.str (iC x))] (31 : Nat), AObj.own [AV.s (SV.str (pN p)), AV.s (SV.ro (Con.typ cV (pV p))), AV.s (SV.ro (Con.typ cN (pO p))), AV.s (SV.ro (Con.typ cF (pF p)))] (40 : Nat), AObj.own [AV.s (SV.str (nN n)), AV.s (SV.int IntKind.u8 (nK n)), AV.s (SV.int IntKind.i64 (nI n)), AV.s (SV.int IntKind.i64 (nO n)), AV.s (SV.int IntKind.u8 (nE n)), AV.s (SV.str (nY n)), AV.s (SV.str (nT n)), AV.s (SV.str (nS n)), AV.s (SV.bool (nB n)), AV.s (SV.ro (Con.typ cV (nV n))), AV.s (SV.ro (Con.strs (nZ n)))] (45 : Nat)] (hd Tryd.f8 (14 : Nat)) (Stk.mk none false (0 : Nat) [] (0 : Nat))))) (Tree.need ((0 : Int) ≤ i) (Tree.need (i < (↑l.length : Int)) (Tree.need (inI64 (i + (1 : Int))) (Tree.at (Cfg.mk (sl (175 : Nat) [((1 : Nat), AV.s (SV.int IntKind.i64 id)), ((2 : Nat), AV.s (SV.int IntKind.u8 ev)), ((3 : Nat), AV.s (SV.str key)), ((11 : Nat), AV.ptr (0 : Nat) (0 : Nat)), ((13 : Nat), AV.ptr (1 : Nat) (0 : Nat)), ((15 : Nat), AV.ptr (2 : Nat) (0 : Nat)), ((16 : Nat), AV.s (SV.bool (l.getD i.toNat (0 : Int) == id))), ((17 : Nat), AV.s (SV.ro (Con.ints IntKind.i64 l))), ((18 : Nat), AV.s (SV.int IntKind.i64 (i + (1 : Int))))]) [AObj.own [AV.s (SV.int IntKind.i64 (iI x)), AV.s (SV.int IntKind.i64 (iU x)), AV.s (SV.int IntKind.u8 (iS x)), AV.s (SV.str (iP x)), AV.s (SV.int IntKind.i64 (iN x)), AV.s (SV.int IntKind.i64 (iF x)), AV.s (SV.int IntKind.u8 (iW x)), AV.s (SV.str (iC x))] (31 : Nat), AObj.own [AV.s (SV.str (pN p)), AV.s (SV.ro (Con.typ cV (pV p))), AV.s (SV.ro (Con.typ cN (pO p))), AV.s (SV.ro (Con.typ cF (pF p)))] (40 : Nat), AObj.own [AV.s (SV.str (nN n)), AV.s (SV.int IntKind.u8 (nK n)), AV.s (SV.int IntKind.i64 (nI n)), AV.s (SV.int IntKind.i64 (nO n)), AV.s (SV.int IntKind.u8 (nE n)), AV.s (SV.str (nY n)), AV.s (SV.str (nT n)), AV.s (SV.str (nS n)), AV.s (SV.bool (nB n)), AV.s (SV.ro (Con.typ cV (nV n))), AV.s (SV.ro (Con.strs (nZ n)))] (45 : Nat)] (hd Tryd.f8 (14 : Nat)) (Stk.mk none false (0 : Nat) [] (0 : Nat))))))))
  (Tree.ite (!b) (Tree.ret [AObj.own [AV.s (SV.int IntKind.i64 (iI x)), AV.s (SV.int IntKind.i64 (iU x)), AV.s (SV.int IntKind.u8 (iS x)), AV.s (SV.str (iP x)), AV.s (SV.int IntKind.i64 (iN x)), AV.s (SV.int IntKind.i64 (iF x)), AV.s (SV.int IntKind.u8 (iW x)), AV.s (SV.str (iC x))] (31 : Nat), AObj.own [AV.s (SV.str (pN p)), AV.s (SV.ro (Con.typ cV (pV p))), AV.s (SV.ro (Con.typ cN (pO p))), AV.s (SV.ro (Con.typ cF (pF p)))] (40 : Nat), AObj.own [AV.s (SV.str (nN n)), AV.s (SV.int IntKind.u8 (nK n)), AV.s (SV.int IntKind.i64 (nI n)), AV.s (SV.int IntKind.i64 (nO n)), AV.s (SV.int IntKind.u8 (nE n)), AV.s (SV.str (nY n)), AV.s (SV.str (nT n)), AV.s (SV.str (nS n)), AV.s (SV.bool (nB n)), AV.s (SV.ro (Con.typ cV (nV n))), AV.s (SV.ro (Con.strs (nZ n)))] (45 : Nat)] (AV.s (SV.blit false)))
    (Tree.ite (nE n != ev) (Tree.ret [AObj.own [AV.s (SV.int IntKind.i64 (iI x)), AV.s (SV.int IntKind.i64 (iU x)), AV.s (SV.int IntKind.u8 (iS x)), AV.s (SV.str (iP x)), AV.s (SV.int IntKind.i64 (iN x)), AV.s (SV.int IntKind.i64 (iF x)), AV.s (SV.int IntKind.u8 (iW x)), AV.s (SV.str (iC x))] (31 : Nat), AObj.own [AV.s (SV.str (pN p)), AV.s (SV.ro (Con.typ cV (pV p))), AV.s (SV.ro (Con.typ cN (pO p))), AV.s (SV.ro (Con.typ cF (pF p)))] (40 : Nat), AObj.own [AV.s (SV.str (nN n)), AV.s (SV.int IntKind.u8 (nK n)), AV.s (SV.int IntKind.i64 (nI n)), AV.s (SV.int IntKind.i64 (nO n)), AV.s (SV.int IntKind.u8 (nE n)), AV.s (SV.str (nY n)), AV.s (SV.str (nT n)), AV.s (SV.str (nS n)), AV.s (SV.bool (nB n)), AV.s (SV.ro (Con.typ cV (nV n))), AV.s (SV.ro (Con.strs (nZ n)))] (45 : Nat)] (AV.s (SV.blit false)))
      (Tree.ite (!decide (nY n = key))
        (Tree.ite (!decide (nY n = ByteArray.empty)) (Tree.ret [AObj.own [AV.s (SV.int IntKind.i64 (iI x)), AV.s (SV.int IntKind.i64 (iU x)), AV.s (SV.int IntKind.u8 (iS x)), AV.s (SV.str (iP x)), AV.s (SV.int IntKind.i64 (iN x)), AV.s (SV.int IntKind.i64 (iF x)), AV.s (SV.int IntKind.u8 (iW x)), AV.s (SV.str (iC x))] (31 : Nat), AObj.own [AV.s (SV.str (pN p)), AV.s (SV.ro (Con.typ cV (pV p))), AV.s (SV.ro (Con.typ cN (pO p))), AV.s (SV.ro (Con.typ cF (pF p)))] (40 : Nat), AObj.own [AV.s (SV.str (nN n)), AV.s (SV.int IntKind.u8 (nK n)), AV.s (SV.int IntKind.i64 (nI n)), AV.s (SV.int IntKind.i64 (nO n)), AV.s (SV.int IntKind.u8 (nE n)), AV.s (SV.str (nY n)), AV.s (SV.str (nT n)), AV.s (SV.str (nS n)), AV.s (SV.bool (nB n)), AV.s (SV.ro (Con.typ cV (nV n))), AV.s (SV.ro (Con.strs (nZ n)))] (45 : Nat)] (AV.s (SV.blit false)))
          (Tree.ite (iS x == (2 : Int)) (Tree.ite (nK n == (15 : Int)) (Tree.ite (nO n == iN x) (Tree.need ((0 : Int) ≤ iN x) (Tree.need (iN x < (↑(pO p).length : Int)) (Tree.ret [AObj.own [AV.s (SV.int IntKind.i64 (iI x)), AV.s (SV.int IntKind.i64 (iU x)), AV.s (SV.int IntKind.u8 (iS x)), AV.s (SV.str (iP x)), AV.s (SV.int IntKind.i64 (iN x)), AV.s (SV.int IntKind.i64 (iF x)), AV.s (SV.int IntKind.u8 (iW x)), AV.s (SV.str (iC x))] (31 : Nat), AObj.own [AV.s (SV.str (pN p)), AV.s (SV.ro (Con.typ cV (pV p))), AV.s (SV.ro (Con.typ cN (pO p))), AV.s (SV.ro (Con.typ cF (pF p)))] (40 : Nat), AObj.own [AV.s (SV.str (nN n)), AV.s (SV.int IntKind.u8 (nK n)), AV.s (SV.int IntKind.i64 (nI n)), AV.s (SV.int IntKind.i64 (nO n)), AV.s (SV.int IntKind.u8 (nE n)), AV.s (SV.str (nY n)), AV.s (SV.str (nT n)), AV.s (SV.str (nS n)), AV.s (SV.bool (nB n)), AV.s (SV.ro (Con.typ cV (nV n))), AV.s (SV.ro (Con.strs (nZ n)))] (45 : Nat)] (AV.s (SV.bool (actF (nK (el (pO p) (iN x))))))))) (Tree.ret [AObj.own [AV.s (SV.int IntKind.i64 (iI x)), AV.s (SV.int IntKind.i64 (iU x)), AV.s (SV.int IntKind.u8 (iS x)), AV.s (SV.str (iP x)), AV.s (SV.int IntKind.i64 (iN x)), AV.s (SV.int IntKind.i64 (iF x)), AV.s (SV.int IntKind.u8 (iW x)), AV.s (SV.str (iC x))] (31 : Nat), AObj.own [AV.s (SV.str (pN p)), AV.s (SV.ro (Con.typ cV (pV p))), AV.s (SV.ro (Con.typ cN (pO p))), AV.s (SV.ro (Con.typ cF (pF p)))] (40 : Nat), AObj.own [AV.s (SV.str (nN n)), AV.s (SV.int IntKind.u8 (nK n)), AV.s (SV.int IntKind.i64 (nI n)), AV.s (SV.int IntKind.i64 (nO n)), AV.s (SV.int IntKind.u8 (nE n)), AV.s (SV.str (nY n)), AV.s (SV.str (nT n)), AV.s (SV.str (nS n)), AV.s (SV.bool (nB n)), AV.s (SV.ro (Con.typ cV (nV n))), AV.s (SV.ro (Con.strs (nZ n)))] (45 : Nat)] (AV.s (SV.blit false)))) (Tree.ret [AObj.own [AV.s (SV.int IntKind.i64 (iI x)), AV.s (SV.int IntKind.i64 (iU x)), AV.s (SV.int IntKind.u8 (iS x)), AV.s (SV.str (iP x)), AV.s (SV.int IntKind.i64 (iN x)), AV.s (SV.int IntKind.i64 (iF x)), AV.s (SV.int IntKind.u8 (iW x)), AV.s (SV.str (iC x))] (31 : Nat), AObj.own [AV.s (SV.str (pN p)), AV.s (SV.ro (Con.typ cV (pV p))), AV.s (SV.ro (Con.typ cN (pO p))), AV.s (SV.ro (Con.typ cF (pF p)))] (40 : Nat), AObj.own [AV.s (SV.str (nN n)), AV.s (SV.int IntKind.u8 (nK n)), AV.s (SV.int IntKind.i64 (nI n)), AV.s (SV.int IntKind.i64 (nO n)), AV.s (SV.int IntKind.u8 (nE n)), AV.s (SV.str (nY n)), AV.s (SV.str (nT n)), AV.s (SV.str (nS n)), AV.s (SV.bool (nB n)), AV.s (SV.ro (Con.typ cV (nV n))), AV.s (SV.ro (Con.strs (nZ n)))] (45 : Nat)] (AV.s (SV.blit false))))
            (Tree.ite (nK n == (1 : Int)) (Tree.ite (decide (nI n ≥ (0 : Int))) (Tree.need ((0 : Int) ≤ nI n) (Tree.need (nI n < (↑(pO p).length : Int)) (Tree.ite (nK (el (pO p) (nI n)) == (13 : Int)) (Tree.need ((0 : Int) ≤ nI n) (Tree.need (nI n < (↑(pO p).length : Int)) (Tree.ret [AObj.own [AV.s (SV.int IntKind.i64 (iI x)), AV.s (SV.int IntKind.i64 (iU x)), AV.s (SV.int IntKind.u8 (iS x)), AV.s (SV.str (iP x)), AV.s (SV.int IntKind.i64 (iN x)), AV.s (SV.int IntKind.i64 (iF x)), AV.s (SV.int IntKind.u8 (iW x)), AV.s (SV.str (iC x))] (31 : Nat), AObj.own [AV.s (SV.str (pN p)), AV.s (SV.ro (Con.typ cV (pV p))), AV.s (SV.ro (Con.typ cN (pO p))), AV.s (SV.ro (Con.typ cF (pF p)))] (40 : Nat), AObj.own [AV.s (SV.str (nN n)), AV.s (SV.int IntKind.u8 (nK n)), AV.s (SV.int IntKind.i64 (nI n)), AV.s (SV.int IntKind.i64 (nO n)), AV.s (SV.int IntKind.u8 (nE n)), AV.s (SV.str (nY n)), AV.s (SV.str (nT n)), AV.s (SV.str (nS n)), AV.s (SV.bool (nB n)), AV.s (SV.ro (Con.typ cV (nV n))), AV.s (SV.ro (Con.strs (nZ n)))] (45 : Nat)] (AV.s (SV.bool (nI (el (pO p) (nI n)) == iN x)))))) (Tree.ret [AObj.own [AV.s (SV.int IntKind.i64 (iI x)), AV.s (SV.int IntKind.i64 (iU x)), AV.s (SV.int IntKind.u8 (iS x)), AV.s (SV.str (iP x)), AV.s (SV.int IntKind.i64 (iN x)), AV.s (SV.int IntKind.i64 (iF x)), AV.s (SV.int IntKind.u8 (iW x)), AV.s (SV.str (iC x))] (31 : Nat), AObj.own [AV.s (SV.str (pN p)), AV.s (SV.ro (Con.typ cV (pV p))), AV.s (SV.ro (Con.typ cN (pO p))), AV.s (SV.ro (Con.typ cF (pF p)))] (40 : Nat), AObj.own [AV.s (SV.str (nN n)), AV.s (SV.int IntKind.u8 (nK n)), AV.s (SV.int IntKind.i64 (nI n)), AV.s (SV.int IntKind.i64 (nO n)), AV.s (SV.int IntKind.u8 (nE n)), AV.s (SV.str (nY n)), AV.s (SV.str (nT n)), AV.s (SV.str (nS n)), AV.s (SV.bool (nB n)), AV.s (SV.ro (Con.typ cV (nV n))), AV.s (SV.ro (Con.strs (nZ n)))] (45 : Nat)] (AV.s (SV.blit false)))))) (Tree.ret [AObj.own [AV.s (SV.int IntKind.i64 (iI x)), AV.s (SV.int IntKind.i64 (iU x)), AV.s (SV.int IntKind.u8 (iS x)), AV.s (SV.str (iP x)), AV.s (SV.int IntKind.i64 (iN x)), AV.s (SV.int IntKind.i64 (iF x)), AV.s (SV.int IntKind.u8 (iW x)), AV.s (SV.str (iC x))] (31 : Nat), AObj.own [AV.s (SV.str (pN p)), AV.s (SV.ro (Con.typ cV (pV p))), AV.s (SV.ro (Con.typ cN (pO p))), AV.s (SV.ro (Con.typ cF (pF p)))] (40 : Nat), AObj.own [AV.s (SV.str (nN n)), AV.s (SV.int IntKind.u8 (nK n)), AV.s (SV.int IntKind.i64 (nI n)), AV.s (SV.int IntKind.i64 (nO n)), AV.s (SV.int IntKind.u8 (nE n)), AV.s (SV.str (nY n)), AV.s (SV.str (nT n)), AV.s (SV.str (nS n)), AV.s (SV.bool (nB n)), AV.s (SV.ro (Con.typ cV (nV n))), AV.s (SV.ro (Con.strs (nZ n)))] (45 : Nat)] (AV.s (SV.blit false)))) (Tree.ret [AObj.own [AV.s (SV.int IntKind.i64 (iI x)), AV.s (SV.int IntKind.i64 (iU x)), AV.s (SV.int IntKind.u8 (iS x)), AV.s (SV.str (iP x)), AV.s (SV.int IntKind.i64 (iN x)), AV.s (SV.int IntKind.i64 (iF x)), AV.s (SV.int IntKind.u8 (iW x)), AV.s (SV.str (iC x))] (31 : Nat), AObj.own [AV.s (SV.str (pN p)), AV.s (SV.ro (Con.typ cV (pV p))), AV.s (SV.ro (Con.typ cN (pO p))), AV.s (SV.ro (Con.typ cF (pF p)))] (40 : Nat), AObj.own [AV.s (SV.str (nN n)), AV.s (SV.int IntKind.u8 (nK n)), AV.s (SV.int IntKind.i64 (nI n)), AV.s (SV.int IntKind.i64 (nO n)), AV.s (SV.int IntKind.u8 (nE n)), AV.s (SV.str (nY n)), AV.s (SV.str (nT n)), AV.s (SV.str (nS n)), AV.s (SV.bool (nB n)), AV.s (SV.ro (Con.typ cV (nV n))), AV.s (SV.ro (Con.strs (nZ n)))] (45 : Nat)] (AV.s (SV.blit false))))))
        (Tree.ite (iS x == (2 : Int)) (Tree.ite (nK n == (15 : Int)) (Tree.ite (nO n == iN x) (Tree.need ((0 : Int) ≤ iN x) (Tree.need (iN x < (↑(pO p).length : Int)) (Tree.ret [AObj.own [AV.s (SV.int IntKind.i64 (iI x)), AV.s (SV.int IntKind.i64 (iU x)), AV.s (SV.int IntKind.u8 (iS x)), AV.s (SV.str (iP x)), AV.s (SV.int IntKind.i64 (iN x)), AV.s (SV.int IntKind.i64 (iF x)), AV.s (SV.int IntKind.u8 (iW x)), AV.s (SV.str (iC x))] (31 : Nat), AObj.own [AV.s (SV.str (pN p)), AV.s (SV.ro (Con.typ cV (pV p))), AV.s (SV.ro (Con.typ cN (pO p))), AV.s (SV.ro (Con.typ cF (pF p)))] (40 : Nat), AObj.own [AV.s (SV.str (nN n)), AV.s (SV.int IntKind.u8 (nK n)), AV.s (SV.int IntKind.i64 (nI n)), AV.s (SV.int IntKind.i64 (nO n)), AV.s (SV.int IntKind.u8 (nE n)), AV.s (SV.str (nY n)), AV.s (SV.str (nT n)), AV.s (SV.str (nS n)), AV.s (SV.bool (nB n)), AV.s (SV.ro (Con.typ cV (nV n))), AV.s (SV.ro (Con.strs (nZ n)))] (45 : Nat)] (AV.s (SV.bool (actF (nK (el (pO p) (iN x))))))))) (Tree.ret [AObj.own [AV.s (SV.int IntKind.i64 (iI x)), AV.s (SV.int IntKind.i64 (iU x)), AV.s (SV.int IntKind.u8 (iS x)), AV.s (SV.str (iP x)), AV.s (SV.int IntKind.i64 (iN x)), AV.s (SV.int IntKind.i64 (iF x)), AV.s (SV.int IntKind.u8 (iW x)), AV.s (SV.str (iC x))] (31 : Nat), AObj.own [AV.s (SV.str (pN p)), AV.s (SV.ro (Con.typ cV (pV p))), AV.s (SV.ro (Con.typ cN (pO p))), AV.s (SV.ro (Con.typ cF (pF p)))] (40 : Nat), AObj.own [AV.s (SV.str (nN n)), AV.s (SV.int IntKind.u8 (nK n)), AV.s (SV.int IntKind.i64 (nI n)), AV.s (SV.int IntKind.i64 (nO n)), AV.s (SV.int IntKind.u8 (nE n)), AV.s (SV.str (nY n)), AV.s (SV.str (nT n)), AV.s (SV.str (nS n)), AV.s (SV.bool (nB n)), AV.s (SV.ro (Con.typ cV (nV n))), AV.s (SV.ro (Con.strs (nZ n)))] (45 : Nat)] (AV.s (SV.blit false)))) (Tree.ret [AObj.own [AV.s (SV.int IntKind.i64 (iI x)), AV.s (SV.int IntKind.i64 (iU x)), AV.s (SV.int IntKind.u8 (iS x)), AV.s (SV.str (iP x)), AV.s (SV.int IntKind.i64 (iN x)), AV.s (SV.int IntKind.i64 (iF x)), AV.s (SV.int IntKind.u8 (iW x)), AV.s (SV.str (iC x))] (31 : Nat), AObj.own [AV.s (SV.str (pN p)), AV.s (SV.ro (Con.typ cV (pV p))), AV.s (SV.ro (Con.typ cN (pO p))), AV.s (SV.ro (Con.typ cF (pF p)))] (40 : Nat), AObj.own [AV.s (SV.str (nN n)), AV.s (SV.int IntKind.u8 (nK n)), AV.s (SV.int IntKind.i64 (nI n)), AV.s (SV.int IntKind.i64 (nO n)), AV.s (SV.int IntKind.u8 (nE n)), AV.s (SV.str (nY n)), AV.s (SV.str (nT n)), AV.s (SV.str (nS n)), AV.s (SV.bool (nB n)), AV.s (SV.ro (Con.typ cV (nV n))), AV.s (SV.ro (Con.strs (nZ n)))] (45 : Nat)] (AV.s (SV.blit false))))
          (Tree.ite (nK n == (1 : Int)) (Tree.ite (decide (nI n ≥ (0 : Int))) (Tree.need ((0 : Int) ≤ nI n) (Tree.need (nI n < (↑(pO p).length : Int)) (Tree.ite (nK (el (pO p) (nI n)) == (13 : Int)) (Tree.need ((0 : Int) ≤ nI n) (Tree.need (nI n < (↑(pO p).length : Int)) (Tree.ret [AObj.own [AV.s (SV.int IntKind.i64 (iI x)), AV.s (SV.int IntKind.i64 (iU x)), AV.s (SV.int IntKind.u8 (iS x)), AV.s (SV.str (iP x)), AV.s (SV.int IntKind.i64 (iN x)), AV.s (SV.int IntKind.i64 (iF x)), AV.s (SV.int IntKind.u8 (iW x)), AV.s (SV.str (iC x))] (31 : Nat), AObj.own [AV.s (SV.str (pN p)), AV.s (SV.ro (Con.typ cV (pV p))), AV.s (SV.ro (Con.typ cN (pO p))), AV.s (SV.ro (Con.typ cF (pF p)))] (40 : Nat), AObj.own [AV.s (SV.str (nN n)), AV.s (SV.int IntKind.u8 (nK n)), AV.s (SV.int IntKind.i64 (nI n)), AV.s (SV.int IntKind.i64 (nO n)), AV.s (SV.int IntKind.u8 (nE n)), AV.s (SV.str (nY n)), AV.s (SV.str (nT n)), AV.s (SV.str (nS n)), AV.s (SV.bool (nB n)), AV.s (SV.ro (Con.typ cV (nV n))), AV.s (SV.ro (Con.strs (nZ n)))] (45 : Nat)] (AV.s (SV.bool (nI (el (pO p) (nI n)) == iN x)))))) (Tree.ret [AObj.own [AV.s (SV.int IntKind.i64 (iI x)), AV.s (SV.int IntKind.i64 (iU x)), AV.s (SV.int IntKind.u8 (iS x)), AV.s (SV.str (iP x)), AV.s (SV.int IntKind.i64 (iN x)), AV.s (SV.int IntKind.i64 (iF x)), AV.s (SV.int IntKind.u8 (iW x)), AV.s (SV.str (iC x))] (31 : Nat), AObj.own [AV.s (SV.str (pN p)), AV.s (SV.ro (Con.typ cV (pV p))), AV.s (SV.ro (Con.typ cN (pO p))), AV.s (SV.ro (Con.typ cF (pF p)))] (40 : Nat), AObj.own [AV.s (SV.str (nN n)), AV.s (SV.int IntKind.u8 (nK n)), AV.s (SV.int IntKind.i64 (nI n)), AV.s (SV.int IntKind.i64 (nO n)), AV.s (SV.int IntKind.u8 (nE n)), AV.s (SV.str (nY n)), AV.s (SV.str (nT n)), AV.s (SV.str (nS n)), AV.s (SV.bool (nB n)), AV.s (SV.ro (Con.typ cV (nV n))), AV.s (SV.ro (Con.strs (nZ n)))] (45 : Nat)] (AV.s (SV.blit false)))))) (Tree.ret [AObj.own [AV.s (SV.int IntKind.i64 (iI x)), AV.s (SV.int IntKind.i64 (iU x)), AV.s (SV.int IntKind.u8 (iS x)), AV.s (SV.str (iP x)), AV.s (SV.int IntKind.i64 (iN x)), AV.s (SV.int IntKind.i64 (iF x)), AV.s (SV.int IntKind.u8 (iW x)), AV.s (SV.str (iC x))] (31 : Nat), AObj.own [AV.s (SV.str (pN p)), AV.s (SV.ro (Con.typ cV (pV p))), AV.s (SV.ro (Con.typ cN (pO p))), AV.s (SV.ro (Con.typ cF (pF p)))] (40 : Nat), AObj.own [AV.s (SV.str (nN n)), AV.s (SV.int IntKind.u8 (nK n)), AV.s (SV.int IntKind.i64 (nI n)), AV.s (SV.int IntKind.i64 (nO n)), AV.s (SV.int IntKind.u8 (nE n)), AV.s (SV.str (nY n)), AV.s (SV.str (nT n)), AV.s (SV.str (nS n)), AV.s (SV.bool (nB n)), AV.s (SV.ro (Con.typ cV (nV n))), AV.s (SV.ro (Con.strs (nZ n)))] (45 : Nat)] (AV.s (SV.blit false)))) (Tree.ret [AObj.own [AV.s (SV.int IntKind.i64 (iI x)), AV.s (SV.int IntKind.i64 (iU x)), AV.s (SV.int IntKind.u8 (iS x)), AV.s (SV.str (iP x)), AV.s (SV.int IntKind.i64 (iN x)), AV.s (SV.int IntKind.i64 (iF x)), AV.s (SV.int IntKind.u8 (iW x)), AV.s (SV.str (iC x))] (31 : Nat), AObj.own [AV.s (SV.str (pN p)), AV.s (SV.ro (Con.typ cV (pV p))), AV.s (SV.ro (Con.typ cN (pO p))), AV.s (SV.ro (Con.typ cF (pF p)))] (40 : Nat), AObj.own [AV.s (SV.str (nN n)), AV.s (SV.int IntKind.u8 (nK n)), AV.s (SV.int IntKind.i64 (nI n)), AV.s (SV.int IntKind.i64 (nO n)), AV.s (SV.int IntKind.u8 (nE n)), AV.s (SV.str (nY n)), AV.s (SV.str (nT n)), AV.s (SV.str (nS n)), AV.s (SV.bool (nB n)), AV.s (SV.ro (Con.typ cV (nV n))), AV.s (SV.ro (Con.strs (nZ n)))] (45 : Nat)] (AV.s (SV.blit false)))))))) := by kernel_rfl
end Ds

namespace Ds
open Go Go.Sx Go.Proofs Lf
theorem idx_range {α : Type} {p : α → Bool} {l : List α} (h : 0 ≤ idxF p l) : ∃ i : Nat, idxF p l = (i : Int) ∧ ∃ hi : i < l.length, p l[i] = true := by
  rcases idxF_spec (p := p) (l := l) with ⟨e, _⟩ | ⟨i, e, h1, h2, _⟩
  · omega
  · exact ⟨i, e, h1, h2⟩
/-- an item that is found as what it is -/
def Found (is : Is) (x : CL cI) : Prop := ∃ j, hasI is j = true ∧ x = getT is j
theorem found_of {is : Is} {x : CL cI} (h : Found is x) : hasI is (iI x) = true ∧ getT is (iI x) = x := by
  obtain ⟨j, h1, rfl⟩ := h
  have : iI (getT is j) = j := (has_item h1).1
  rw [this]
  exact ⟨h1, rfl⟩
theorem scL_found {is : Is} : ∀ (n : Nat) (b own : Bool) (x : CL cI) (seen : List Int), (b = true → Found is x) → ∀ e ∈ scL is n b own x seen, Found is e.1
  | 0, _, _, _, _, _, e, he => by simp [scL] at he
  | n + 1, b, own, x, seen, hb, e, he => by
    rw [scL_succ] at he
    split at he
    · rename_i h
      rcases List.mem_cons.1 he with rfl | he
      · exact hb h.1
      · refine scL_found n _ _ _ _ (fun hh => ?_) e he
        unfold nxB at hh
        unfold nxX
        split
        · rename_i h2; rw [if_pos h2] at hh; exact ⟨_, hh, rfl⟩
        · rename_i h2; rw [if_neg h2] at hh; exact ⟨_, hh, rfl⟩
    · simp at he
theorem scopes_found {is : Is} {id : Int} {e : CL cI × Bool} (h : e ∈ scopesF is id) : Found is e.1 := by
  unfold scopesF at h
  split at h
  · exact scL_found _ _ _ _ _ (fun hh => ⟨_, hh, rfl⟩) e h
  · simp at h
theorem places_found {ps : Ps} {is : Is} {id : Int} {e : Pl3} (h : e ∈ placesF ps is id) : Found is e.1 ∧ e.2.1 = getP ps (iP e.1) := by
  have bo : ∀ j, hasI is j = true → Found is (boP ps is j).1 ∧ (boP ps is j).2.1 = getP ps (iP (boP ps is j).1) := fun j hj => ⟨⟨j, hj, rfl⟩, rfl⟩
  unfold placesF at h
  split at h
  · rename_i h0
    rw [Bool.and_eq_true] at h0
    rcases List.mem_cons.1 h with rfl | h
    · exact bo _ h0.1
    · obtain ⟨y, hy, h⟩ := List.mem_flatMap.1 h
      unfold plOf at h
      rcases List.mem_append.1 h with h | h
      · split at h
        · simp at h
        · obtain rfl := List.mem_singleton.1 h
          exact ⟨scopes_found hy, rfl⟩
      · split at h
        · rename_i h2
          rw [Bool.and_eq_true] at h2
          obtain rfl := List.mem_singleton.1 h
          exact bo _ h2.1
        · simp at h
  · simp at h
end Ds

namespace Ds
open Go Go.Sx Go.Proofs Lf
variable {nx : Int} {ps : Ps} {is : Is}
theorem mem_idxs {α : Type} {p : α → Bool} {n : Int} : ∀ {l : List α} {s : Int}, n ∈ idxsF p l s → ∃ (i : Nat) (h : i < l.length), n = s + (i : Int) ∧ p l[i] = true
  | [], s, h => by simp [idxsF] at h
  | x :: l, s, h => by
    unfold idxsF at h
    have tl : n ∈ idxsF p l (s + 1) → ∃ (i : Nat) (h : i < (x :: l).length), n = s + (i : Int) ∧ p (x :: l)[i] = true := fun h => by
      obtain ⟨i, hi, e, hp⟩ := mem_idxs h
      exact ⟨i + 1, by simp; omega, by omega, hp⟩
    cases hp : p x with
    | true =>
      simp only [hp, if_true] at h
      rcases List.mem_cons.1 h with e | h
      · exact ⟨0, by simp, by omega, hp⟩
      · exact tl h
    | false =>
      simp only [hp, Bool.false_eq_true, if_false] at h
      exact tl h
theorem idx_el {cs : List CK} {p : CL cs → Bool} {l : List (CL cs)} {n : Int} (h : n ∈ idxsF p l 0) : 0 ≤ n ∧ n < (l.length : Int) ∧ p (el l n) = true := by
  obtain ⟨i, hi, e, hp⟩ := mem_idxs h
  have e : n = (i : Int) := by omega
  subst e
  exact ⟨by omega, by omega, by rw [el_lt hi]; exact hp⟩
theorem choose_fact {ns : List (CL cN)} {l : List Int} {ev : Int} {key : ByteArray} (h : (chooseF ns l ev key).2 = true) :
    (chooseF ns l ev key).1 ∈ l ∧ 0 ≤ (chooseF ns l ev key).1 ∧ (chooseF ns l ev key).1 < (ns.length : Int) ∧ nE (el ns (chooseF ns l ev key).1) = ev ∧ (nY (el ns (chooseF ns l ev key).1) = key ∨ nY (el ns (chooseF ns l ev key).1) = ByteArray.empty) := by
  have key' : ∀ k, 0 ≤ idxF (pCh ns ev k) l → let n := l.getD (idxF (pCh ns ev k) l).toNat 0; n ∈ l ∧ 0 ≤ n ∧ n < (ns.length : Int) ∧ nE (el ns n) = ev ∧ nY (el ns n) = k := fun k hk => by
    obtain ⟨i, e, hi, hp⟩ := idx_range hk
    simp only [e, Int.toNat_natCast, getD_lt hi]
    obtain ⟨g1, g2, g3, g4⟩ := pCh_iff.1 hp
    exact ⟨List.getElem_mem hi, g1, g2, g3, g4⟩
  unfold chooseF at h ⊢
  split
  · rename_i h2
    obtain ⟨a, b, c, d, e⟩ := key' key h2
    exact ⟨a, b, c, d, .inl e⟩
  · split
    · rename_i h2
      obtain ⟨a, b, c, d, e⟩ := key' _ h2
      exact ⟨a, b, c, d, .inr e⟩
    · rename_i h1 h2
      rw [if_neg h1, if_neg h2] at h; cases h
theorem mem_boL {name : ByteArray} {m n : Int} (h : n ∈ boL ps name m) : 0 ≤ m ∧ m < ((pO (getP ps name)).length : Int) ∧ actF (nK (el (pO (getP ps name)) m)) = true ∧ nK (el (pO (getP ps name)) n) = 15 ∧ nO (el (pO (getP ps name)) n) = m := by
  unfold boL at h
  split at h
  · rename_i h0
    obtain ⟨h1, h2⟩ := h0
    have h1 := of_decide_eq_true h1
    obtain ⟨_, _, hp⟩ := idx_el h
    unfold pBo at hp
    rw [Bool.and_eq_true, beq_iff_eq, beq_iff_eq] at hp
    have : ndF ps name m = el (pO (getP ps name)) m := by unfold ndF nodeAt; rw [if_pos h1]
    rw [this] at h2
    exact ⟨h1.1, h1.2, h2, hp.1, hp.2⟩
  · cases h
theorem mem_asL {ns : List (CL cN)} {m n : Int} (h : n ∈ asL ns m) : nK (el ns n) = 1 ∧ 0 ≤ nI (el ns n) ∧ nI (el ns n) < (ns.length : Int) ∧ nK (el ns (nI (el ns n))) = 13 ∧ nI (el ns (nI (el ns n))) = m := by
  unfold asL at h
  obtain ⟨a, ha, rfl⟩ := List.mem_map.1 h
  obtain ⟨ha, hs⟩ := List.mem_filter.1 ha
  obtain ⟨a1, a2, a3⟩ := idx_el ha
  have hs := of_decide_eq_true hs
  have hm : startF ns a ∈ startsF ns a := by unfold startF; exact getD_mem hs
  obtain ⟨_, _, hp⟩ := idx_el hm
  unfold pSo at hp
  rw [Bool.and_eq_true, Bool.and_eq_true, beq_iff_eq, beq_iff_eq] at hp
  unfold pAs at a3
  rw [Bool.and_eq_true, beq_iff_eq, beq_iff_eq] at a3
  rw [hp.1.2]
  exact ⟨hp.1.1, a1, a2, a3.1, a3.2⟩
theorem Trees.reach_up (T : Trees nx is) {a : Int} (h : hasI is a = true) : Reach (esOf is) (gU is a) a := by
  obtain ⟨h1, h2⟩ := get_mem h
  have := up_kid h1 (by rw [h2]; have := (T.up_lt h).1; show gU is a ≠ a; omega)
  rw [h2] at this
  exact this
theorem Trees.scL_reach (T : Trees nx is) {id : Int} : ∀ (n : Nat) (b own : Bool) (x : CL cI) (seen : List Int), (b = true → Found is x ∧ Reach (esOf is) (iI x) id) → ∀ e ∈ scL is n b own x seen, iS e.1 = 1 ∧ Reach (esOf is) (iI e.1) id
  | 0, _, _, _, _, _, e, he => by simp [scL] at he
  | n + 1, b, own, x, seen, hb, e, he => by
    rw [scL_succ] at he
    split at he
    · rename_i h
      obtain ⟨hf, hr⟩ := hb h.1
      obtain ⟨f1, f2⟩ := found_of hf
      have hU : gU is (iI x) = iU x := by unfold gU; exact congrArg iU f2
      have r1 : Reach (esOf is) (iU x) (iI x) := by rw [← hU]; exact T.reach_up f1
      rcases List.mem_cons.1 he with rfl | he
      · exact ⟨h.2.1, hr⟩
      · refine T.scL_reach n _ _ _ _ (fun hh => ?_) e he
        unfold nxB at hh
        unfold nxX
        split
        · rename_i h2
          rw [if_pos h2] at hh
          rw [Bool.and_eq_true] at h2
          refine ⟨⟨_, hh, rfl⟩, ?_⟩
          rw [show iI (getT is (gU is (iU x))) = gU is (iU x) from (has_item hh).1]
          exact (T.reach_up h2.1).trans (r1.trans hr)
        · rename_i h2
          rw [if_neg h2] at hh
          refine ⟨⟨_, hh, rfl⟩, ?_⟩
          rw [show iI (getT is (iU x)) = iU x from (has_item hh).1]
          exact r1.trans hr
    · simp at he
theorem Trees.place (T : Trees nx is) {id : Int} {e : Pl3} (h : e ∈ placesF ps is id) : (iI e.1 = id ∨ Reach (esOf is) (iI e.1) id) ∧ ((iS e.1 = 2 ∧ e.2.2 = boL ps (iP e.1) (iN e.1)) ∨ (iS e.1 = 1 ∧ e.2.2 = asL (pO (getP ps (iP e.1))) (iN e.1))) := by
  unfold placesF at h
  split at h
  · rename_i h0
    rw [Bool.and_eq_true, beq_iff_eq] at h0
    have hsc : ∀ y ∈ scopesF is id, iS y.1 = 1 ∧ Reach (esOf is) (iI y.1) id := fun y hy => by
      unfold scopesF at hy
      rw [if_pos (by rw [h0.1, h0.2]; rfl)] at hy
      refine T.scL_reach _ _ _ _ _ (fun hh => ⟨⟨_, hh, rfl⟩, ?_⟩) y hy
      rw [show iI (getT is (gU is id)) = gU is id from (has_item hh).1]
      exact T.reach_up h0.1
    rcases List.mem_cons.1 h with rfl | h
    · exact ⟨.inl (has_item h0.1).1, .inl ⟨h0.2, rfl⟩⟩
    · obtain ⟨y, hy, h⟩ := List.mem_flatMap.1 h
      obtain ⟨y1, y2⟩ := hsc y hy
      unfold plOf at h
      rcases List.mem_append.1 h with h | h
      · split at h
        · simp at h
        · obtain rfl := List.mem_singleton.1 h
          exact ⟨.inr y2, .inr ⟨y1, rfl⟩⟩
      · split at h
        · rename_i h2
          rw [Bool.and_eq_true, beq_iff_eq] at h2
          obtain rfl := List.mem_singleton.1 h
          obtain ⟨f1, f2⟩ := found_of (scopes_found hy)
          have hU : gU is (iI y.1) = iU y.1 := by unfold gU; exact congrArg iU f2
          refine ⟨.inr ?_, .inl ⟨h2.2, rfl⟩⟩
          rw [show iI (boP ps is (iU y.1)).1 = iU y.1 from (has_item h2.1).1]
          have := T.reach_up f1
          rw [hU] at this
          exact this.trans y2
        · simp at h
  · simp at h
structure Outw (ps : Ps) (is : Is) (id ev : Int) (key : ByteArray) (x : CL cI) (n : Int) : Prop where
  has : hasI is (iI x) = true
  get : getI is (iI x) = x
  n0 : 0 ≤ n
  n1 : n < ((pO (getP ps (iP x))).length : Int)
  below : iI x = id ∨ id ∈ belowF (esOf is) (iI x)
  ev_ : nE (el (pO (getP ps (iP x))) n) = ev
  key_ : nY (el (pO (getP ps (iP x))) n) = key ∨ nY (el (pO (getP ps (iP x))) n) = ByteArray.empty
  kind : (iS x = 2 ∧ 0 ≤ iN x ∧ iN x < ((pO (getP ps (iP x))).length : Int) ∧ actF (nK (el (pO (getP ps (iP x))) (iN x))) = true ∧ nK (el (pO (getP ps (iP x))) n) = 15 ∧ nO (el (pO (getP ps (iP x))) n) = iN x) ∨
    (iS x ≠ 2 ∧ nK (el (pO (getP ps (iP x))) n) = 1 ∧ 0 ≤ nI (el (pO (getP ps (iP x))) n) ∧ nI (el (pO (getP ps (iP x))) n) < ((pO (getP ps (iP x))).length : Int) ∧ nK (el (pO (getP ps (iP x))) (nI (el (pO (getP ps (iP x))) n))) = 13 ∧ nI (el (pO (getP ps (iP x))) (nI (el (pO (getP ps (iP x))) n))) = iN x)
theorem Trees.outw (T : Trees nx is) {id ev : Int} {key : ByteArray} (h : (findF ps is id ev key).isSome = true) : ∃ x, Outw ps is id ev key x (hN (findF ps is id ev key)) ∧ hI (findF ps is id ev key) = iI x := by
  obtain ⟨r, hr⟩ := Option.isSome_iff_exists.1 h
  rw [hr]
  unfold findF at hr
  split at hr
  · obtain ⟨e, he, ht⟩ := List.exists_of_findSome?_eq_some hr
    unfold tryP at ht
    split at ht
    · rename_i hc
      simp only [Option.some.injEq] at ht
      subst ht
      obtain ⟨hf, hp⟩ := places_found he
      obtain ⟨f1, f2⟩ := found_of hf
      obtain ⟨p1, p2⟩ := T.place he
      rw [hp] at hc
      have cf := choose_fact hc
      obtain ⟨c1, c2, c3, c4, c5⟩ := cf
      refine ⟨e.1, ?_, rfl⟩
      show Outw ps is id ev key e.1 (chooseF (pO e.2.1) e.2.2 ev key).1
      rw [hp]
      refine ⟨f1, f2, c2, c3, ?_, c4, c5, ?_⟩
      · rcases p1 with h1 | h1
        · exact .inl h1
        · have := T.reach_lt h1
          exact .inr (mem_below.2 ⟨by omega, h1⟩)
      · rcases p2 with ⟨k1, k2⟩ | ⟨k1, k2⟩
        · rw [k2] at c1
          have hb := mem_boL c1
          rw [k2]
          exact .inl ⟨k1, hb.1, hb.2.1, hb.2.2.1, hb.2.2.2⟩
        · rw [k2] at c1
          have hb := mem_asL c1
          rw [k2]
          exact .inr ⟨by omega, hb⟩
    · cases ht
  · cases hr
variable {Z : Glob}
theorem tabRo_ok (KV : MapVar P Z gKi tKi kindsF) : tabRo.Ok P Z := Tab.Ok.cons l22_ok.sum (Tab.Ok.cons awake_ok.sum (Tab.Ok.cons (sound_ok KV).sum (Tab.Ok.cons below_ok.sumR (Tab.Ok.cons find_ok.sum (Tab.Ok.cons rfind_ok.sum (Tab.Ok.cons def_ok.sumR (Tab.Ok.cons act_ok.sum Tab.Ok.nil)))))))
theorem routeOutward_ok (KV : MapVar P Z gKi tKi kindsF) : FnOk P Z 8 [tSt, tInt, tU8, tStr] [tBool] (fun _ => []) (fun _ => (true, ())) := by
  refine fnOk_of_safe Tryd.func8 (by kernel_rfl) (by kernel_rfl) ?_
  rintro ⟨⟨(ck : Int), (nx : Int), (ps : Ps), (is : Is), (cs : Cs), (ws : Ws), ⟨⟩⟩, (id : Int), (ev : Int), (key : ByteArray), ⟨⟩⟩ _ _ X hX hz
  show Safe P 8 X (Ends [tBool] (true, ())) _
  refine go hz hX (tabRo_ok KV) Tryd.func8 (trRo ck nx ps is cs ws id ev key) ⟨fun _ => ends_eq _ rfl (by kernel_rfl), fun hl => no_and rfl ?_⟩
  obtain ⟨hps, l1, l2, l3, l4⟩ := okN_of hl
  refine ⟨hps, by omega, fun _ => ends_il rfl, fun hs => ⟨fun _ => ends_il rfl, fun hf => ?_⟩⟩
  have S := sound_iff.1 (by simpa using hs)
  obtain ⟨x, O, eI⟩ := S.tr.outw (ps := ps) (id := id) (ev := ev) (key := key) (by simpa using hf)
  rw [eI]
  generalize hN (findF ps is id ev key) = n at O
  have eg : getI is (iI x) = x := O.get
  have eP : gP is (iI x) = iP x := by unfold gP; rw [eg]
  rw [eP]
  have hp : hasP ps (iP x) = true := by
    have hm := (get_mem O.has).1
    rw [eg] at hm
    have := S.ok x hm
    unfold okI at this
    rw [Bool.and_eq_true] at this
    exact this.1
  have o1 := O.n0
  have o2 := O.n1
  have hbl : (belowF (esOf is) (iI x)).length ≤ is.length := by have := below_le (esOf is) (iI x); rw [show (esOf is).length = is.length from List.length_map _] at this; exact this
  refine no_and (by rw [O.has]; rfl) (no_and (by rw [hp]; rfl) (no_and (decide_eq_false (by omega)) (no_and (decide_eq_false (by omega)) ⟨o1, o2, by omega, ?_⟩)))
  have hbe := O.below
  have main : ∀ b l, (b = true ∨ id ∈ l) → l.length ≤ is.length → Safe P 8 X (Ends [tBool] (true, ())) (cRo id ev key x (getP ps (iP x)) (el (pO (getP ps (iP x))) n) b l 0) := by
    intro b l hb hll
    have loop : ∀ (m k : Nat) (b : Bool), k + m = l.length → (b = true ∨ id ∈ l.drop k) → Safe P 8 X (Ends [tBool] (true, ())) (cRo id ev key x (getP ps (iP x)) (el (pO (getP ps (iP x))) n) b l (k : Int)) := by
      intro m
      induction m with
      | zero =>
        intro k b hk hb
        have hb : b = true := by
          rcases hb with h | h
          · exact h
          · rw [List.drop_eq_nil_of_le (by omega)] at h; cases h
        subst hb
        refine go hz hX (tabRo_ok KV) Tryd.func8 (loopRo id ev key x (getP ps (iP x)) (el (pO (getP ps (iP x))) n) true l k) ⟨fun h => absurd (of_decide_eq_true h) (by omega), fun _ => no_and rfl (no_and (by rw [O.ev_, bne_eq_false_iff_eq]) ?_)⟩
        have key_ := O.key_
        have kind := O.kind
        clear hbe hb
        generalize el (pO (getP ps (iP x))) n = nd at key_ kind
        have tail : Tree.Holds (Ends [tBool] (true, ())) (Safe P 8 X (Ends [tBool] (true, ()))) (Tree.ret [] (.s (.bool true))) := ends_eq _ rfl (by kernel_rfl)
        refine ⟨fun h1 => no_and ?_ ?_, fun _ => ?_⟩
        · have h1 : nY nd ≠ key := by simpa using h1
          rw [key_.resolve_left h1]; simp
        all_goals
          rcases kind with ⟨k0, k1, k2, k3, k4, k5⟩ | ⟨k0, k1, k2, k3, k4, k5⟩
          · exact yes_and (beq_iff_eq.2 k0) (yes_and (beq_iff_eq.2 k4) (yes_and (beq_iff_eq.2 k5) ⟨k1, k2, ends_is k3.symm⟩))
          · exact no_and (beq_eq_false_iff_ne.2 k0) (yes_and (beq_iff_eq.2 k1) (yes_and (decide_eq_true k2) ⟨k2, k3, yes_and (beq_iff_eq.2 k4) ⟨k2, k3, ends_is (by rw [k5]; simp)⟩⟩))
      | succ m im =>
        intro k b hk hb
        refine go hz hX (tabRo_ok KV) Tryd.func8 (loopRo id ev key x (getP ps (iP x)) (el (pO (getP ps (iP x))) n) b l k) (yes_and (decide_eq_true (by omega)) ?_)
        rw [Int.toNat_natCast]
        cases b with
        | true => exact yes_and rfl ⟨⟨by omega, by omega⟩, im (k + 1) true (by omega) (.inl rfl)⟩
        | false =>
          refine no_and rfl ⟨by omega, by omega, ⟨by omega, by omega⟩, im (k + 1) _ (by omega) ?_⟩
          have hw : id ∈ l.drop k := hb.resolve_left (by simp)
          rw [List.drop_eq_getElem_cons (by omega)] at hw
          rcases List.mem_cons.1 hw with h | h
          · exact .inl (by rw [getD_lt (show k < l.length by omega), ← h]; simp)
          · exact .inr h
    exact loop l.length 0 b (Nat.zero_add _) (by rcases hb with h | h; exact .inl h; exact .inr h)
  have eGI : gI is (iI x) = iI x := by unfold gI; rw [eg]
  have h := main (iI x == id) (belowF (esOf is) (iI x)) (by rcases hbe with h | h; exact .inl (beq_iff_eq.2 h); exact .inr h) hbl
  have ex : ∀ y : CL cI, y = x → y = x := fun _ h => h
  refine frzn_safe hX 3 ⟨[], [1, 2, 3, 11, 13, 15, 16, 17, 18], 0, []⟩ (c := cRo id ev key (getI is (iI x)) (getP ps (iP x)) (el (pO (getP ps (iP x))) n) (iI x == id) (belowF (esOf is) (iI x)) 0) (by rw [← eP]; kernel_rfl) ?_
  rw [eg]
  exact h
end Ds

/-! A package variable that is a map of rows of bytes: from what a row lists to how it is read. -/
namespace Go.Sx
open Go Go.RowKit Go.ChangeShapes Go.WideShapes Go.ChangeAt

/-- All that stood there stands. -/
def Glob.all (W : World) : Glob where
  bs := List.range W.heap.size
  ok w := ∀ b, b < W.heap.size → w.heap[b]? = W.heap[b]?
  low w h b hb := by
    have hb := List.mem_range.1 hb
    have := h b hb
    rw [Array.getElem?_eq_getElem hb] at this
    exact (Array.getElem?_eq_some_iff.1 this).1
  keep w w' h hk b hb := (hk b (List.mem_range.2 hb)).trans (h b hb)

theorem Glob.all_self (W : World) : (Glob.all W).ok W := fun _ _ => rfl

theorem all_cell {W w : World} (h : (Glob.all W).ok w) {a : Addr} {v : Value} (hc : W.cell? a = some v) : w.cell? a = some v := by
  have hlt : a.block < W.heap.size := by
    rcases Nat.lt_or_ge a.block W.heap.size with h2 | h2
    · exact h2
    · simp [World.cell?, Array.getElem?_eq_none h2] at hc
  unfold World.cell? at hc ⊢
  rw [h a.block hlt]
  exact hc

/-- The map as a row lists it. -/
def rowsData {H : Type} (rows : List (Int × List Int)) : DataW H := .map (rows.map fun x => (.int .u8 x.1, .slice (lits .u8 x.2) []))

def foundAt (es : List MapEntry) (n : Int) : Value := match Instr.findNow (.int .u8) (.int .u8 n) es 0 with
  | some (some (_, v)) => v
  | _ => .slice none 0 0

theorem find_u8 {l : List MapEntry} (hks : ∀ x ∈ l, MapKept.IsKey (.int .u8) x.key) (n : Int) :
    (Instr.findNow (.int .u8) (.int .u8 n) l 0 = some none ∧ ∀ x ∈ l, x.key ≠ .int .u8 n) ∨ ∃ j e, Instr.findNow (.int .u8) (.int .u8 n) l 0 = some (some (j, e.val)) ∧ e ∈ l ∧ e.key = .int .u8 n := by
  rcases MapKept.findNow_spec (d := .int .u8) (k := .int .u8 n) rfl l 0 hks with h | ⟨j, e, h1, h2, h3⟩
  · exact .inl h
  · exact .inr ⟨_, e, h1, List.mem_of_getElem? h2, h3⟩

section
variable {P : Program} {W : World} {name : String} {rows : List (Int × List Int)} {rest : List (String × DataW Unit)} {g : Nat} {t kt et e1 : TypeId} {row : Int → List Int}

theorem lits_inj {H : Type} {k : IntKind} : ∀ {xs ys : List Int}, (lits k xs : List (DataW H)) = lits k ys → xs = ys
  | [], [], _ => rfl
  | [], _ :: _, h => by simp [lits] at h
  | _ :: _, [], h => by simp [lits] at h
  | x :: xs, y :: ys, h => by
    simp only [lits, List.map_cons, List.cons.injEq, DataW.lit.injEq, Lit.int.injEq, true_and] at h
    rw [h.1, lits_inj (H := H) (k := k) (show lits k xs = lits k ys from h.2)]

/-- A row without spare reads as its integers. -/
theorem row_den {H : Type} {enc : TypeId × Value → H} {base : Nat} {sp : Nat → Bool} {held : Bool} {t e : TypeId} {fuel : Nat} {v : Value} {zs : List Int} {p : List MemPlace} (ht : P.underlying t = some (.slice e)) (he : P.underlying e = some (.int .u8)) (hc : P.cellsOf e = 1)
    (hf : v.formed P t = true) (h : DataW.trod enc P W base sp held fuel t v.cells.toList = some (.slice (lits .u8 zs) [], p)) {w : World} (hz : (Glob.all W).ok w) : v.oneCell' = true ∧ DenS (fun _ => False) w (.ro (.ints .u8 zs)) v := by
  rcases open_ints ht he hc h with ⟨_, hx⟩ | ⟨a, len, cap, zs', hcs, _, hl, hm, hlen, hx, hcell, _⟩
  · cases hx
  · simp only [Prod.mk.injEq, DataW.slice.injEq] at hx
    obtain ⟨⟨hx1, hx2⟩, _⟩ := hx
    have hd : zs'.drop len = [] := lits_inj (H := H) (k := .u8) (by rw [← hx2]; rfl)
    have e1 := lits_inj hx1
    have hle : zs'.length ≤ len := by simpa using hd
    have h2 : len ≤ zs'.length := by rw [hlen]; split <;> omega
    rw [List.take_of_length_le hle] at e1
    subst e1
    have hlz : zs.length = len := by omega
    have hv : v = .slice (some a) len cap := by
      cases v <;> first
        | (simp only [Value.cells, List.cons.injEq, and_true] at hcs; exact hcs)
        | (simp [Value.formed, ht] at hf)
    subst hv
    refine ⟨rfl, ?_⟩
    rcases Nat.eq_zero_or_pos len with h0 | h0
    · have hz0 : zs = [] := List.length_eq_zero_iff.1 (by omega)
      subst hz0
      subst h0
      exact .ro (.ints .u8 []) (some a) cap (fun _ _ => undef) 0 0 (Nat.zero_le _) hm (fun h => by simp [Con.n] at h) (fun i j hi hj => by simp [Con.n] at hi) (fun i j hi hj => by simp [Con.n] at hi)
    · obtain ⟨b, o, rfl, hc⟩ := ints_at hcell (by omega)
      have hn : (Con.ints .u8 zs).n = len := hlz
      have key := DenS.ro (O := fun _ => False) (w := w) (.ints .u8 zs) (some ⟨b, o, none⟩) cap (fun j _ => .int .u8 (zs.getD j 0)) b o (by omega) hm (fun _ => ⟨rfl, fun h => h, ?_⟩) (fun j l hj hl' => ?_) (fun j l hj hl' => ?_)
      · rw [hn] at key
        exact key
      · have h1 := all_cell hz (hc 0 (by omega))
        rcases Nat.lt_or_ge b w.heap.size with h2 | h2
        · exact h2
        · simp [World.cell?, Array.getElem?_eq_none h2] at h1
      · rw [hn] at hj
        simp only [Con.size] at hl' ⊢
        obtain rfl : l = 0 := by omega
        rw [Nat.mul_one, Nat.add_zero]
        exact all_cell hz (hc j (by omega))
      · exact .int _ _

/-- From the list to the variable. -/
theorem mapVar_of (hg : P.globalNamed name = some g) (hty : (P.globals[g]?).map (·.type) = some t) (ht : P.underlying t = some (.map kt et)) (hk : P.underlying kt = some (.int .u8)) (he : P.underlying et = some (.slice e1)) (h1 : P.underlying e1 = some (.int .u8)) (hc1 : P.cellsOf e1 = 1)
    (hzv : (P.info? et).bind (·.zero) = some (.slice none 0 0)) (hrow : ∀ x ∈ rows, row x.1 = x.2) (hno : ∀ n, (∀ x ∈ rows, x.1 ≠ n) → row n = [])
    (h : laidMet P ((name, rowsData rows) :: rest) W) : Nonempty (MapVar P (Glob.all W) g t row) := by
  obtain ⟨ps, ⟨g', t', cs, fuel, p, q, hg', ht', hvar, hd, _, _⟩, _⟩ := h
  obtain rfl := Option.some.inj (hg.symm.trans hg')
  obtain rfl := Option.some.inj (hty.symm.trans ht')
  rcases WideElems.open_map ht hd with ⟨_, hx⟩ | ⟨b, es, clock, n, rfl, hcs, hb, _, F, hx⟩
  · cases hx
  · simp only [Prod.mk.injEq, rowsData, DataW.map.injEq] at hx
    obtain ⟨hx, _⟩ := hx
    have hperm := sorted_perm (es.toList.map (WideElems.rg P kt (WideElems.elemAt (fun _ => ()) P W 0 (fun _ => true) false n et)))
    rw [← hx] at hperm
    have hkey : ∀ x ∈ es.toList, ∃ m, x.key = .int .u8 m ∧ ∃ zs q, (m, zs) ∈ rows ∧ x.val.formed P et = true ∧ DataW.trod (fun _ => ()) P W 0 (fun _ => true) false n et x.val.cells.toList = some (.slice (lits .u8 zs) [], q) := by
      intro x hxm
      obtain ⟨y, hy⟩ := F.reads x hxm
      have hk1 := WideElems.rd_key hy
      obtain ⟨z, hz1, hz2⟩ := WideElems.rd_val hy
      have hm := hperm.mem_iff.2 (List.mem_map_of_mem (f := WideElems.rg P kt (WideElems.elemAt (fun _ => ()) P W 0 (fun _ => true) false n et)) hxm)
      rw [WideElems.rg_of hy] at hm
      obtain ⟨r, hr, e⟩ := List.mem_map.1 hm
      subst e
      simp only at hk1 hz2
      have hk2 : mapKey P kt x.key = some (.int .u8 r.1) := by unfold Go.keyOf at hk1; rw [hk] at hk1; exact hk1
      have hk3 : x.key = .int .u8 r.1 := by
        generalize x.key = u at hk2
        unfold mapKey at hk2
        rw [hk] at hk2
        cases u <;> simp at hk2
        obtain ⟨⟨rfl, _⟩, rfl⟩ := hk2
        rfl
      unfold WideElems.elemAt at hz1
      split at hz1
      · rename_i hf
        refine ⟨r.1, hk3, r.2, z.2, hr, hf, ?_⟩
        rw [hz1, hz2]
      · cases hz1
    have hback : ∀ x ∈ rows, ∃ y ∈ es.toList, y.key = .int .u8 x.1 := by
      intro x hx1
      have hm := hperm.mem_iff.1 (List.mem_map_of_mem (f := fun x : Int × List Int => ((Lit.int .u8 x.1, DataW.slice (lits .u8 x.2) []) : Lit × DataW Unit)) hx1)
      obtain ⟨y, hy, e⟩ := List.mem_map.1 hm
      obtain ⟨z, hz⟩ := F.reads y hy
      rw [WideElems.rg_of hz] at e
      subst e
      have hk1 := WideElems.rd_key hz
      simp only at hk1
      have hk2 : mapKey P kt y.key = some (.int .u8 x.1) := by unfold Go.keyOf at hk1; rw [hk] at hk1; exact hk1
      refine ⟨y, hy, ?_⟩
      generalize y.key = u at hk2
      unfold mapKey at hk2
      rw [hk] at hk2
      cases u <;> simp at hk2
      obtain ⟨⟨rfl, _⟩, rfl⟩ := hk2
      rfl
    have hks : ∀ x ∈ es.toList, MapKept.IsKey (.int .u8) x.key := fun x hx => by
      obtain ⟨m, h1, _⟩ := hkey x hx
      rw [h1]; rfl
    have hblt : b < W.heap.size := (Array.getElem?_eq_some_iff.1 hb).1
    have hgc : W.cell? ⟨g, 0, none⟩ = some (.map (some b)) := by
      rw [World.var?_cell hg hvar 0, ← Array.getElem?_toList, hcs]; rfl
    refine ⟨⟨.map (some b), foundAt es.toList, rfl, fun m => ?_, fun o e w ho hev hz => ?_, fun w m hz => ?_, fun w m hz => ?_⟩⟩
    · unfold foundAt
      rcases find_u8 hks m with ⟨h2, _⟩ | ⟨j, x, h2, h3, _⟩
      · rw [h2]; rfl
      · rw [h2]
        obtain ⟨_, _, zs, q, _, h5, h6⟩ := hkey x h3
        exact (row_den he h1 hc1 h5 h6 (Glob.all_self W)).1
    · unfold execOp
      rw [ho]
      have := run_loadVar_one (P := P) (w := w) (t := t) (b := g) (off := 0) (v := .map (some b)) (by unfold aggT; rw [ht]) (all_cell hz hgc)
      simp only [hev, Sem.run_bind, this, Result.andThen_ok, Sem.run_pure]
    · have hb' : w.heap[b]? = some (.map es clock) := (hz b hblt).trans hb
      have hzero : (zeroValue et).run P w = .ok (.slice none 0 0) w := by
        obtain ⟨i, h1, h2⟩ := Option.bind_eq_some_iff.1 hzv
        simp [zeroValue, typeInfo, h1, h2]
      have hc := MapKept.run_checkKey (P := P) (w := w) hk (k := .int .u8 m) rfl es.isEmpty 9999
      unfold foundAt
      rcases find_u8 hks m with ⟨h2, _⟩ | ⟨j, x, h2, h3, _⟩
      · have h4 := MapKept.run_findKey (P := P) (w := w) hk h2
        simp [Instr.lookup, run_underlying ht, MapKept.run_getObj_map hb', hc, h4, h2, hzero, Result.andThen]
      · have h4 := MapKept.run_findKey (P := P) (w := w) hk h2
        simp [Instr.lookup, run_underlying ht, MapKept.run_getObj_map hb', hc, h4, h2, Result.andThen]
    · unfold foundAt
      rcases find_u8 hks m with ⟨h2, h3⟩ | ⟨j, x, h2, h3, h4⟩
      · rw [h2, hno m fun x hx e => ?_]
        · exact .ro (.ints .u8 []) none 0 (fun _ _ => undef) 0 0 (Nat.zero_le _) (Nat.zero_le _) (fun h => by simp [Con.n] at h) (fun i j hi hj => by simp [Con.n] at hi) (fun i j hi hj => by simp [Con.n] at hi)
        · obtain ⟨y, hy, e2⟩ := hback x hx
          exact h3 y hy (by rw [e2, e])
      · rw [h2]
        obtain ⟨m', h8, zs, q, h9, h5, h6⟩ := hkey x h3
        rw [h4] at h8
        cases h8
        have := hrow _ h9
        simp only at this
        rw [this]
        exact (row_den he h1 hc1 h5 h6 hz).2
end
end Go.Sx
