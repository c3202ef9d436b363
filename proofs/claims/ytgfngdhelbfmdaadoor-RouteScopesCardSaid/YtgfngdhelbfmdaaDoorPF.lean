/- Lemmas: T7, T8, X1, X2, X3, X4, SxMapVar. -/
import Derived.WideKeyElems2
import Derived.ChangeBears2
import Derived.LaidLaws
import Derived.Test.YtgfngdhelbfmdaaDoorPE

namespace Ds
open Go Go.Sx Go.Proofs Lf
theorem frzn_safe {X : Ctx} {K : List AObj → AV → Prop} {f : FuncId} {tmps : List AV} {L : List AObj} {todo : List Item} {stk : Stk} (hX : ∀ id, X.H id = none) (id : Nat) (N : Norm) {c : Cfg}
    (e : N.run ⟨(frzSt ⟨tmps, L⟩ id).tmps, (frzSt ⟨tmps, L⟩ id).H, todo, stk⟩ = some c) (h : Safe P f X K c) : Safe P f X K ⟨tmps, L, todo, stk⟩ :=
  frz_safe id rfl (Norm.safe (fun i _ => hX i) e h)
variable {nx : Int} {ps : Ps} {is is' : Is}
theorem Trees.kid (T : Trees nx is) {a b : Int} (h : b ∈ kidsF (esOf is) a) : a < b ∧ hasI is b = true ∧ gU is b = a := by
  obtain ⟨h1, h2⟩ := mem_kids.1 h
  obtain ⟨x, hx, e⟩ := List.mem_map.1 h1
  simp only [Prod.mk.injEq] at e
  obtain ⟨e1, e2⟩ := e
  obtain ⟨g1, g2⟩ := T.get hx
  rw [e1] at g1 g2
  have hU : gU is b = a := by unfold gU; rw [g2]; exact e2
  exact ⟨by rw [← hU]; exact (T.up_lt g1).1, g1, hU⟩
theorem Trees.reach_lt (T : Trees nx is) {a b : Int} (h : Reach (esOf is) a b) : a < b := by
  induction h with
  | kid h => exact (T.kid h).1
  | more _ h ih => have := (T.kid h).1; omega
theorem Trees.parent (T : Trees nx is) {a b c : Int} (h1 : c ∈ kidsF (esOf is) a) (h2 : c ∈ kidsF (esOf is) b) : a = b := by rw [← (T.kid h1).2.2, (T.kid h2).2.2]
theorem Trees.back (T : Trees nx is) {a b c : Int} (h : Reach (esOf is) a c) (hk : c ∈ kidsF (esOf is) b) : a = b ∨ Reach (esOf is) a b := by
  cases h with
  | kid h => exact .inl (T.parent h hk)
  | more h1 h2 => exact .inr (by rw [← T.parent h2 hk]; exact h1)
theorem Trees.chain (T : Trees nx is) {a b x : Int} (h : Reach (esOf is) a x) : Reach (esOf is) b x → a = b ∨ Reach (esOf is) a b ∨ Reach (esOf is) b a := by
  induction h with
  | kid h =>
    intro h2
    rcases T.back h2 h with e | e
    · exact .inl e.symm
    · exact .inr (.inr e)
  | more h1 h ih =>
    intro h2
    rcases T.back h2 h with e | e
    · subst e; exact .inr (.inl h1)
    · exact ih e
theorem Snd.kind (S : Snd nx ps is) {x : CL cI} (hx : x ∈ is) : (iS x = 1 ∧ scopeF ps is x = true) ∨ (iS x = 2 ∧ tokenF ps is x = true) := by
  have h := S.ok x hx
  unfold okI at h
  rw [Bool.and_eq_true] at h
  by_cases e1 : iS x = 1
  · rw [if_pos e1] at h; exact .inl ⟨e1, h.2⟩
  · rw [if_neg e1] at h
    by_cases e2 : iS x = 2
    · rw [if_pos e2] at h; exact .inr ⟨e2, h.2⟩
    · rw [if_neg e2] at h; cases h.2
theorem gS_has {id : Int} (h : gS is id = 1) : hasI is id = true := by
  cases h0 : hasI is id with
  | true => rfl
  | false => unfold gS at h; rw [get_no h0] at h; cases h
theorem Snd.tok_up (S : Snd nx ps is) {x : CL cI} (h : tokenF ps is x = true) : gS is (iU x) = 1 ∧ gP is (iU x) = iP x := by
  unfold tokenF at h
  simp only [Bool.and_eq_true, beq_iff_eq, decide_eq_true_iff] at h
  exact ⟨h.1.1.1.1.1.1, h.1.1.1.1.1.2⟩
theorem Snd.scope_deep (S : Snd nx ps is) {x : CL cI} (hx : x ∈ is) (h : iS x = 1) : depthF is (iI x) ≤ 12 := by
  rcases S.kind hx with ⟨_, e⟩ | ⟨e, _⟩
  · unfold scopeF at e
    simp only [Bool.and_eq_true, Bool.not_eq_true', decide_eq_false_iff_not] at e
    have := e.1.1.2
    omega
  · omega
theorem Snd.deep (S : Snd nx ps is) {x : CL cI} (hx : x ∈ is) : depthF is (iI x) = (if iS x = 1 then 1 else 0) + (if iU x = 0 then 0 else depthF is (iU x)) ∧ depthF is (iI x) ≤ 12 := by
  obtain ⟨g1, g2⟩ := S.tr.get hx
  have hd := S.tr.depth g1
  unfold gS gU at hd
  rw [g2] at hd
  refine ⟨?_, ?_⟩
  · rw [hd]
    congr 1
    split
    · rename_i h; rw [h]; exact depth_no (S.tr.no0 (Int.le_refl 0))
    · rfl
  · rcases S.kind hx with ⟨e, _⟩ | ⟨e, h⟩
    · exact S.scope_deep hx e
    · have hu := (S.tok_up h).1
      have hh := gS_has hu
      obtain ⟨h1, h2⟩ := get_mem hh
      have := S.scope_deep h1 hu
      rw [h2] at this
      rw [if_neg (by omega)] at hd
      omega
end Ds

namespace Ds
open Go Go.Sx Go.Proofs Lf
variable {Z : Glob}
end Ds

namespace Ds
open Go Go.Sx Go.Proofs Lf
/-! Scopes -/
abbrev inSx : List FuncId := [59, fS1]
def tabSx : Tab := [(19, sumFi)]
def nsSx : List (Nat × Norm) := [((fS1 + 1) * 100000 + 5, ⟨[], [0, 1, 5, 6, 7, 8, 88, 101, 102], 0, [(4, 0, false, .ints .i64 [], 3)]⟩)]
theorem trSx (ck nx : Int) (ps : Ps) (is : Is) (cs : Cs) (ws : Ws) (id : Int) : run P tabSx.sum Tryd.f29 nsSx (start Tryd.f29 [avSt ck nx ps is cs ws, avI id] []) inSx =
  Tree.ite (!hasI is id) (Tree.ret [AObj.own [AV.s (SV.int IntKind.i64 ck), AV.s (SV.int IntKind.i64 nx), AV.s (SV.ro (Con.typ cP ps)), AV.s (SV.ro (Con.typ cI is)), AV.s (SV.ro (Con.typ cC cs)), AV.s (SV.ro (Con.typ cW ws))] (27 : Nat), AObj.own [AV.emp] (48 : Nat), AObj.own [AV.s (SV.int IntKind.i64 ck), AV.s (SV.int IntKind.i64 nx), AV.s (SV.ro (Con.typ cP ps)), AV.s (SV.ro (Con.typ cI is)), AV.s (SV.ro (Con.typ cC cs)), AV.s (SV.ro (Con.typ cW ws))] (27 : Nat), AObj.own [AV.s (SV.int IntKind.i64 id)] (3 : Nat), AObj.dead, AObj.dead, AObj.own [AV.s (SV.int IntKind.i64 (gI is id)), AV.s (SV.int IntKind.i64 (gU is id)), AV.s (SV.int IntKind.u8 (gS is id)), AV.s (SV.str (gP is id)), AV.s (SV.int IntKind.i64 (gN is id)), AV.s (SV.int IntKind.i64 (gF is id)), AV.s (SV.int IntKind.u8 (gW is id)), AV.s (SV.str (gC is id))] (31 : Nat)] AV.emp) (Tree.ite (gS is id != (2 : Int)) (Tree.ret [AObj.own [AV.s (SV.int IntKind.i64 ck), AV.s (SV.int IntKind.i64 nx), AV.s (SV.ro (Con.typ cP ps)), AV.s (SV.ro (Con.typ cI is)), AV.s (SV.ro (Con.typ cC cs)), AV.s (SV.ro (Con.typ cW ws))] (27 : Nat), AObj.own [AV.emp] (48 : Nat), AObj.own [AV.s (SV.int IntKind.i64 ck), AV.s (SV.int IntKind.i64 nx), AV.s (SV.ro (Con.typ cP ps)), AV.s (SV.ro (Con.typ cI is)), AV.s (SV.ro (Con.typ cC cs)), AV.s (SV.ro (Con.typ cW ws))] (27 : Nat), AObj.own [AV.s (SV.int IntKind.i64 id)] (3 : Nat), AObj.dead, AObj.dead, AObj.own [AV.s (SV.int IntKind.i64 (gI is id)), AV.s (SV.int IntKind.i64 (gU is id)), AV.s (SV.int IntKind.u8 (gS is id)), AV.s (SV.str (gP is id)), AV.s (SV.int IntKind.i64 (gN is id)), AV.s (SV.int IntKind.i64 (gF is id)), AV.s (SV.int IntKind.u8 (gW is id)), AV.s (SV.str (gC is id))] (31 : Nat)] AV.emp) (Tree.at (Cfg.mk (sl (103 : Nat) [((0 : Nat), AV.tag (0 : Nat)), ((1 : Nat), AV.ptr (1 : Nat) (0 : Nat)), ((5 : Nat), AV.s (SV.bool (hasI is (gU is id)))), ((6 : Nat), AV.mapv (2 : Nat)), ((7 : Nat), AV.ptr (3 : Nat) (0 : Nat)), ((8 : Nat), AV.s (SV.bool false)), ((88 : Nat), AV.ptr (4 : Nat) (0 : Nat)), ((101 : Nat), AV.tag (5 : Nat)), ((102 : Nat), AV.tag (0 : Nat))]) [AObj.dead, AObj.own [AV.s (SV.int IntKind.i64 ck), AV.s (SV.int IntKind.i64 nx), AV.s (SV.ro (Con.typ cP ps)), AV.s (SV.ro (Con.typ cI is)), AV.s (SV.ro (Con.typ cC cs)), AV.s (SV.ro (Con.typ cW ws))] (27 : Nat), AObj.map (CK.int IntKind.i64) [], AObj.own [AV.s (SV.int IntKind.i64 (gI is (gU is id))), AV.s (SV.int IntKind.i64 (gU is (gU is id))), AV.s (SV.int IntKind.u8 (gS is (gU is id))), AV.s (SV.str (gP is (gU is id))), AV.s (SV.int IntKind.i64 (gN is (gU is id))), AV.s (SV.int IntKind.i64 (gF is (gU is id))), AV.s (SV.int IntKind.u8 (gW is (gU is id))), AV.s (SV.str (gC is (gU is id)))] (31 : Nat), AObj.own [AV.vec (6 : Nat)] (48 : Nat), AObj.dead, AObj.vec (Con.ints IntKind.i64 []) (3 : Nat)] (hd Tryd.f83 (5 : Nat)) (Stk.mk (some (83 : Nat)) false (0 : Nat) [inRange Tryd.f29 none (4 : Nat) (1 : Nat)] (0 : Nat))))) := by kernel_rfl
noncomputable def cSx (ck nx : Int) (ps : Ps) (is : Is) (cs : Cs) (ws : Ws) (b own : Bool) (x : CL cI) (m : Mp) (out : List Int) : Cfg := ⟨sl 103 [(0, .tag 0), (1, .ptr 1 0), (5, .s (.bool b)), (6, .mapv 2), (7, .ptr 3 0), (8, .s (.bool own)), (88, .ptr 4 0), (101, .tag 5), (102, .tag 0)], [.dead, obSt ck nx ps is cs ws, .map kM m, obIt x, .own [.vec 6] 48, .dead, .vec (.ints .i64 out) 3], hd Tryd.f83 5, ⟨some fS1, false, 0, [inRange Tryd.f29 none 4 1], 0⟩⟩
theorem loopSx (ck nx : Int) (ps : Ps) (is : Is) (cs : Cs) (ws : Ws) (b own : Bool) (x : CL cI) (m : Mp) (out : List Int) : run P tabSx.sum Tryd.f29 nsSx (cSx ck nx ps is cs ws b own x m out) inSx =
  Tree.ite b
  (Tree.ite (iS x == (1 : Int))
    (Tree.ite ((mget m (iI x)).getD (CK.int IntKind.i64).d == (0 : Int))
      (Tree.need (inI64 ((mget m (iI x)).getD (CK.int IntKind.i64).d + (1 : Int)))
        (Tree.need ((out.length + (1 : Nat)) * (8 : Nat) ≤ (140737488355328 : Nat))
          (Tree.ite (hasI is (iU x)) (Tree.ite (hasI is (iU x)) (Tree.ite (gS is (iU x) == (2 : Int)) (Tree.at (Cfg.mk (sl (103 : Nat) [((0 : Nat), AV.tag (0 : Nat)), ((1 : Nat), AV.ptr (1 : Nat) (0 : Nat)), ((5 : Nat), AV.s (SV.bool (hasI is (gU is (iU x))))), ((6 : Nat), AV.mapv (2 : Nat)), ((7 : Nat), AV.ptr (3 : Nat) (0 : Nat)), ((8 : Nat), AV.s (SV.bool (gS is (iU x) != (2 : Int)))), ((88 : Nat), AV.ptr (4 : Nat) (0 : Nat)), ((101 : Nat), AV.tag (5 : Nat)), ((102 : Nat), AV.tag (0 : Nat))]) [AObj.dead, AObj.own [AV.s (SV.int IntKind.i64 ck), AV.s (SV.int IntKind.i64 nx), AV.s (SV.ro (Con.typ cP ps)), AV.s (SV.ro (Con.typ cI is)), AV.s (SV.ro (Con.typ cC cs)), AV.s (SV.ro (Con.typ cW ws))] (27 : Nat), AObj.map (CK.int IntKind.i64) (mput m (iI x) ((mget m (iI x)).getD (CK.int IntKind.i64).d + (1 : Int))), AObj.own [AV.s (SV.int IntKind.i64 (gI is (gU is (iU x)))), AV.s (SV.int IntKind.i64 (gU is (gU is (iU x)))), AV.s (SV.int IntKind.u8 (gS is (gU is (iU x)))), AV.s (SV.str (gP is (gU is (iU x)))), AV.s (SV.int IntKind.i64 (gN is (gU is (iU x)))), AV.s (SV.int IntKind.i64 (gF is (gU is (iU x)))), AV.s (SV.int IntKind.u8 (gW is (gU is (iU x)))), AV.s (SV.str (gC is (gU is (iU x))))] (31 : Nat), AObj.own [AV.vec (6 : Nat)] (48 : Nat), AObj.dead, AObj.vec (Con.ints IntKind.i64 (out ++ [iI x])) (3 : Nat)] (hd Tryd.f83 (5 : Nat)) (Stk.mk (some (83 : Nat)) false (0 : Nat) [inRange Tryd.f29 none (4 : Nat) (1 : Nat)] (0 : Nat)))) (Tree.at (Cfg.mk (sl (103 : Nat) [((0 : Nat), AV.tag (0 : Nat)), ((1 : Nat), AV.ptr (1 : Nat) (0 : Nat)), ((5 : Nat), AV.s (SV.bool (hasI is (iU x)))), ((6 : Nat), AV.mapv (2 : Nat)), ((7 : Nat), AV.ptr (3 : Nat) (0 : Nat)), ((8 : Nat), AV.s (SV.bool (gS is (iU x) != (2 : Int)))), ((88 : Nat), AV.ptr (4 : Nat) (0 : Nat)), ((101 : Nat), AV.tag (5 : Nat)), ((102 : Nat), AV.tag (0 : Nat))]) [AObj.dead, AObj.own [AV.s (SV.int IntKind.i64 ck), AV.s (SV.int IntKind.i64 nx), AV.s (SV.ro (Con.typ cP ps)), AV.s (SV.ro (Con.typ cI is)), AV.s (SV.ro (Con.typ cC cs)), AV.s (SV.ro (Con.typ cW ws))] (27 : Nat), AObj.map (CK.int IntKind.i64) (mput m (iI x) ((mget m (iI x)).getD (CK.int IntKind.i64).d + (1 : Int))), AObj.own [AV.s (SV.int IntKind.i64 (gI is (iU x))), AV.s (SV.int IntKind.i64 (gU is (iU x))), AV.s (SV.int IntKind.u8 (gS is (iU x))), AV.s (SV.str (gP is (iU x))), AV.s (SV.int IntKind.i64 (gN is (iU x))), AV.s (SV.int IntKind.i64 (gF is (iU x))), AV.s (SV.int IntKind.u8 (gW is (iU x))), AV.s (SV.str (gC is (iU x)))] (31 : Nat), AObj.own [AV.vec (6 : Nat)] (48 : Nat), AObj.dead, AObj.vec (Con.ints IntKind.i64 (out ++ [iI x])) (3 : Nat)] (hd Tryd.f83 (5 : Nat)) (Stk.mk (some (83 : Nat)) false (0 : Nat) [inRange Tryd.f29 none (4 : Nat) (1 : Nat)] (0 : Nat))))) (Tree.at (Cfg.mk (sl (103 : Nat) [((0 : Nat), AV.tag (0 : Nat)), ((1 : Nat), AV.ptr (1 : Nat) (0 : Nat)), ((5 : Nat), AV.s (SV.bool (hasI is (iU x)))), ((6 : Nat), AV.mapv (2 : Nat)), ((7 : Nat), AV.ptr (3 : Nat) (0 : Nat)), ((8 : Nat), AV.s (SV.bool (gS is (iU x) != (2 : Int)))), ((88 : Nat), AV.ptr (4 : Nat) (0 : Nat)), ((101 : Nat), AV.tag (5 : Nat)), ((102 : Nat), AV.tag (0 : Nat))]) [AObj.dead, AObj.own [AV.s (SV.int IntKind.i64 ck), AV.s (SV.int IntKind.i64 nx), AV.s (SV.ro (Con.typ cP ps)), AV.s (SV.ro (Con.typ cI is)), AV.s (SV.ro (Con.typ cC cs)), AV.s (SV.ro (Con.typ cW ws))] (27 : Nat), AObj.map (CK.int IntKind.i64) (mput m (iI x) ((mget m (iI x)).getD (CK.int IntKind.i64).d + (1 : Int))), AObj.own [AV.s (SV.int IntKind.i64 (gI is (iU x))), AV.s (SV.int IntKind.i64 (gU is (iU x))), AV.s (SV.int IntKind.u8 (gS is (iU x))), AV.s (SV.str (gP is (iU x))), AV.s (SV.int IntKind.i64 (gN is (iU x))), AV.s (SV.int IntKind.i64 (gF is (iU x))), AV.s (SV.int IntKind.u8 (gW is (iU x))), AV.s (SV.str (gC is (iU x)))] (31 : Nat), AObj.own [AV.vec (6 : Nat)] (48 : Nat), AObj.dead, AObj.vec (Con.ints IntKind.i64 (out ++ [iI x])) (3 : Nat)] (hd Tryd.f83 (5 : Nat)) (Stk.mk (some (83 : Nat)) false (0 : Nat) [inRange Tryd.f29 none (4 : Nat) (1 : Nat)] (0 : Nat)))))
            (Tree.ite (hasI is (iU x)) (Tree.ite (gS is (iU x) == (2 : Int)) (Tree.at (Cfg.mk (sl (103 : Nat) [((0 : Nat), AV.tag (0 : Nat)), ((1 : Nat), AV.ptr (1 : Nat) (0 : Nat)), ((5 : Nat), AV.s (SV.bool (hasI is (gU is (iU x))))), ((6 : Nat), AV.mapv (2 : Nat)), ((7 : Nat), AV.ptr (3 : Nat) (0 : Nat)), ((8 : Nat), AV.s (SV.bool false)), ((88 : Nat), AV.ptr (4 : Nat) (0 : Nat)), ((101 : Nat), AV.tag (5 : Nat)), ((102 : Nat), AV.tag (0 : Nat))]) [AObj.dead, AObj.own [AV.s (SV.int IntKind.i64 ck), AV.s (SV.int IntKind.i64 nx), AV.s (SV.ro (Con.typ cP ps)), AV.s (SV.ro (Con.typ cI is)), AV.s (SV.ro (Con.typ cC cs)), AV.s (SV.ro (Con.typ cW ws))] (27 : Nat), AObj.map (CK.int IntKind.i64) (mput m (iI x) ((mget m (iI x)).getD (CK.int IntKind.i64).d + (1 : Int))), AObj.own [AV.s (SV.int IntKind.i64 (gI is (gU is (iU x)))), AV.s (SV.int IntKind.i64 (gU is (gU is (iU x)))), AV.s (SV.int IntKind.u8 (gS is (gU is (iU x)))), AV.s (SV.str (gP is (gU is (iU x)))), AV.s (SV.int IntKind.i64 (gN is (gU is (iU x)))), AV.s (SV.int IntKind.i64 (gF is (gU is (iU x)))), AV.s (SV.int IntKind.u8 (gW is (gU is (iU x)))), AV.s (SV.str (gC is (gU is (iU x))))] (31 : Nat), AObj.own [AV.vec (6 : Nat)] (48 : Nat), AObj.dead, AObj.vec (Con.ints IntKind.i64 (out ++ [iI x])) (3 : Nat)] (hd Tryd.f83 (5 : Nat)) (Stk.mk (some (83 : Nat)) false (0 : Nat) [inRange Tryd.f29 none (4 : Nat) (1 : Nat)] (0 : Nat)))) (Tree.at (Cfg.mk (sl (103 : Nat) [((0 : Nat), AV.tag (0 : Nat)), ((1 : Nat), AV.ptr (1 : Nat) (0 : Nat)), ((5 : Nat), AV.s (SV.bool (hasI is (iU x)))), ((6 : Nat), AV.mapv (2 : Nat)), ((7 : Nat), AV.ptr (3 : Nat) (0 : Nat)), ((8 : Nat), AV.s (SV.bool false)), ((88 : Nat), AV.ptr (4 : Nat) (0 : Nat)), ((101 : Nat), AV.tag (5 : Nat)), ((102 : Nat), AV.tag (0 : Nat))]) [AObj.dead, AObj.own [AV.s (SV.int IntKind.i64 ck), AV.s (SV.int IntKind.i64 nx), AV.s (SV.ro (Con.typ cP ps)), AV.s (SV.ro (Con.typ cI is)), AV.s (SV.ro (Con.typ cC cs)), AV.s (SV.ro (Con.typ cW ws))] (27 : Nat), AObj.map (CK.int IntKind.i64) (mput m (iI x) ((mget m (iI x)).getD (CK.int IntKind.i64).d + (1 : Int))), AObj.own [AV.s (SV.int IntKind.i64 (gI is (iU x))), AV.s (SV.int IntKind.i64 (gU is (iU x))), AV.s (SV.int IntKind.u8 (gS is (iU x))), AV.s (SV.str (gP is (iU x))), AV.s (SV.int IntKind.i64 (gN is (iU x))), AV.s (SV.int IntKind.i64 (gF is (iU x))), AV.s (SV.int IntKind.u8 (gW is (iU x))), AV.s (SV.str (gC is (iU x)))] (31 : Nat), AObj.own [AV.vec (6 : Nat)] (48 : Nat), AObj.dead, AObj.vec (Con.ints IntKind.i64 (out ++ [iI x])) (3 : Nat)] (hd Tryd.f83 (5 : Nat)) (Stk.mk (some (83 : Nat)) false (0 : Nat) [inRange Tryd.f29 none (4 : Nat) (1 : Nat)] (0 : Nat))))) (Tree.at (Cfg.mk (sl (103 : Nat) [((0 : Nat), AV.tag (0 : Nat)), ((1 : Nat), AV.ptr (1 : Nat) (0 : Nat)), ((5 : Nat), AV.s (SV.bool (hasI is (iU x)))), ((6 : Nat), AV.mapv (2 : Nat)), ((7 : Nat), AV.ptr (3 : Nat) (0 : Nat)), ((8 : Nat), AV.s (SV.bool false)), ((88 : Nat), AV.ptr (4 : Nat) (0 : Nat)), ((101 : Nat), AV.tag (5 : Nat)), ((102 : Nat), AV.tag (0 : Nat))]) [AObj.dead, AObj.own [AV.s (SV.int IntKind.i64 ck), AV.s (SV.int IntKind.i64 nx), AV.s (SV.ro (Con.typ cP ps)), AV.s (SV.ro (Con.typ cI is)), AV.s (SV.ro (Con.typ cC cs)), AV.s (SV.ro (Con.typ cW ws))] (27 : Nat), AObj.map (CK.int IntKind.i64) (mput m (iI x) ((mget m (iI x)).getD (CK.int IntKind.i64).d + (1 : Int))), AObj.own [AV.s (SV.int IntKind.i64 (gI is (iU x))), AV.s (SV.int IntKind.i64 (gU is (iU x))), AV.s (SV.int IntKind.u8 (gS is (iU x))), AV.s (SV.str (gP is (iU x))), AV.s (SV.int IntKind.i64 (gN is (iU x))), AV.s (SV.int IntKind.i64 (gF is (iU x))), AV.s (SV.int IntKind.u8 (gW is (iU x))), AV.s (SV.str (gC is (iU x)))] (31 : Nat), AObj.own [AV.vec (6 : Nat)] (48 : Nat), AObj.dead, AObj.vec (Con.ints IntKind.i64 (out ++ [iI x])) (3 : Nat)] (hd Tryd.f83 (5 : Nat)) (Stk.mk (some (83 : Nat)) false (0 : Nat) [inRange Tryd.f29 none (4 : Nat) (1 : Nat)] (0 : Nat))))))))
      (Tree.ret [AObj.dead, AObj.own [AV.s (SV.int IntKind.i64 ck), AV.s (SV.int IntKind.i64 nx), AV.s (SV.ro (Con.typ cP ps)), AV.s (SV.ro (Con.typ cI is)), AV.s (SV.ro (Con.typ cC cs)), AV.s (SV.ro (Con.typ cW ws))] (27 : Nat), AObj.map (CK.int IntKind.i64) m, AObj.own [AV.s (SV.int IntKind.i64 (iI x)), AV.s (SV.int IntKind.i64 (iU x)), AV.s (SV.int IntKind.u8 (iS x)), AV.s (SV.str (iP x)), AV.s (SV.int IntKind.i64 (iN x)), AV.s (SV.int IntKind.i64 (iF x)), AV.s (SV.int IntKind.u8 (iW x)), AV.s (SV.str (iC x))] (31 : Nat), AObj.own [AV.vec (6 : Nat)] (48 : Nat), AObj.dead, AObj.vec (Con.ints IntKind.i64 out) (3 : Nat)] (AV.vec (6 : Nat))))
    (Tree.ret [AObj.dead, AObj.own [AV.s (SV.int IntKind.i64 ck), AV.s (SV.int IntKind.i64 nx), AV.s (SV.ro (Con.typ cP ps)), AV.s (SV.ro (Con.typ cI is)), AV.s (SV.ro (Con.typ cC cs)), AV.s (SV.ro (Con.typ cW ws))] (27 : Nat), AObj.map (CK.int IntKind.i64) m, AObj.own [AV.s (SV.int IntKind.i64 (iI x)), AV.s (SV.int IntKind.i64 (iU x)), AV.s (SV.int IntKind.u8 (iS x)), AV.s (SV.str (iP x)), AV.s (SV.int IntKind.i64 (iN x)), AV.s (SV.int IntKind.i64 (iF x)), AV.s (SV.int IntKind.u8 (iW x)), AV.s (SV.str (iC x))] (31 : Nat), AObj.own [AV.vec (6 : Nat)] (48 : Nat), AObj.dead, AObj.vec (Con.ints IntKind.i64 out) (3 : Nat)] (AV.vec (6 : Nat))))
  (Tree.ret [AObj.dead, AObj.own [AV.s (SV.int IntKind.i64 ck), AV.s (SV.int IntKind.i64 nx), AV.s (SV.ro (Con.typ cP ps)), AV.s (SV.ro (Con.typ cI is)), AV.s (SV.ro (Con.typ cC cs)), AV.s (SV.ro (Con.typ cW ws))] (27 : Nat), AObj.map (CK.int IntKind.i64) m, AObj.own [AV.s (SV.int IntKind.i64 (iI x)), AV.s (SV.int IntKind.i64 (iU x)), AV.s (SV.int IntKind.u8 (iS x)), AV.s (SV.str (iP x)), AV.s (SV.int IntKind.i64 (iN x)), AV.s (SV.int IntKind.i64 (iF x)), AV.s (SV.int IntKind.u8 (iW x)), AV.s (SV.str (iC x))] (31 : Nat), AObj.own [AV.vec (6 : Nat)] (48 : Nat), AObj.dead, AObj.vec (Con.ints IntKind.i64 out) (3 : Nat)] (AV.vec (6 : Nat))) := by kernel_rfl
end Ds

namespace Ds
open Go Go.Sx Go.Proofs Lf
def scoF (is : Is) (id : Int) : List Int := (scopesF is id).map fun e => iI e.1
theorem tabSx_ok {Z : Glob} : tabSx.Ok P Z := Tab.Ok.cons find_ok.sum Tab.Ok.nil
theorem scopes_ok {Z : Glob} : FnOk P Z 29 [tSt, tInt] [tNs] (fun ((_, _, _, is, _, _, ()), _) => [(is : Is).length ≤ 1000000]) (fun ((_, _, _, is, _, _, ()), id, ()) => (scoF is id, ())) := by
  refine fnOk_of_safe Tryd.func29 (by kernel_rfl) (by kernel_rfl) ?_
  rintro ⟨⟨(ck : Int), (nx : Int), (ps : Ps), (is : Is), (cs : Cs), (ws : Ws), ⟨⟩⟩, (id : Int), ⟨⟩⟩ _ ⟨(hl : is.length ≤ 1000000), _⟩ X hX hz
  show Safe P 29 X (Ends [tNs] (scoF is id, ())) _
  have loop : ∀ (n : Nat) (b own : Bool) (x : CL cI) (seen : List Int) (m : Mp) (out R : List Int), Marks m seen → seen.Nodup → (∀ k ∈ seen, k ∈ is.map iI) → (b = true → iI x ∈ is.map iI) → is.length < n + seen.length → out.length = seen.length →
      R = out ++ (scL is n b own x seen).map (fun e => iI e.1) → Safe P 29 X (Ends [tNs] (R, ())) (cSx ck nx ps is cs ws b own x m out) := by
    intro n
    induction n with
    | zero =>
      intro b own x seen m out R _ hnd hsub _ hlt _ _
      have := nodup_len hnd hsub
      rw [List.length_map] at this
      omega
    | succ n ih =>
      intro b own x seen m out R hm hnd hsub hb hlt ho hR
      have none_ : ¬ (b = true ∧ iS x = 1 ∧ iI x ∉ seen) → R = out := fun h => by
        rw [hR, scL_succ, if_neg h, List.map_nil, List.append_nil]
      refine go hz hX tabSx_ok Tryd.func29 (loopSx ck nx ps is cs ws b own x m out) ?_
      cases b with
      | false => rw [none_ (by simp)]; exact no_and rfl (ends_eq _ rfl (by kernel_rfl))
      | true =>
      refine yes_and rfl ?_
      by_cases h1 : iS x = 1
      rotate_left
      · rw [none_ (by simp [h1])]; exact no_and (beq_eq_false_iff_ne.2 h1) (ends_eq _ rfl (by kernel_rfl))
      refine yes_and (beq_iff_eq.2 h1) ?_
      have hc : (mget m (iI x)).getD (CK.int IntKind.i64).d = cnt m (iI x) := rfl
      rw [hc]
      by_cases h2 : iI x ∈ seen
      · have : cnt m (iI x) = 1 := by rw [hm, if_pos h2]
        rw [none_ (by simp [h2])]; exact no_and (by rw [this]; rfl) (ends_eq _ rfl (by kernel_rfl))
      have hc0 : cnt m (iI x) = 0 := by rw [hm, if_neg h2]
      have hnl := nodup_len hnd hsub
      rw [List.length_map] at hnl
      refine yes_and (by rw [hc0]; rfl) ⟨by rw [hc0]; exact ⟨by omega, by omega⟩, by omega, ?_⟩
      have hm' : Marks (mput m (iI x) (cnt m (iI x) + 1)) (seen ++ [iI x]) := marks_put hm h2
      have hR' : R = (out ++ [iI x]) ++ (scL is n (nxB is x) (nxO is x) (nxX is x) (seen ++ [iI x])).map (fun e => iI e.1) := by
        rw [hR, scL_succ, if_pos ⟨rfl, h1, h2⟩, List.map_cons, List.append_assoc]; rfl
      have next := fun b' own' x' => ih b' own' x' (seen ++ [iI x]) (mput m (iI x) (cnt m (iI x) + 1)) (out ++ [iI x]) R hm' (by
            rw [List.nodup_append]
            exact ⟨hnd, by simp, fun a ha b hb' e => h2 (by simp at hb'; rw [← hb', ← e]; exact ha)⟩) (fun k hk => by
            rcases List.mem_append.1 hk with hk | hk
            · exact hsub k hk
            · simp at hk; rw [hk]; exact hb rfl)
      have hlen : is.length < n + (seen ++ [iI x]).length := by rw [List.length_append]; simp; omega
      have hol : (out ++ [iI x]).length = (seen ++ [iI x]).length := by rw [List.length_append, List.length_append, ho]
      cases h3 : hasI is (iU x) with
      | false =>
        refine no_and rfl (no_and rfl ?_)
        have k := next false false (getT is (iU x)) (by simp) hlen hol
        have e1 : nxB is x = false := by unfold nxB; rw [h3]; rfl
        have e2 : nxO is x = false := by unfold nxO; rw [h3]; rfl
        have e3 : nxX is x = getT is (iU x) := by unfold nxX; rw [h3]; rfl
        rw [e1, e2, e3] at hR'
        exact k hR'
      | true =>
        refine yes_and rfl (yes_and rfl ?_)
        cases h4 : gS is (iU x) == 2 with
        | true =>
          refine yes_and rfl ?_
          have h5 : (gS is (iU x) != 2) = false := by simp only [bne, h4]; rfl
          rw [h5]
          have e1 : nxB is x = hasI is (gU is (iU x)) := by unfold nxB; rw [h3, h4]; rfl
          have e2 : nxO is x = false := by unfold nxO; rw [h3, h5]; rfl
          have e3 : nxX is x = getT is (gU is (iU x)) := by unfold nxX; rw [h3, h4]; rfl
          rw [e1, e2, e3] at hR'
          exact next (hasI is (gU is (iU x))) false (getT is (gU is (iU x))) (fun hh => by show gI is (gU is (iU x)) ∈ _; rw [(has_item hh).1]; exact (has_item hh).2.1) hlen hol hR'
        | false =>
          refine no_and rfl ?_
          have h5 : (gS is (iU x) != 2) = true := by simp only [bne, h4]; rfl
          rw [h5]
          have e1 : nxB is x = true := by unfold nxB; rw [h3, h4]; rfl
          have e2 : nxO is x = true := by unfold nxO; rw [h3, h5]; rfl
          have e3 : nxX is x = getT is (iU x) := by unfold nxX; rw [h3, h4]; rfl
          rw [e1, e2, e3] at hR'
          exact next true true (getT is (iU x)) (fun _ => by show gI is (iU x) ∈ _; rw [(has_item h3).1]; exact (has_item h3).2.1) hlen hol hR'
  refine go hz hX tabSx_ok Tryd.func29 (trSx ck nx ps is cs ws id) ?_
  have e0 : (hasI is id && (gS is id == 2)) = false → scoF is id = [] := fun h => by
    unfold scoF scopesF; rw [if_neg (by rw [h]; simp)]; rfl
  cases h0 : hasI is id with
  | false => rw [e0 (by rw [h0]; rfl)]; exact yes_and rfl (ends_eq _ rfl (by kernel_rfl))
  | true =>
    refine no_and rfl ?_
    cases h1 : gS is id == 2 with
    | false =>
      rw [e0 (by rw [h0, h1]; rfl)]; exact yes_and (by simp only [bne, h1]; rfl) (ends_eq _ rfl (by kernel_rfl))
    | true =>
      refine no_and (by simp only [bne, h1]; rfl) ?_
      refine loop (is.length + 1) (hasI is (gU is id)) false (getT is (gU is id)) [] [] [] _ (fun k => by simp [cnt, mget]) List.nodup_nil (fun k hk => by cases hk) (fun hh => by show gI is (gU is id) ∈ _; rw [(has_item hh).1]; exact (has_item hh).2.1) (by simp) rfl ?_
      unfold scoF scopesF
      rw [if_pos (by rw [h0, h1]; rfl), List.nil_append]
end Ds

namespace Ds
open Go Go.Sx Go.Proofs Lf
abbrev sumSx := sumR [tSt, tInt] [tNs] (fun ((_, _, _, is, _, _, ()), _) => [(is : Is).length ≤ 1000000]) (fun ((_, _, _, is, _, _, ()), id, ()) => (scoF is id, ()))
abbrev sumL22' := sumOf [tSt] [tBool] (fun _ => []) (fun ((_, _, ps, is, cs, ws, ()), ()) => (large22 ps is cs ws, ()))
def nsRs : List (Nat × Norm) := [(10, ⟨[], [1, 2, 5, 8], 0, []⟩), (15, ⟨[], [1, 2, 5, 8, 9, 10, 11], 0, []⟩)]
def tabRs : Tab := [(25, sumL22'), (26, sumTt), (12, sumSd), (16, sumBlo), (15, sumDp), (19, sumFi), (29, sumSx), (30, sumI18)]
theorem trRs (ck nx : Int) (ps : Ps) (is : Is) (cs : Cs) (ws : Ws) (id : Int) : run P tabRs.sum Tryd.f9 nsRs (start Tryd.f9 [avSt ck nx ps is cs ws, avI id] []) =
  Tree.ite (large22 ps is cs ws) (Tree.ret [AObj.own [AV.s (SV.int IntKind.i64 ck), AV.s (SV.int IntKind.i64 nx), AV.s (SV.ro (Con.typ cP ps)), AV.s (SV.ro (Con.typ cI is)), AV.s (SV.ro (Con.typ cC cs)), AV.s (SV.ro (Con.typ cW ws))] (27 : Nat)] (AV.s (SV.bool true)))
  (Tree.ite false (Tree.ret [AObj.own [AV.s (SV.int IntKind.i64 ck), AV.s (SV.int IntKind.i64 nx), AV.s (SV.ro (Con.typ cP ps)), AV.s (SV.ro (Con.typ cI is)), AV.s (SV.ro (Con.typ cC cs)), AV.s (SV.ro (Con.typ cW ws))] (27 : Nat)] (AV.s (SV.bool true)))
    (Tree.need (List.length is ≤ (1000000 : Nat))
      (Tree.need (List.length is ≤ (1000000 : Nat))
        (Tree.ite (!soundF nx ps is) (Tree.need (List.length is ≤ (1000000 : Nat)) (Tree.ite (!soundF nx ps is) (Tree.ret [AObj.own [AV.s (SV.int IntKind.i64 ck), AV.s (SV.int IntKind.i64 nx), AV.s (SV.ro (Con.typ cP ps)), AV.s (SV.ro (Con.typ cI is)), AV.s (SV.ro (Con.typ cC cs)), AV.s (SV.ro (Con.typ cW ws))] (27 : Nat), AObj.vec (Con.ints IntKind.i64 (scoF is id)) (3 : Nat), AObj.own [AV.s (SV.int IntKind.i64 (gI is id)), AV.s (SV.int IntKind.i64 (gU is id)), AV.s (SV.int IntKind.u8 (gS is id)), AV.s (SV.str (gP is id)), AV.s (SV.int IntKind.i64 (gN is id)), AV.s (SV.int IntKind.i64 (gF is id)), AV.s (SV.int IntKind.u8 (gW is id)), AV.s (SV.str (gC is id))] (31 : Nat)] (AV.s (SV.blit true))) (Tree.ret [AObj.own [AV.s (SV.int IntKind.i64 ck), AV.s (SV.int IntKind.i64 nx), AV.s (SV.ro (Con.typ cP ps)), AV.s (SV.ro (Con.typ cI is)), AV.s (SV.ro (Con.typ cC cs)), AV.s (SV.ro (Con.typ cW ws))] (27 : Nat), AObj.vec (Con.ints IntKind.i64 (scoF is id)) (3 : Nat), AObj.own [AV.s (SV.int IntKind.i64 (gI is id)), AV.s (SV.int IntKind.i64 (gU is id)), AV.s (SV.int IntKind.u8 (gS is id)), AV.s (SV.str (gP is id)), AV.s (SV.int IntKind.i64 (gN is id)), AV.s (SV.int IntKind.i64 (gF is id)), AV.s (SV.int IntKind.u8 (gW is id)), AV.s (SV.str (gC is id))] (31 : Nat)] (AV.s (SV.bool ((↑(scoF is id).length : Int) == (0 : Int)))))))
          (Tree.ite (!hasI is id) (Tree.need (List.length is ≤ (1000000 : Nat)) (Tree.ite (!soundF nx ps is) (Tree.ret [AObj.own [AV.s (SV.int IntKind.i64 ck), AV.s (SV.int IntKind.i64 nx), AV.s (SV.ro (Con.typ cP ps)), AV.s (SV.ro (Con.typ cI is)), AV.s (SV.ro (Con.typ cC cs)), AV.s (SV.ro (Con.typ cW ws))] (27 : Nat), AObj.vec (Con.ints IntKind.i64 (scoF is id)) (3 : Nat), AObj.own [AV.s (SV.int IntKind.i64 (gI is id)), AV.s (SV.int IntKind.i64 (gU is id)), AV.s (SV.int IntKind.u8 (gS is id)), AV.s (SV.str (gP is id)), AV.s (SV.int IntKind.i64 (gN is id)), AV.s (SV.int IntKind.i64 (gF is id)), AV.s (SV.int IntKind.u8 (gW is id)), AV.s (SV.str (gC is id))] (31 : Nat)] (AV.s (SV.blit true))) (Tree.ret [AObj.own [AV.s (SV.int IntKind.i64 ck), AV.s (SV.int IntKind.i64 nx), AV.s (SV.ro (Con.typ cP ps)), AV.s (SV.ro (Con.typ cI is)), AV.s (SV.ro (Con.typ cC cs)), AV.s (SV.ro (Con.typ cW ws))] (27 : Nat), AObj.vec (Con.ints IntKind.i64 (scoF is id)) (3 : Nat), AObj.own [AV.s (SV.int IntKind.i64 (gI is id)), AV.s (SV.int IntKind.i64 (gU is id)), AV.s (SV.int IntKind.u8 (gS is id)), AV.s (SV.str (gP is id)), AV.s (SV.int IntKind.i64 (gN is id)), AV.s (SV.int IntKind.i64 (gF is id)), AV.s (SV.int IntKind.u8 (gW is id)), AV.s (SV.str (gC is id))] (31 : Nat)] (AV.s (SV.bool ((↑(scoF is id).length : Int) == (0 : Int)))))))
            (Tree.ite (gS is id != (2 : Int)) (Tree.need (List.length is ≤ (1000000 : Nat)) (Tree.ite (!soundF nx ps is) (Tree.ret [AObj.own [AV.s (SV.int IntKind.i64 ck), AV.s (SV.int IntKind.i64 nx), AV.s (SV.ro (Con.typ cP ps)), AV.s (SV.ro (Con.typ cI is)), AV.s (SV.ro (Con.typ cC cs)), AV.s (SV.ro (Con.typ cW ws))] (27 : Nat), AObj.vec (Con.ints IntKind.i64 (scoF is id)) (3 : Nat), AObj.own [AV.s (SV.int IntKind.i64 (gI is id)), AV.s (SV.int IntKind.i64 (gU is id)), AV.s (SV.int IntKind.u8 (gS is id)), AV.s (SV.str (gP is id)), AV.s (SV.int IntKind.i64 (gN is id)), AV.s (SV.int IntKind.i64 (gF is id)), AV.s (SV.int IntKind.u8 (gW is id)), AV.s (SV.str (gC is id))] (31 : Nat)] (AV.s (SV.blit true))) (Tree.ret [AObj.own [AV.s (SV.int IntKind.i64 ck), AV.s (SV.int IntKind.i64 nx), AV.s (SV.ro (Con.typ cP ps)), AV.s (SV.ro (Con.typ cI is)), AV.s (SV.ro (Con.typ cC cs)), AV.s (SV.ro (Con.typ cW ws))] (27 : Nat), AObj.vec (Con.ints IntKind.i64 (scoF is id)) (3 : Nat), AObj.own [AV.s (SV.int IntKind.i64 (gI is id)), AV.s (SV.int IntKind.i64 (gU is id)), AV.s (SV.int IntKind.u8 (gS is id)), AV.s (SV.str (gP is id)), AV.s (SV.int IntKind.i64 (gN is id)), AV.s (SV.int IntKind.i64 (gF is id)), AV.s (SV.int IntKind.u8 (gW is id)), AV.s (SV.str (gC is id))] (31 : Nat)] (AV.s (SV.bool ((↑(scoF is id).length : Int) == (0 : Int))))))) (Tree.ite ((↑(scoF is id).length : Int) != depthF is id) (Tree.ret [AObj.own [AV.s (SV.int IntKind.i64 ck), AV.s (SV.int IntKind.i64 nx), AV.s (SV.ro (Con.typ cP ps)), AV.s (SV.ro (Con.typ cI is)), AV.s (SV.ro (Con.typ cC cs)), AV.s (SV.ro (Con.typ cW ws))] (27 : Nat), AObj.vec (Con.ints IntKind.i64 (scoF is id)) (3 : Nat), AObj.own [AV.s (SV.int IntKind.i64 (gI is id)), AV.s (SV.int IntKind.i64 (gU is id)), AV.s (SV.int IntKind.u8 (gS is id)), AV.s (SV.str (gP is id)), AV.s (SV.int IntKind.i64 (gN is id)), AV.s (SV.int IntKind.i64 (gF is id)), AV.s (SV.int IntKind.u8 (gW is id)), AV.s (SV.str (gC is id))] (31 : Nat)] (AV.s (SV.blit false))) (Tree.ite ((↑(scoF is id).length : Int) == (0 : Int)) (Tree.ret [AObj.own [AV.s (SV.int IntKind.i64 ck), AV.s (SV.int IntKind.i64 nx), AV.s (SV.ro (Con.typ cP ps)), AV.s (SV.ro (Con.typ cI is)), AV.s (SV.ro (Con.typ cC cs)), AV.s (SV.ro (Con.typ cW ws))] (27 : Nat), AObj.vec (Con.ints IntKind.i64 (scoF is id)) (3 : Nat), AObj.own [AV.s (SV.int IntKind.i64 (gI is id)), AV.s (SV.int IntKind.i64 (gU is id)), AV.s (SV.int IntKind.u8 (gS is id)), AV.s (SV.str (gP is id)), AV.s (SV.int IntKind.i64 (gN is id)), AV.s (SV.int IntKind.i64 (gF is id)), AV.s (SV.int IntKind.u8 (gW is id)), AV.s (SV.str (gC is id))] (31 : Nat)] (AV.s (SV.blit false))) (Tree.need ((0 : Int) ≤ (0 : Int)) (Tree.need ((0 : Int) < (↑(scoF is id).length : Int)) (Tree.ite ((scoF is id).getD (0 : Nat) (0 : Int) != gU is id) (Tree.ret [AObj.own [AV.s (SV.int IntKind.i64 ck), AV.s (SV.int IntKind.i64 nx), AV.s (SV.ro (Con.typ cP ps)), AV.s (SV.ro (Con.typ cI is)), AV.s (SV.ro (Con.typ cC cs)), AV.s (SV.ro (Con.typ cW ws))] (27 : Nat), AObj.vec (Con.ints IntKind.i64 (scoF is id)) (3 : Nat), AObj.own [AV.s (SV.int IntKind.i64 (gI is id)), AV.s (SV.int IntKind.i64 (gU is id)), AV.s (SV.int IntKind.u8 (gS is id)), AV.s (SV.str (gP is id)), AV.s (SV.int IntKind.i64 (gN is id)), AV.s (SV.int IntKind.i64 (gF is id)), AV.s (SV.int IntKind.u8 (gW is id)), AV.s (SV.str (gC is id))] (31 : Nat)] (AV.s (SV.blit false))) (Tree.at (Cfg.mk (sl (125 : Nat) [((1 : Nat), AV.s (SV.int IntKind.i64 id)), ((2 : Nat), AV.ptr (0 : Nat) (0 : Nat)), ((5 : Nat), AV.vec (1 : Nat)), ((8 : Nat), AV.s (SV.int IntKind.i64 (1 : Int)))]) [AObj.own [AV.s (SV.int IntKind.i64 ck), AV.s (SV.int IntKind.i64 nx), AV.s (SV.ro (Con.typ cP ps)), AV.s (SV.ro (Con.typ cI is)), AV.s (SV.ro (Con.typ cC cs)), AV.s (SV.ro (Con.typ cW ws))] (27 : Nat), AObj.vec (Con.ints IntKind.i64 (scoF is id)) (3 : Nat)] (hd Tryd.f9 (10 : Nat)) (Stk.mk none false (0 : Nat) [] (0 : Nat))))))))))))))) := by kernel_rfl
noncomputable def cRs (ck nx : Int) (ps : Ps) (is : Is) (cs : Cs) (ws : Ws) (id : Int) (l : List Int) (i : Int) : Cfg := ⟨sl 125 [(1, avI id), (2, .ptr 0 0), (5, avL l), (8, avI i)], [obSt ck nx ps is cs ws], hd Tryd.f9 10, {}⟩
theorem loopRs (ck nx : Int) (ps : Ps) (is : Is) (cs : Cs) (ws : Ws) (id : Int) (l : List Int) (i : Int) : run P tabRs.sum Tryd.f9 nsRs (cRs ck nx ps is cs ws id l i) =
  Tree.ite (decide (i < (↑l.length : Int))) (Tree.need ((0 : Int) ≤ i) (Tree.need (i < (↑l.length : Int)) (Tree.need (List.length is ≤ (1000000 : Nat)) (Tree.at (Cfg.mk (sl (125 : Nat) [((1 : Nat), AV.s (SV.int IntKind.i64 id)), ((2 : Nat), AV.ptr (0 : Nat) (0 : Nat)), ((5 : Nat), AV.s (SV.ro (Con.ints IntKind.i64 l))), ((8 : Nat), AV.s (SV.int IntKind.i64 i)), ((9 : Nat), AV.s (SV.bool false)), ((10 : Nat), AV.vec (1 : Nat)), ((11 : Nat), AV.s (SV.int IntKind.i64 (0 : Int)))]) [AObj.own [AV.s (SV.int IntKind.i64 ck), AV.s (SV.int IntKind.i64 nx), AV.s (SV.ro (Con.typ cP ps)), AV.s (SV.ro (Con.typ cI is)), AV.s (SV.ro (Con.typ cC cs)), AV.s (SV.ro (Con.typ cW ws))] (27 : Nat), AObj.vec (Con.ints IntKind.i64 (belowF (esOf is) (l.getD i.toNat (0 : Int)))) (3 : Nat)] (hd Tryd.f9 (15 : Nat)) (Stk.mk none false (0 : Nat) [] (0 : Nat)))))))
  (Tree.need (inI64 ((↑l.length : Int) - (1 : Int))) (Tree.need ((0 : Int) ≤ (↑l.length : Int) - (1 : Int)) (Tree.need ((↑l.length : Int) - (1 : Int) < (↑l.length : Int)) (Tree.ite (hasI is (l.getD ((↑l.length : Int) - (1 : Int)).toNat (0 : Int))) (Tree.ite (gU is (l.getD ((↑l.length : Int) - (1 : Int)).toNat (0 : Int)) == (0 : Int)) (Tree.need (List.length is ≤ (1000000 : Nat)) (Tree.need (scoF is id = l) (Tree.ret [AObj.own [AV.s (SV.int IntKind.i64 ck), AV.s (SV.int IntKind.i64 nx), AV.s (SV.ro (Con.typ cP ps)), AV.s (SV.ro (Con.typ cI is)), AV.s (SV.ro (Con.typ cC cs)), AV.s (SV.ro (Con.typ cW ws))] (27 : Nat), AObj.own [AV.s (SV.int IntKind.i64 (gI is (l.getD ((↑l.length : Int) - (1 : Int)).toNat (0 : Int)))), AV.s (SV.int IntKind.i64 (gU is (l.getD ((↑l.length : Int) - (1 : Int)).toNat (0 : Int)))), AV.s (SV.int IntKind.u8 (gS is (l.getD ((↑l.length : Int) - (1 : Int)).toNat (0 : Int)))), AV.s (SV.str (gP is (l.getD ((↑l.length : Int) - (1 : Int)).toNat (0 : Int)))), AV.s (SV.int IntKind.i64 (gN is (l.getD ((↑l.length : Int) - (1 : Int)).toNat (0 : Int)))), AV.s (SV.int IntKind.i64 (gF is (l.getD ((↑l.length : Int) - (1 : Int)).toNat (0 : Int)))), AV.s (SV.int IntKind.u8 (gW is (l.getD ((↑l.length : Int) - (1 : Int)).toNat (0 : Int)))), AV.s (SV.str (gC is (l.getD ((↑l.length : Int) - (1 : Int)).toNat (0 : Int))))] (31 : Nat), AObj.vec (Con.ints IntKind.i64 (scoF is id)) (3 : Nat)] (AV.s (SV.bool true))))) (Tree.ret [AObj.own [AV.s (SV.int IntKind.i64 ck), AV.s (SV.int IntKind.i64 nx), AV.s (SV.ro (Con.typ cP ps)), AV.s (SV.ro (Con.typ cI is)), AV.s (SV.ro (Con.typ cC cs)), AV.s (SV.ro (Con.typ cW ws))] (27 : Nat), AObj.own [AV.s (SV.int IntKind.i64 (gI is (l.getD ((↑l.length : Int) - (1 : Int)).toNat (0 : Int)))), AV.s (SV.int IntKind.i64 (gU is (l.getD ((↑l.length : Int) - (1 : Int)).toNat (0 : Int)))), AV.s (SV.int IntKind.u8 (gS is (l.getD ((↑l.length : Int) - (1 : Int)).toNat (0 : Int)))), AV.s (SV.str (gP is (l.getD ((↑l.length : Int) - (1 : Int)).toNat (0 : Int)))), AV.s (SV.int IntKind.i64 (gN is (l.getD ((↑l.length : Int) - (1 : Int)).toNat (0 : Int)))), AV.s (SV.int IntKind.i64 (gF is (l.getD ((↑l.length : Int) - (1 : Int)).toNat (0 : Int)))), AV.s (SV.int IntKind.u8 (gW is (l.getD ((↑l.length : Int) - (1 : Int)).toNat (0 : Int)))), AV.s (SV.str (gC is (l.getD ((↑l.length : Int) - (1 : Int)).toNat (0 : Int))))] (31 : Nat)] (AV.s (SV.blit false)))) (Tree.ret [AObj.own [AV.s (SV.int IntKind.i64 ck), AV.s (SV.int IntKind.i64 nx), AV.s (SV.ro (Con.typ cP ps)), AV.s (SV.ro (Con.typ cI is)), AV.s (SV.ro (Con.typ cC cs)), AV.s (SV.ro (Con.typ cW ws))] (27 : Nat), AObj.own [AV.s (SV.int IntKind.i64 (gI is (l.getD ((↑l.length : Int) - (1 : Int)).toNat (0 : Int)))), AV.s (SV.int IntKind.i64 (gU is (l.getD ((↑l.length : Int) - (1 : Int)).toNat (0 : Int)))), AV.s (SV.int IntKind.u8 (gS is (l.getD ((↑l.length : Int) - (1 : Int)).toNat (0 : Int)))), AV.s (SV.str (gP is (l.getD ((↑l.length : Int) - (1 : Int)).toNat (0 : Int)))), AV.s (SV.int IntKind.i64 (gN is (l.getD ((↑l.length : Int) - (1 : Int)).toNat (0 : Int)))), AV.s (SV.int IntKind.i64 (gF is (l.getD ((↑l.length : Int) - (1 : Int)).toNat (0 : Int)))), AV.s (SV.int IntKind.u8 (gW is (l.getD ((↑l.length : Int) - (1 : Int)).toNat (0 : Int)))), AV.s (SV.str (gC is (l.getD ((↑l.length : Int) - (1 : Int)).toNat (0 : Int))))] (31 : Nat)] (AV.s (SV.blit false))))))) := by kernel_rfl
noncomputable def cRt (ck nx : Int) (ps : Ps) (is : Is) (cs : Cs) (ws : Ws) (id : Int) (l : List Int) (i : Int) (w : Bool) (b : List Int) (k : Int) : Cfg := ⟨sl 125 [(1, avI id), (2, .ptr 0 0), (5, avL l), (8, avI i), (9, .s (.bool w)), (10, avL b), (11, avI k)], [obSt ck nx ps is cs ws], hd Tryd.f9 15, {}⟩
theorem loopRt (ck nx : Int) (ps : Ps) (is : Is) (cs : Cs) (ws : Ws) (id : Int) (l : List Int) (i : Int) (w : Bool) (b : List Int) (k : Int) : run P tabRs.sum Tryd.f9 nsRs (cRt ck nx ps is cs ws id l i w b k) =
  Tree.ite (decide (k < (↑b.length : Int))) (Tree.ite w (Tree.need (inI64 (k + (1 : Int))) (Tree.at (Cfg.mk (sl (125 : Nat) [((1 : Nat), AV.s (SV.int IntKind.i64 id)), ((2 : Nat), AV.ptr (0 : Nat) (0 : Nat)), ((5 : Nat), AV.s (SV.ro (Con.ints IntKind.i64 l))), ((8 : Nat), AV.s (SV.int IntKind.i64 i)), ((9 : Nat), AV.s (SV.bool true)), ((10 : Nat), AV.s (SV.ro (Con.ints IntKind.i64 b))), ((11 : Nat), AV.s (SV.int IntKind.i64 (k + (1 : Int))))]) [AObj.own [AV.s (SV.int IntKind.i64 ck), AV.s (SV.int IntKind.i64 nx), AV.s (SV.ro (Con.typ cP ps)), AV.s (SV.ro (Con.typ cI is)), AV.s (SV.ro (Con.typ cC cs)), AV.s (SV.ro (Con.typ cW ws))] (27 : Nat)] (hd Tryd.f9 (15 : Nat)) (Stk.mk none false (0 : Nat) [] (0 : Nat))))) (Tree.need ((0 : Int) ≤ k) (Tree.need (k < (↑b.length : Int)) (Tree.need (inI64 (i - (1 : Int))) (Tree.need ((0 : Int) ≤ i - (1 : Int)) (Tree.need (i - (1 : Int) < (↑l.length : Int)) (Tree.need (inI64 (k + (1 : Int))) (Tree.at (Cfg.mk (sl (125 : Nat) [((1 : Nat), AV.s (SV.int IntKind.i64 id)), ((2 : Nat), AV.ptr (0 : Nat) (0 : Nat)), ((5 : Nat), AV.s (SV.ro (Con.ints IntKind.i64 l))), ((8 : Nat), AV.s (SV.int IntKind.i64 i)), ((9 : Nat), AV.s (SV.bool (b.getD k.toNat (0 : Int) == l.getD (i - (1 : Int)).toNat (0 : Int)))), ((10 : Nat), AV.s (SV.ro (Con.ints IntKind.i64 b))), ((11 : Nat), AV.s (SV.int IntKind.i64 (k + (1 : Int))))]) [AObj.own [AV.s (SV.int IntKind.i64 ck), AV.s (SV.int IntKind.i64 nx), AV.s (SV.ro (Con.typ cP ps)), AV.s (SV.ro (Con.typ cI is)), AV.s (SV.ro (Con.typ cC cs)), AV.s (SV.ro (Con.typ cW ws))] (27 : Nat)] (hd Tryd.f9 (15 : Nat)) (Stk.mk none false (0 : Nat) [] (0 : Nat))))))))))) (Tree.ite (!w) (Tree.ret [AObj.own [AV.s (SV.int IntKind.i64 ck), AV.s (SV.int IntKind.i64 nx), AV.s (SV.ro (Con.typ cP ps)), AV.s (SV.ro (Con.typ cI is)), AV.s (SV.ro (Con.typ cC cs)), AV.s (SV.ro (Con.typ cW ws))] (27 : Nat)] (AV.s (SV.blit false))) (Tree.need (inI64 (i + (1 : Int))) (Tree.at (Cfg.mk (sl (125 : Nat) [((1 : Nat), AV.s (SV.int IntKind.i64 id)), ((2 : Nat), AV.ptr (0 : Nat) (0 : Nat)), ((5 : Nat), AV.s (SV.ro (Con.ints IntKind.i64 l))), ((8 : Nat), AV.s (SV.int IntKind.i64 (i + (1 : Int))))]) [AObj.own [AV.s (SV.int IntKind.i64 ck), AV.s (SV.int IntKind.i64 nx), AV.s (SV.ro (Con.typ cP ps)), AV.s (SV.ro (Con.typ cI is)), AV.s (SV.ro (Con.typ cC cs)), AV.s (SV.ro (Con.typ cW ws))] (27 : Nat)] (hd Tryd.f9 (10 : Nat)) (Stk.mk none false (0 : Nat) [] (0 : Nat)))))) := by kernel_rfl
end Ds

namespace Ds
open Go Go.Sx Go.Proofs Lf
variable {nx : Int} {ps : Ps} {is : Is}
/-- the scopes above, one above the other -/
structure ScL (is : Is) (a : Int) (L : List Int) : Prop where
  len : (L.length : Int) = depthF is a
  hd : L.head? = some a
  up : ∀ i, i + 1 < L.length → Reach (esOf is) (L.getD (i + 1) 0) (L.getD i 0)
  fin : hasI is (L.getD (L.length - 1) 0) = true ∧ gU is (L.getD (L.length - 1) 0) = 0
theorem ScL.one {a : Int} (h : hasI is a = true) (hu : gU is a = 0) (hd : depthF is a = 1) : ScL is a [a] :=
  ⟨by rw [hd]; rfl, rfl, fun i hi => by simp at hi, ⟨h, hu⟩⟩
theorem ScL.cons {a b : Int} {L : List Int} (S : ScL is b L) (hr : Reach (esOf is) b a) (hd : depthF is a = 1 + depthF is b) : ScL is a (a :: L) := by
  have hl := S.len
  have hne : L ≠ [] := fun e => by have := S.hd; rw [e] at this; cases this
  obtain ⟨c, r, rfl⟩ := List.exists_cons_of_ne_nil hne
  have hc : c = b := by have := S.hd; simpa using this
  subst hc
  refine ⟨by rw [hd, ← hl]; simp; omega, rfl, fun i hi => ?_, ?_⟩
  · cases i with
    | zero => exact hr
    | succ i =>
      have := S.up i (by simp at hi ⊢; omega)
      simpa [List.getD] using this
  · have := S.fin
    simpa [List.getD] using this
theorem up_kid {x : CL cI} (hx : x ∈ is) (h : iU x ≠ iI x) : Reach (esOf is) (iU x) (iI x) :=
  .kid (mem_kids.2 ⟨List.mem_map.2 ⟨x, hx, rfl⟩, fun e => h e.symm⟩)
theorem Snd.scl (S : Snd nx ps is) : ∀ (n : Nat) (x : CL cI) (own : Bool) (seen : List Int), x ∈ is → iS x = 1 → upTo is (iI x) < n → (∀ s ∈ seen, iI x < s) → ScL is (iI x) ((scL is n true own x seen).map fun e => iI e.1)
  | 0, _, _, _, _, _, h, _ => by omega
  | n + 1, x, own, seen, hx, h1, hn, hs => by
    obtain ⟨g1, g2⟩ := S.tr.get hx
    have hd := S.tr.depth g1
    have hU : gU is (iI x) = iU x := by unfold gU; rw [g2]
    have hS : gS is (iI x) = 1 := by unfold gS; rw [g2]; exact h1
    rw [hU, hS, if_pos rfl] at hd
    obtain ⟨ul, uh⟩ := S.tr.up_lt g1
    rw [hU] at ul uh
    have hns : iI x ∉ seen := fun hh => by have := hs _ hh; omega
    have hs' : ∀ (y : Int), y < iI x → ∀ s ∈ seen ++ [iI x], y < s := fun y hy s hh => by
      rcases List.mem_append.1 hh with h | h
      · have := hs s h; omega
      · rw [List.mem_singleton.1 h]; exact hy
    rw [scL_succ, if_pos ⟨rfl, h1, hns⟩, List.map_cons]
    show ScL is (iI x) (iI x :: _)
    cases h3 : hasI is (iU x) with
    | false =>
      have hu0 : iU x = 0 := by rcases uh with e | e; exact e; rw [h3] at e; cases e
      have e1 : nxB is x = false := by unfold nxB; rw [h3]; rfl
      rw [e1]
      have e2 : scL is n false (nxO is x) (nxX is x) (seen ++ [iI x]) = [] := by
        cases n with
        | zero => rfl
        | succ n => rw [scL_succ, if_neg (by simp)]
      rw [e2]
      refine ScL.one g1 (by rw [hU]; exact hu0) ?_
      rw [hd, depth_no h3]; rfl
    | true =>
      obtain ⟨m1, m2⟩ := get_mem h3
      have hr := up_kid hx (by omega)
      rcases S.kind m1 with ⟨k1, _⟩ | ⟨k2, kt⟩
      · have h4 : (gS is (iU x) == 2) = false := beq_eq_false_iff_ne.2 (by show iS (getI is (iU x)) ≠ 2; omega)
        have e1 : nxB is x = true := by unfold nxB; rw [h3, h4]; rfl
        have e3 : nxX is x = getI is (iU x) := by unfold nxX; rw [h3, h4]; rfl
        rw [e1, e3]
        have ih := S.scl n (getI is (iU x)) (nxO is x) (seen ++ [iI x]) m1 k1 (by rw [m2]; have := upTo_lt g1 ul; omega) (by rw [m2]; exact hs' _ ul)
        rw [m2] at ih
        exact ih.cons hr hd
      · have h4 : (gS is (iU x) == 2) = true := beq_iff_eq.2 k2
        obtain ⟨t1, _⟩ := S.tok_up kt
        have hb : hasI is (gU is (iU x)) = true := gS_has t1
        have e1 : nxB is x = true := by unfold nxB; rw [h3, h4]; exact hb
        have e3 : nxX is x = getI is (gU is (iU x)) := by unfold nxX; rw [h3, h4]; rfl
        rw [e1, e3]
        obtain ⟨z1, z2⟩ := get_mem hb
        have zl := (S.tr.up_lt h3).1
        have ih := S.scl n (getI is (gU is (iU x))) (nxO is x) (seen ++ [iI x]) z1 t1 (by rw [z2]; have := upTo_lt g1 (show gU is (iU x) < iI x by omega); omega) (by rw [z2]; exact hs' _ (by omega))
        rw [z2] at ih
        have hr2 : Reach (esOf is) (gU is (iU x)) (iU x) := by
          have := up_kid m1 (by rw [m2]; show gU is (iU x) ≠ iU x; omega)
          rw [m2] at this
          exact this
        refine ih.cons (hr2.trans hr) ?_
        have d2 := S.tr.depth h3
        have k2 : gS is (iU x) = 2 := k2
        rw [if_neg (by omega)] at d2
        rw [hd, d2]; omega
theorem Snd.sco (S : Snd nx ps is) {id : Int} (h : hasI is id = true) (ht : gS is id = 2) : ScL is (gU is id) (scoF is id) ∧ depthF is id = depthF is (gU is id) := by
  obtain ⟨m1, m2⟩ := get_mem h
  have hd := S.tr.depth h
  rw [if_neg (by omega)] at hd
  rcases S.kind m1 with ⟨k1, _⟩ | ⟨_, kt⟩
  · have k1 : gS is id = 1 := k1
    omega
  · have t1 := (S.tok_up kt).1
    have t1 : gS is (gU is id) = 1 := t1
    have hb := gS_has t1
    obtain ⟨z1, z2⟩ := get_mem hb
    refine ⟨?_, by omega⟩
    unfold scoF scopesF
    rw [if_pos (by rw [h, ht]; rfl), hb]
    have := S.scl (is.length + 1) (getI is (gU is id)) false [] z1 t1 (by have := upTo_le is (iI (getI is (gU is id))); omega) (fun s hs => by cases hs)
    rw [z2] at this
    exact this
variable {Z : Glob}
theorem tabRs_ok (KV : MapVar P Z gKi tKi kindsF) : tabRs.Ok P Z := Tab.Ok.cons l22_ok.sum (Tab.Ok.cons awake_ok.sum (Tab.Ok.cons (sound_ok KV).sum (Tab.Ok.cons below_ok.sumR (Tab.Ok.cons depth_ok.sum (Tab.Ok.cons find_ok.sum (Tab.Ok.cons scopes_ok.sumR (Tab.Ok.cons i18_ok.sum Tab.Ok.nil)))))))
theorem routeScopes_ok (KV : MapVar P Z gKi tKi kindsF) : FnOk P Z 9 [tSt, tInt] [tBool] (fun _ => []) (fun _ => (true, ())) := by
  refine fnOk_of_safe Tryd.func9 (by kernel_rfl) (by kernel_rfl) ?_
  rintro ⟨⟨(ck : Int), (nx : Int), (ps : Ps), (is : Is), (cs : Cs), (ws : Ws), ⟨⟩⟩, (id : Int), ⟨⟩⟩ _ _ X hX hz
  show Safe P 9 X (Ends [tBool] (true, ())) _
  refine go hz hX (tabRs_ok KV) Tryd.func9 (trRs ck nx ps is cs ws id) ⟨fun _ => ends_eq _ rfl (by kernel_rfl), fun hl => no_and rfl ?_⟩
  obtain ⟨_, l1, l2, l3, l4⟩ := okN_of hl
  have nil_ : (hasI is id && (gS is id == 2)) = false → scoF is id = [] := fun h => by
    unfold scoF scopesF; rw [if_neg (by rw [h]; simp)]; rfl
  refine ⟨by omega, by omega, fun hs => ⟨by omega, yes_and hs (ends_il rfl)⟩, fun hs => ?_⟩
  have S := sound_iff.1 (by simpa using hs)
  refine ⟨fun h0 => ⟨by omega, no_and hs (ends_is ?_)⟩, fun h0 => ⟨fun h1 => ⟨by omega, no_and hs (ends_is ?_)⟩, fun h1 => ?_⟩⟩
  · rw [nil_ (by rw [show hasI is id = false by simpa using h0]; rfl)]; rfl
  · rw [nil_ (by rw [show (gS is id == 2) = false from beq_eq_false_iff_ne.2 (by simpa using h1), Bool.and_false])]; rfl
  have h0 : hasI is id = true := by simpa using h0
  have h1 : gS is id = 2 := by simpa using h1
  obtain ⟨L, hd⟩ := S.sco h0 h1
  have hlen := L.len
  have hhd := L.hd
  have hup := L.up
  have hfin := L.fin
  have hsm : (scoF is id).length ≤ 200 := by
    have := S.deep (get_mem h0).1
    rw [(get_mem h0).2] at this
    omega
  have hpos : 0 < (scoF is id).length := by
    cases hc : scoF is id with
    | nil => rw [hc] at hhd; cases hhd
    | cons a r => simp
  have hg0 : (scoF is id).getD 0 0 = gU is id := by
    cases hc : scoF is id with
    | nil => rw [hc] at hhd; cases hhd
    | cons a r => rw [hc] at hhd; simpa using hhd
  refine no_and (by rw [bne_eq_false_iff_eq]; omega) (no_and (by rw [beq_eq_false_iff_ne]; omega) ⟨by omega, by omega, no_and (by rw [bne_eq_false_iff_eq]; exact hg0) ?_⟩)
  refine frzn_safe hX 1 ⟨[], [1, 2, 5, 8], 0, []⟩ (c := cRs ck nx ps is cs ws id (scoF is id) 1) (by kernel_rfl) ?_
  have hl' : ∃ l, scoF is id = l := ⟨_, rfl⟩
  obtain ⟨l, hl'⟩ := hl'
  rw [hl'] at hup hfin hsm hpos ⊢
  have loop : ∀ (j i : Nat), i + j = l.length → 0 < i → Safe P 9 X (Ends [tBool] (true, ())) (cRs ck nx ps is cs ws id l (i : Int)) := by
    intro j
    induction j with
    | zero =>
      intro i hij hi0
      refine go hz hX (tabRs_ok KV) Tryd.func9 (loopRs ck nx ps is cs ws id l i) ⟨fun h => absurd (of_decide_eq_true h) (by omega), fun _ => ⟨⟨by omega, by omega⟩, by omega, by omega, ?_⟩⟩
      rw [show ((l.length : Int) - 1).toNat = l.length - 1 from by omega]
      exact yes_and hfin.1 (yes_and (beq_iff_eq.2 hfin.2) ⟨by omega, hl', ends_eq _ rfl (by kernel_rfl)⟩)
    | succ j ih =>
      intro i hij hi0
      have hm : l.getD (i - 1) 0 ∈ belowF (esOf is) (l.getD i 0) := by
        have h2 := hup (i - 1) (by omega)
        rw [show i - 1 + 1 = i from by omega] at h2
        have := S.tr.reach_lt h2
        exact mem_below.2 ⟨by omega, h2⟩
      refine go hz hX (tabRs_ok KV) Tryd.func9 (loopRs ck nx ps is cs ws id l i) (yes_and (decide_eq_true (by omega)) ⟨by omega, by omega, by omega, ?_⟩)
      rw [Int.toNat_natCast]
      have hbl : (belowF (esOf is) (l.getD i 0)).length ≤ is.length := by have := below_le (esOf is) (l.getD i 0); rw [show (esOf is).length = is.length from List.length_map _] at this; exact this
      generalize belowF (esOf is) (l.getD i 0) = b at hm hbl
      refine frzn_safe hX 1 ⟨[], [1, 2, 5, 8, 9, 10, 11], 0, []⟩ (c := cRt ck nx ps is cs ws id l i false b 0) (by kernel_rfl) ?_
      have inner : ∀ (m k : Nat) (w : Bool), k + m = b.length → (w = true ∨ l.getD (i - 1) 0 ∈ b.drop k) → Safe P 9 X (Ends [tBool] (true, ())) (cRt ck nx ps is cs ws id l i w b (k : Int)) := by
        intro m
        induction m with
        | zero =>
          intro k w hk hw
          have hw : w = true := by
            rcases hw with h | h
            · exact h
            · rw [List.drop_eq_nil_of_le (by omega)] at h; cases h
          subst hw
          exact go hz hX (tabRs_ok KV) Tryd.func9 (loopRt ck nx ps is cs ws id l i true b k) ⟨fun h => absurd (of_decide_eq_true h) (by omega), fun _ => no_and rfl ⟨⟨by omega, by omega⟩, ih (i + 1) (by omega) (by omega)⟩⟩
        | succ m im =>
          intro k w hk hw
          refine go hz hX (tabRs_ok KV) Tryd.func9 (loopRt ck nx ps is cs ws id l i w b k) (yes_and (decide_eq_true (by omega)) ?_)
          rw [Int.toNat_natCast, show ((i : Int) - 1).toNat = i - 1 from by omega]
          cases w with
          | true => exact yes_and rfl ⟨⟨by omega, by omega⟩, im (k + 1) true (by omega) (.inl rfl)⟩
          | false =>
            refine no_and rfl ⟨by omega, by omega, ⟨by omega, by omega⟩, by omega, by omega, ⟨by omega, by omega⟩, im (k + 1) _ (by omega) ?_⟩
            have hw : l.getD (i - 1) 0 ∈ b.drop k := hw.resolve_left (by simp)
            rw [List.drop_eq_getElem_cons (by omega)] at hw
            rcases List.mem_cons.1 hw with h | h
            · exact .inl (by rw [getD_lt (show k < b.length by omega), ← h]; simp)
            · exact .inr h
      exact inner b.length 0 false (Nat.zero_add _) (.inr hm)
  exact loop (l.length - 1) 1 (by omega) (by omega)
end Ds

/-! A package variable that is a map of rows of bytes: from what a row lists to how it is read. -/
namespace Go.Sx
open Go Go.RowKit Go.ChangeShapes Go.WideShapes Go.ChangeAt

/-- All that stood there stands. -/
def Glob.all (W : World) : Glob where
  bs := List.range W.heap.size
  ok w := ∀ b, b < W.heap.size → w.heap[b]? = W.heap[b]?
  low w h b hb := by
    have hb := List.mem_range.1 hb
    have := h b hb
    rw [Array.getElem?_eq_getElem hb] at this
    exact (Array.getElem?_eq_some_iff.1 this).1
  keep w w' h hk b hb := (hk b (List.mem_range.2 hb)).trans (h b hb)

theorem Glob.all_self (W : World) : (Glob.all W).ok W := fun _ _ => rfl

theorem all_cell {W w : World} (h : (Glob.all W).ok w) {a : Addr} {v : Value} (hc : W.cell? a = some v) : w.cell? a = some v := by
  have hlt : a.block < W.heap.size := by
    rcases Nat.lt_or_ge a.block W.heap.size with h2 | h2
    · exact h2
    · simp [World.cell?, Array.getElem?_eq_none h2] at hc
  unfold World.cell? at hc ⊢
  rw [h a.block hlt]
  exact hc

/-- The map as a row lists it. -/
def rowsData {H : Type} (rows : List (Int × List Int)) : DataW H := .map (rows.map fun x => (.int .u8 x.1, .slice (lits .u8 x.2) []))

def foundAt (es : List MapEntry) (n : Int) : Value := match Instr.findNow (.int .u8) (.int .u8 n) es 0 with
  | some (some (_, v)) => v
  | _ => .slice none 0 0

theorem find_u8 {l : List MapEntry} (hks : ∀ x ∈ l, MapKept.IsKey (.int .u8) x.key) (n : Int) :
    (Instr.findNow (.int .u8) (.int .u8 n) l 0 = some none ∧ ∀ x ∈ l, x.key ≠ .int .u8 n) ∨ ∃ j e, Instr.findNow (.int .u8) (.int .u8 n) l 0 = some (some (j, e.val)) ∧ e ∈ l ∧ e.key = .int .u8 n := by
  rcases MapKept.findNow_spec (d := .int .u8) (k := .int .u8 n) rfl l 0 hks with h | ⟨j, e, h1, h2, h3⟩
  · exact .inl h
  · exact .inr ⟨_, e, h1, List.mem_of_getElem? h2, h3⟩

section
variable {P : Program} {W : World} {name : String} {rows : List (Int × List Int)} {rest : List (String × DataW Unit)} {g : Nat} {t kt et e1 : TypeId} {row : Int → List Int}

theorem lits_inj {H : Type} {k : IntKind} : ∀ {xs ys : List Int}, (lits k xs : List (DataW H)) = lits k ys → xs = ys
  | [], [], _ => rfl
  | [], _ :: _, h => by simp [lits] at h
  | _ :: _, [], h => by simp [lits] at h
  | x :: xs, y :: ys, h => by
    simp only [lits, List.map_cons, List.cons.injEq, DataW.lit.injEq, Lit.int.injEq, true_and] at h
    rw [h.1, lits_inj (H := H) (k := k) (show lits k xs = lits k ys from h.2)]

/-- A row without spare reads as its integers. -/
theorem row_den {H : Type} {enc : TypeId × Value → H} {base : Nat} {sp : Nat → Bool} {held : Bool} {t e : TypeId} {fuel : Nat} {v : Value} {zs : List Int} {p : List MemPlace} (ht : P.underlying t = some (.slice e)) (he : P.underlying e = some (.int .u8)) (hc : P.cellsOf e = 1)
    (hf : v.formed P t = true) (h : DataW.trod enc P W base sp held fuel t v.cells.toList = some (.slice (lits .u8 zs) [], p)) {w : World} (hz : (Glob.all W).ok w) : v.oneCell' = true ∧ DenS (fun _ => False) w (.ro (.ints .u8 zs)) v := by
  rcases open_ints ht he hc h with ⟨_, hx⟩ | ⟨a, len, cap, zs', hcs, _, hl, hm, hlen, hx, hcell, _⟩
  · cases hx
  · simp only [Prod.mk.injEq, DataW.slice.injEq] at hx
    obtain ⟨⟨hx1, hx2⟩, _⟩ := hx
    have hd : zs'.drop len = [] := lits_inj (H := H) (k := .u8) (by rw [← hx2]; rfl)
    have e1 := lits_inj hx1
    have hle : zs'.length ≤ len := by simpa using hd
    have h2 : len ≤ zs'.length := by rw [hlen]; split <;> omega
    rw [List.take_of_length_le hle] at e1
    subst e1
    have hlz : zs.length = len := by omega
    have hv : v = .slice (some a) len cap := by
      cases v <;> first
        | (simp only [Value.cells, List.cons.injEq, and_true] at hcs; exact hcs)
        | (simp [Value.formed, ht] at hf)
    subst hv
    refine ⟨rfl, ?_⟩
    rcases Nat.eq_zero_or_pos len with h0 | h0
    · have hz0 : zs = [] := List.length_eq_zero_iff.1 (by omega)
      subst hz0
      subst h0
      exact .ro (.ints .u8 []) (some a) cap (fun _ _ => undef) 0 0 (Nat.zero_le _) hm (fun h => by simp [Con.n] at h) (fun i j hi hj => by simp [Con.n] at hi) (fun i j hi hj => by simp [Con.n] at hi)
    · obtain ⟨b, o, rfl, hc⟩ := ints_at hcell (by omega)
      have hn : (Con.ints .u8 zs).n = len := hlz
      have key := DenS.ro (O := fun _ => False) (w := w) (.ints .u8 zs) (some ⟨b, o, none⟩) cap (fun j _ => .int .u8 (zs.getD j 0)) b o (by omega) hm (fun _ => ⟨rfl, fun h => h, ?_⟩) (fun j l hj hl' => ?_) (fun j l hj hl' => ?_)
      · rw [hn] at key
        exact key
      · have h1 := all_cell hz (hc 0 (by omega))
        rcases Nat.lt_or_ge b w.heap.size with h2 | h2
        · exact h2
        · simp [World.cell?, Array.getElem?_eq_none h2] at h1
      · rw [hn] at hj
        simp only [Con.size] at hl' ⊢
        obtain rfl : l = 0 := by omega
        rw [Nat.mul_one, Nat.add_zero]
        exact all_cell hz (hc j (by omega))
      · exact .int _ _

/-- From the list to the variable. -/
theorem mapVar_of (hg : P.globalNamed name = some g) (hty : (P.globals[g]?).map (·.type) = some t) (ht : P.underlying t = some (.map kt et)) (hk : P.underlying kt = some (.int .u8)) (he : P.underlying et = some (.slice e1)) (h1 : P.underlying e1 = some (.int .u8)) (hc1 : P.cellsOf e1 = 1)
    (hzv : (P.info? et).bind (·.zero) = some (.slice none 0 0)) (hrow : ∀ x ∈ rows, row x.1 = x.2) (hno : ∀ n, (∀ x ∈ rows, x.1 ≠ n) → row n = [])
    (h : laidMet P ((name, rowsData rows) :: rest) W) : Nonempty (MapVar P (Glob.all W) g t row) := by
  obtain ⟨ps, ⟨g', t', cs, fuel, p, q, hg', ht', hvar, hd, _, _⟩, _⟩ := h
  obtain rfl := Option.some.inj (hg.symm.trans hg')
  obtain rfl := Option.some.inj (hty.symm.trans ht')
  rcases WideElems.open_map ht hd with ⟨_, hx⟩ | ⟨b, es, clock, n, rfl, hcs, hb, _, F, hx⟩
  · cases hx
  · simp only [Prod.mk.injEq, rowsData, DataW.map.injEq] at hx
    obtain ⟨hx, _⟩ := hx
    have hperm := sorted_perm (es.toList.map (WideElems.rg P kt (WideElems.elemAt (fun _ => ()) P W 0 (fun _ => true) false n et)))
    rw [← hx] at hperm
    have hkey : ∀ x ∈ es.toList, ∃ m, x.key = .int .u8 m ∧ ∃ zs q, (m, zs) ∈ rows ∧ x.val.formed P et = true ∧ DataW.trod (fun _ => ()) P W 0 (fun _ => true) false n et x.val.cells.toList = some (.slice (lits .u8 zs) [], q) := by
      intro x hxm
      obtain ⟨y, hy⟩ := F.reads x hxm
      have hk1 := WideElems.rd_key hy
      obtain ⟨z, hz1, hz2⟩ := WideElems.rd_val hy
      have hm := hperm.mem_iff.2 (List.mem_map_of_mem (f := WideElems.rg P kt (WideElems.elemAt (fun _ => ()) P W 0 (fun _ => true) false n et)) hxm)
      rw [WideElems.rg_of hy] at hm
      obtain ⟨r, hr, e⟩ := List.mem_map.1 hm
      subst e
      simp only at hk1 hz2
      have hk2 : mapKey P kt x.key = some (.int .u8 r.1) := by unfold Go.keyOf at hk1; rw [hk] at hk1; exact hk1
      have hk3 : x.key = .int .u8 r.1 := by
        generalize x.key = u at hk2
        unfold mapKey at hk2
        rw [hk] at hk2
        cases u <;> simp at hk2
        obtain ⟨⟨rfl, _⟩, rfl⟩ := hk2
        rfl
      unfold WideElems.elemAt at hz1
      split at hz1
      · rename_i hf
        refine ⟨r.1, hk3, r.2, z.2, hr, hf, ?_⟩
        rw [hz1, hz2]
      · cases hz1
    have hback : ∀ x ∈ rows, ∃ y ∈ es.toList, y.key = .int .u8 x.1 := by
      intro x hx1
      have hm := hperm.mem_iff.1 (List.mem_map_of_mem (f := fun x : Int × List Int => ((Lit.int .u8 x.1, DataW.slice (lits .u8 x.2) []) : Lit × DataW Unit)) hx1)
      obtain ⟨y, hy, e⟩ := List.mem_map.1 hm
      obtain ⟨z, hz⟩ := F.reads y hy
      rw [WideElems.rg_of hz] at e
      subst e
      have hk1 := WideElems.rd_key hz
      simp only at hk1
      have hk2 : mapKey P kt y.key = some (.int .u8 x.1) := by unfold Go.keyOf at hk1; rw [hk] at hk1; exact hk1
      refine ⟨y, hy, ?_⟩
      generalize y.key = u at hk2
      unfold mapKey at hk2
      rw [hk] at hk2
      cases u <;> simp at hk2
      obtain ⟨⟨rfl, _⟩, rfl⟩ := hk2
      rfl
    have hks : ∀ x ∈ es.toList, MapKept.IsKey (.int .u8) x.key := fun x hx => by
      obtain ⟨m, h1, _⟩ := hkey x hx
      rw [h1]; rfl
    have hblt : b < W.heap.size := (Array.getElem?_eq_some_iff.1 hb).1
    have hgc : W.cell? ⟨g, 0, none⟩ = some (.map (some b)) := by
      rw [World.var?_cell hg hvar 0, ← Array.getElem?_toList, hcs]; rfl
    refine ⟨⟨.map (some b), foundAt es.toList, rfl, fun m => ?_, fun o e w ho hev hz => ?_, fun w m hz => ?_, fun w m hz => ?_⟩⟩
    · unfold foundAt
      rcases find_u8 hks m with ⟨h2, _⟩ | ⟨j, x, h2, h3, _⟩
      · rw [h2]; rfl
      · rw [h2]
        obtain ⟨_, _, zs, q, _, h5, h6⟩ := hkey x h3
        exact (row_den he h1 hc1 h5 h6 (Glob.all_self W)).1
    · unfold execOp
      rw [ho]
      have := run_loadVar_one (P := P) (w := w) (t := t) (b := g) (off := 0) (v := .map (some b)) (by unfold aggT; rw [ht]) (all_cell hz hgc)
      simp only [hev, Sem.run_bind, this, Result.andThen_ok, Sem.run_pure]
    · have hb' : w.heap[b]? = some (.map es clock) := (hz b hblt).trans hb
      have hzero : (zeroValue et).run P w = .ok (.slice none 0 0) w := by
        obtain ⟨i, h1, h2⟩ := Option.bind_eq_some_iff.1 hzv
        simp [zeroValue, typeInfo, h1, h2]
      have hc := MapKept.run_checkKey (P := P) (w := w) hk (k := .int .u8 m) rfl es.isEmpty 9999
      unfold foundAt
      rcases find_u8 hks m with ⟨h2, _⟩ | ⟨j, x, h2, h3, _⟩
      · have h4 := MapKept.run_findKey (P := P) (w := w) hk h2
        simp [Instr.lookup, run_underlying ht, MapKept.run_getObj_map hb', hc, h4, h2, hzero, Result.andThen]
      · have h4 := MapKept.run_findKey (P := P) (w := w) hk h2
        simp [Instr.lookup, run_underlying ht, MapKept.run_getObj_map hb', hc, h4, h2, Result.andThen]
    · unfold foundAt
      rcases find_u8 hks m with ⟨h2, h3⟩ | ⟨j, x, h2, h3, h4⟩
      · rw [h2, hno m fun x hx e => ?_]
        · exact .ro (.ints .u8 []) none 0 (fun _ _ => undef) 0 0 (Nat.zero_le _) (Nat.zero_le _) (fun h => by simp [Con.n] at h) (fun i j hi hj => by simp [Con.n] at hi) (fun i j hi hj => by simp [Con.n] at hi)
        · obtain ⟨y, hy, e2⟩ := hback x hx
          exact h3 y hy (by rw [e2, e])
      · rw [h2]
        obtain ⟨m', h8, zs, q, h9, h5, h6⟩ := hkey x h3
        rw [h4] at h8
        cases h8
        have := hrow _ h9
        simp only at this
        rw [this]
        exact (row_den he h1 hc1 h5 h6 hz).2
end
end Go.Sx
