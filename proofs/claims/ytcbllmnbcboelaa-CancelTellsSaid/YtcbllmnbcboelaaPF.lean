/- Lemmas: A14, A15, A16, A17, A18, A19, A20, A22. -/
import Derived.Test.YtcbllmnbcboelaaPE

namespace Ds
open Go Go.Sx Go.Proofs Lf
theorem cancelJust_ok {Z : Glob} : FnOk P Z 6 [tSt, tInt] [tBool] (fun _ => []) (fun _ => (true, ())) := by
  refine fnOk_of_safe Try.func6 (by kernel_rfl) (by kernel_rfl) ?_
  rintro ⟨⟨(ck : Int), (nx : Int), (ps : Ps), (is : Is), (cs : Cs), (ws : Ws), ⟨⟩⟩, (id : Int), ⟨⟩⟩ _ _ X hX hz
  show Safe P 6 X (Ends [tBool] (true, ())) _
  refine go hz hX tabLw_ok Try.func6 (trLj ck nx ps is cs ws id) (no_and rfl ⟨fun _ => ends_eq _ rfl (by kernel_rfl), fun hl => ?_⟩)
  obtain ⟨l1, l2, l3⟩ := not_large hl
  have ga := delF_len (pIt (takeL is id)) is
  have hb := below_le (esOf is) id
  have hb2 : (esOf is).length = is.length := List.length_map _
  refine ⟨by omega, by omega, by omega, ?_⟩
  cases hh : hasI is id with
  | false =>
    rw [take_no hh]
    have e : delF (pIt []) is = is := del_nil (fun x : CL cI => iI x) is
    refine yes_and rfl ⟨⟨rfl, rfl, rfl, e.symm, (del_nil (fun x : CL cC => lS x) cs).symm, (del_nil (fun x : CL cW => wT x) ws).symm⟩, yes_and rfl ⟨by omega, ?_⟩⟩
    rw [e, gone_self]
    exact ends_eq _ rfl (by kernel_rfl)
  | true =>
    have et := take_yes hh
    refine no_and rfl ⟨by omega, by omega, ⟨rfl, rfl, rfl, by rw [et], by rw [et], by rw [et]⟩, no_and rfl ⟨by omega, ?_⟩⟩
    rw [← et]
    have hid : id ∈ takeL is id := mem_take.2 ⟨hh, .inl rfl⟩
    have hg : ∀ x ∈ goneF is (delF (pIt (takeL is id)) is), x ∈ takeL is id := fun x hx => by
      obtain ⟨h1, h2⟩ := mem_gone.1 hx
      exact Classical.byContradiction fun h => by rw [has_del.2 ⟨h1, h⟩] at h2; cases h2
    have hr : Rises (goneF is (delF (pIt (takeL is id)) is)) := setS_lt _
    have hc : (goneF is (delF (pIt (takeL is id)) is)).contains id = true := by
      rw [List.contains_eq_mem, decide_eq_true_iff]
      refine mem_gone.2 ⟨hh, ?_⟩
      rw [← Bool.not_eq_true, has_del]
      exact fun h => h.2 hid
    have hk : kidsF (esOf (delF (pIt (takeL is id)) is)) id = [] := kids_nil fun x hx => take_kid hid hx
    have hgl : (goneF is (delF (pIt (takeL is id)) is)).length ≤ is.length := by
      refine Nat.le_trans (setS_len _) (Nat.le_trans (List.length_filter_le _ _) ?_)
      rw [List.length_map]; exact Nat.le_refl _
    generalize goneF is (delF (pIt (takeL is id)) is) = g at *
    have loop : ∀ (n i : Nat), i + n = g.length → Safe P 6 X (Ends [tBool] (true, ())) (cLj ck nx ps (delF (pIt (takeL is id)) is) (delF (pDr (takeL is id)) cs) (delF (pWa (takeL is id)) ws) id (takeL is id) g (i : Int)) := by
      intro n
      induction n with
      | zero =>
        intro i hi
        refine go hz hX tabLw_ok Try.func6 (loopLj ck nx ps _ _ _ id _ g i) (no_and (decide_eq_false (by omega)) (yes_and hc ⟨by omega, ?_⟩))
        rw [hk]
        exact ends_eq _ rfl (by kernel_rfl)
      | succ n ih =>
        intro i hi
        have hlt : i < g.length := by omega
        refine go hz hX tabLw_ok Try.func6 (loopLj ck nx ps _ _ _ id _ g i) (yes_and (decide_eq_true (by omega)) ⟨by omega, by omega, ?_⟩)
        rw [Int.toNat_natCast, getD_lt hlt]
        have h1 : (takeL is id).contains g[i] = true := by rw [List.contains_eq_mem, decide_eq_true_iff]; exact hg _ (List.getElem_mem hlt)
        refine no_and (by rw [h1]; rfl) ?_
        by_cases h0 : i = 0
        · exact no_and (decide_eq_false (by omega)) ⟨⟨by omega, by omega⟩, ih (i + 1) (by omega)⟩
        · refine yes_and (decide_eq_true (by omega)) ⟨by omega, by omega, ⟨by omega, by omega⟩, by omega, by omega, ?_⟩
          rw [show ((i : Int) - 1).toNat = i - 1 from by omega, getD_lt (show i - 1 < g.length by omega)]
          have h2 : g[i - 1] < g[i] := (List.pairwise_iff_getElem.1 hr) (i - 1) i (by omega) hlt (by omega)
          exact no_and (decide_eq_false (by omega)) ⟨⟨by omega, by omega⟩, ih (i + 1) (by omega)⟩
    exact loop g.length 0 (by omega)
theorem clear_yes {is : Is} {a : Int} (h : hasI is a = true) : clearL is a = delF (fun x => x == a) (belowF (esOf is) a) := by unfold clearL; rw [if_pos h]
theorem clear_no {is : Is} {a : Int} (h : hasI is a = false) : clearL is a = [] := by unfold clearL; rw [if_neg (by simp [h])]
theorem break_yes {is : Is} {a : Int} (h : hasI is a = true) : breakL is a = clearL is a ++ [a] := by unfold breakL; rw [if_pos h]
theorem break_no {is : Is} {a : Int} (h : hasI is a = false) : breakL is a = [] := by unfold breakL; rw [if_neg (by simp [h])]
theorem cancelClear_ok {Z : Glob} : FnOk P Z 10 [tSt, tInt] [tBool] (fun _ => []) (fun _ => (true, ())) := by
  refine fnOk_of_safe Try.func10 (by kernel_rfl) (by kernel_rfl) ?_
  rintro ⟨⟨(ck : Int), (nx : Int), (ps : Ps), (is : Is), (cs : Cs), (ws : Ws), ⟨⟩⟩, (id : Int), ⟨⟩⟩ _ _ X hX hz
  show Safe P 10 X (Ends [tBool] (true, ())) _
  refine go hz hX tabLw_ok Try.func10 (trLc ck nx ps is cs ws id) (no_and rfl ⟨fun _ => ends_eq _ rfl (by kernel_rfl), fun hl => ?_⟩)
  obtain ⟨l1, l2, l3⟩ := not_large hl
  have hb := below_le (esOf is) id
  have hb2 : (esOf is).length = is.length := List.length_map _
  refine ⟨by omega, by omega, by omega, by omega, by omega, by omega, ?_⟩
  cases hh : hasI is id with
  | false =>
    rw [clear_no hh, break_no hh]
    have e : is = delF (pIt []) is := (del_nil (fun x : CL cI => iI x) is).symm
    have e2 : cs = delF (pDr []) cs := (del_nil (fun x : CL cC => lS x) cs).symm
    have e3 : ws = delF (pWa []) ws := (del_nil (fun x : CL cW => wT x) ws).symm
    exact yes_and rfl ⟨⟨rfl, rfl, rfl, e, e2, e3⟩, yes_and rfl ⟨⟨rfl, rfl, rfl, e, e2, e3⟩, ends_eq _ rfl (by kernel_rfl)⟩⟩
  | true =>
    refine no_and rfl ⟨by omega, ?_⟩
    have ec := clear_yes hh
    have eb := break_yes hh
    have hid : id ∉ clearL is id := by
      rw [ec]
      intro h
      have := (mem_del.1 h).2
      simp at this
    have hk : kidsF (esOf (delF (pIt (clearL is id)) is)) id = [] := kids_nil fun x hx => by
      rw [ec]
      have hne : x ≠ id := (mem_kids.1 hx).2
      exact mem_del.2 ⟨mem_below.2 ⟨hne, .kid hx⟩, by simpa using hne⟩
    have hhas : hasI (delF (pIt (clearL is id)) is) id = true := has_del.2 ⟨hh, hid⟩
    have hget : getI (delF (pIt (clearL is id)) is) id = getI is id := get_del hid
    have hcl : (clearL is id).length ≤ is.length := by
      rw [ec]
      have := delF_len (fun x => x == id) (belowF (esOf is) id)
      omega
    have hisl := delF_len (pIt (clearL is id)) is
    have hgg : (gI (delF (pIt (clearL is id)) is) id == gI is id && (gU (delF (pIt (clearL is id)) is) id == gU is id && (gS (delF (pIt (clearL is id)) is) id == gS is id && (decide (gP (delF (pIt (clearL is id)) is) id = gP is id) && (gN (delF (pIt (clearL is id)) is) id == gN is id && (gF (delF (pIt (clearL is id)) is) id == gF is id && (gW (delF (pIt (clearL is id)) is) id == gW is id && (decide (gC (delF (pIt (clearL is id)) is) id = gC is id) && true)))))))) = true := by
      unfold gI gU gS gP gN gF gW gC
      rw [hget]
      simp
    have loop : ∀ (n i : Nat) (acc : List Int), i + n = (belowF (esOf is) id).length → acc = delF (fun x => x == id) ((belowF (esOf is) id).take i) → acc.length ≤ i → Safe P 10 X (Ends [tBool] (true, ())) (cLc ck nx ps is cs ws (delF (pIt (clearL is id)) is) (delF (pDr (clearL is id)) cs) (delF (pWa (clearL is id)) ws) (delF (pWa (breakL is id)) ws) id acc (belowF (esOf is) id) (i : Int)) := by
      intro n
      induction n with
      | zero =>
        intro i acc hi ha hal
        rw [List.take_of_length_le (by omega), ← ec] at ha
        subst ha
        refine go hz hX tabLw_ok Try.func10 (loopLc ck nx ps is cs ws _ _ _ _ id _ _ i) (no_and (decide_eq_false (by omega)) ⟨by omega, ⟨rfl, rfl, rfl, rfl, rfl, rfl⟩, yes_and rfl ⟨by omega, by rw [List.nil_append]; omega, ⟨rfl, rfl, rfl, rfl, rfl, by rw [eb]; rfl⟩, yes_and rfl (yes_and hhas (yes_and hgg ?_))⟩⟩)
        rw [hk]
        exact yes_and rfl (ends_eq _ rfl (by kernel_rfl))
      | succ n ih =>
        intro i acc hi ha hal
        have hlt : i < (belowF (esOf is) id).length := by omega
        refine go hz hX tabLw_ok Try.func10 (loopLc ck nx ps is cs ws _ _ _ _ id acc _ i) (yes_and (decide_eq_true (by omega)) ⟨by omega, by omega, ?_⟩)
        rw [Int.toNat_natCast, getD_lt hlt]
        have st := delF_take (p := fun x => x == id) hlt
        by_cases he : (belowF (esOf is) id)[i] = id
        · rw [if_pos (by simpa using he), List.append_nil] at st
          exact no_and (by simpa using he) ⟨⟨by omega, by omega⟩, ih (i + 1) acc (by omega) (by rw [st]; exact ha) (by omega)⟩
        · rw [if_neg (by simpa using he)] at st
          exact yes_and (by simpa using he) ⟨by omega, by omega, by omega, ⟨by omega, by omega⟩, ih (i + 1) (acc ++ [(belowF (esOf is) id)[i]]) (by omega) (by rw [st, ← ha]) (by simp; omega)⟩
    exact loop (belowF (esOf is) id).length 0 [] (by omega) rfl (by simp)
end Ds

namespace Ds
open Go Go.Sx Go.Proofs Lf
/-! the document's -/
theorem trI8 (l : List Int) (x : Int) : run P tab0.sum Try.f94 nsIn (start Try.f94 [avL l, avI x] []) =
  Tree.at (Cfg.mk (sl (18 : Nat) [((0 : Nat), AV.s (SV.ro (Con.ints IntKind.i64 l))), ((1 : Nat), AV.s (SV.int IntKind.i64 x)), ((5 : Nat), AV.s (SV.int IntKind.i64 (0 : Int)))]) [] (hd Try.f94 (2 : Nat)) (Stk.mk none false (0 : Nat) [] (0 : Nat))) := by kernel_rfl
noncomputable def cI8 (l : List Int) (x i : Int) : Cfg := ⟨sl 18 [(0, avL l), (1, avI x), (5, avI i)], [], hd Try.f94 2, {}⟩
theorem loopI8 (l : List Int) (x i : Int) : run P tab0.sum Try.f94 nsIn (cI8 l x i) =
  Tree.ite (decide (i < (↑l.length : Int))) (Tree.need ((0 : Int) ≤ i) (Tree.need (i < (↑l.length : Int)) (Tree.ite (l.getD i.toNat (0 : Int) == x) (Tree.ret [] (AV.s (SV.blit true))) (Tree.need (inI64 (i + (1 : Int))) (Tree.at (Cfg.mk (sl (18 : Nat) [((0 : Nat), AV.s (SV.ro (Con.ints IntKind.i64 l))), ((1 : Nat), AV.s (SV.int IntKind.i64 x)), ((5 : Nat), AV.s (SV.int IntKind.i64 (i + (1 : Int))))]) [] (hd Try.f94 (2 : Nat)) (Stk.mk none false (0 : Nat) [] (0 : Nat)))))))) (Tree.ret [] (AV.s (SV.blit false))) := by kernel_rfl
theorem trI1 (l : List Int) (x : Int) : run P tab0.sum Try.f69 nsIn (start Try.f69 [avL l, avI x] []) =
  Tree.at (Cfg.mk (sl (18 : Nat) [((0 : Nat), AV.s (SV.ro (Con.ints IntKind.i64 l))), ((1 : Nat), AV.s (SV.int IntKind.i64 x)), ((5 : Nat), AV.s (SV.int IntKind.i64 (0 : Int)))]) [] (hd Try.f69 (2 : Nat)) (Stk.mk none false (0 : Nat) [] (0 : Nat))) := by kernel_rfl
noncomputable def cI1 (l : List Int) (x i : Int) : Cfg := ⟨sl 18 [(0, avL l), (1, avI x), (5, avI i)], [], hd Try.f69 2, {}⟩
theorem loopI1 (l : List Int) (x i : Int) : run P tab0.sum Try.f69 nsIn (cI1 l x i) =
  Tree.ite (decide (i < (↑l.length : Int))) (Tree.need ((0 : Int) ≤ i) (Tree.need (i < (↑l.length : Int)) (Tree.ite (l.getD i.toNat (0 : Int) == x) (Tree.ret [] (AV.s (SV.blit true))) (Tree.need (inI64 (i + (1 : Int))) (Tree.at (Cfg.mk (sl (18 : Nat) [((0 : Nat), AV.s (SV.ro (Con.ints IntKind.i64 l))), ((1 : Nat), AV.s (SV.int IntKind.i64 x)), ((5 : Nat), AV.s (SV.int IntKind.i64 (i + (1 : Int))))]) [] (hd Try.f69 (2 : Nat)) (Stk.mk none false (0 : Nat) [] (0 : Nat)))))))) (Tree.ret [] (AV.s (SV.blit false))) := by kernel_rfl
def tabSt : Tab := [(94, sumIn)]
def nsSt : List (Nat × Norm) := [(3, ⟨[(3, .ints .i64 [], 3)], [0, 3, 4], 0, []⟩), (7, ⟨[], [0, 3, 4, 5], 0, []⟩)]
theorem trSt (l : List Int) : run P tabSt.sum Try.f95 nsSt (start Try.f95 [avL l] []) =
  Tree.at (Cfg.mk (sl (51 : Nat) [((0 : Nat), AV.s (SV.ro (Con.ints IntKind.i64 l))), ((3 : Nat), AV.vec (0 : Nat)), ((4 : Nat), AV.s (SV.int IntKind.i64 (0 : Int)))]) [AObj.vec (Con.ints IntKind.i64 []) (3 : Nat)] (hd Try.f95 (3 : Nat)) (Stk.mk none false (0 : Nat) [] (0 : Nat))) := by kernel_rfl
noncomputable def cSt (l acc : List Int) (i : Int) : Cfg := ⟨sl 51 [(0, avL l), (3, .vec 0), (4, avI i)], [.vec (.ints .i64 acc) 3], hd Try.f95 3, {}⟩
theorem loopSt (l acc : List Int) (i : Int) : run P tabSt.sum Try.f95 nsSt (cSt l acc i) =
  Tree.ite (decide (i < (↑l.length : Int))) (Tree.need ((0 : Int) ≤ i) (Tree.need (i < (↑l.length : Int)) (Tree.ite (acc.contains (l.getD i.toNat (0 : Int))) (Tree.need (inI64 (i + (1 : Int))) (Tree.at (Cfg.mk (sl (51 : Nat) [((0 : Nat), AV.s (SV.ro (Con.ints IntKind.i64 l))), ((3 : Nat), AV.vec (0 : Nat)), ((4 : Nat), AV.s (SV.int IntKind.i64 (i + (1 : Int))))]) [AObj.vec (Con.ints IntKind.i64 acc) (3 : Nat)] (hd Try.f95 (3 : Nat)) (Stk.mk none false (0 : Nat) [] (0 : Nat))))) (Tree.at (Cfg.mk (sl (51 : Nat) [((0 : Nat), AV.s (SV.ro (Con.ints IntKind.i64 l))), ((3 : Nat), AV.vec (0 : Nat)), ((4 : Nat), AV.s (SV.int IntKind.i64 i)), ((5 : Nat), AV.s (SV.int IntKind.i64 (0 : Int)))]) [AObj.vec (Con.ints IntKind.i64 acc) (3 : Nat)] (hd Try.f95 (7 : Nat)) (Stk.mk none false (0 : Nat) [] (0 : Nat))))))) (Tree.ret [AObj.vec (Con.ints IntKind.i64 acc) (3 : Nat)] (AV.vec (0 : Nat))) := by kernel_rfl
noncomputable def cSt2 (l acc : List Int) (i k : Int) : Cfg := ⟨sl 51 [(0, avL l), (3, .vec 0), (4, avI i), (5, avI k)], [.vec (.ints .i64 acc) 3], hd Try.f95 7, {}⟩
theorem loopSt2 (l acc : List Int) (i k : Int) : run P tabSt.sum Try.f95 nsSt (cSt2 l acc i k) =
  Tree.ite (decide (k < (↑acc.length : Int))) (Tree.need ((0 : Int) ≤ k) (Tree.need (k < (↑acc.length : Int)) (Tree.need ((0 : Int) ≤ i) (Tree.need (i < (↑l.length : Int)) (Tree.ite (decide (acc.getD k.toNat (0 : Int) < l.getD i.toNat (0 : Int))) (Tree.need (inI64 (k + (1 : Int))) (Tree.at (Cfg.mk (sl (51 : Nat) [((0 : Nat), AV.s (SV.ro (Con.ints IntKind.i64 l))), ((3 : Nat), AV.vec (0 : Nat)), ((4 : Nat), AV.s (SV.int IntKind.i64 i)), ((5 : Nat), AV.s (SV.int IntKind.i64 (k + (1 : Int))))]) [AObj.vec (Con.ints IntKind.i64 acc) (3 : Nat)] (hd Try.f95 (7 : Nat)) (Stk.mk none false (0 : Nat) [] (0 : Nat))))) (Tree.need ((0 : Int) ≤ (0 : Int)) (Tree.need ((0 : Int) ≤ k) (Tree.need ((↑(0 : Nat) : Int) + k ≤ (↑acc.length : Int)) (Tree.need (((0 : Nat) + (List.drop (0 : Nat) (List.take ((0 : Nat) + (k.toNat - Int.toNat (0 : Int))) acc)).length) * (8 : Nat) ≤ (140737488355328 : Nat)) (Tree.need ((0 : Int) ≤ i) (Tree.need (i < (↑l.length : Int)) (Tree.need ((([] ++ List.drop (0 : Nat) (List.take ((0 : Nat) + (k.toNat - Int.toNat (0 : Int))) acc)).length + (1 : Nat)) * (8 : Nat) ≤ (140737488355328 : Nat)) (Tree.need ((0 : Int) ≤ k) (Tree.need (k ≤ (↑acc.length : Int)) (Tree.need ((↑(0 : Nat) : Int) + (↑acc.length : Int) ≤ (↑acc.length : Int)) (Tree.need ((([] ++ List.drop (0 : Nat) (List.take ((0 : Nat) + (k.toNat - Int.toNat (0 : Int))) acc) ++ [l.getD i.toNat (0 : Int)]).length + (List.drop ((0 : Nat) + k.toNat) (List.take ((0 : Nat) + k.toNat + ((↑acc.length : Int).toNat - k.toNat)) acc)).length) * (8 : Nat) ≤ (140737488355328 : Nat)) (Tree.need (inI64 (i + (1 : Int))) (Tree.at (Cfg.mk (sl (51 : Nat) [((0 : Nat), AV.s (SV.ro (Con.ints IntKind.i64 l))), ((3 : Nat), AV.vec (0 : Nat)), ((4 : Nat), AV.s (SV.int IntKind.i64 (i + (1 : Int))))]) [AObj.vec (Con.ints IntKind.i64 ([] ++ List.drop (0 : Nat) (List.take ((0 : Nat) + (k.toNat - Int.toNat (0 : Int))) acc) ++ [l.getD i.toNat (0 : Int)] ++ List.drop ((0 : Nat) + k.toNat) (List.take ((0 : Nat) + k.toNat + ((↑acc.length : Int).toNat - k.toNat)) acc))) (3 : Nat)] (hd Try.f95 (3 : Nat)) (Stk.mk none false (0 : Nat) [] (0 : Nat))))))))))))))))))))) (Tree.need ((0 : Int) ≤ (0 : Int)) (Tree.need ((0 : Int) ≤ k) (Tree.need ((↑(0 : Nat) : Int) + k ≤ (↑acc.length : Int)) (Tree.need (((0 : Nat) + (List.drop (0 : Nat) (List.take ((0 : Nat) + (k.toNat - Int.toNat (0 : Int))) acc)).length) * (8 : Nat) ≤ (140737488355328 : Nat)) (Tree.need ((0 : Int) ≤ i) (Tree.need (i < (↑l.length : Int)) (Tree.need ((([] ++ List.drop (0 : Nat) (List.take ((0 : Nat) + (k.toNat - Int.toNat (0 : Int))) acc)).length + (1 : Nat)) * (8 : Nat) ≤ (140737488355328 : Nat)) (Tree.need ((0 : Int) ≤ k) (Tree.need (k ≤ (↑acc.length : Int)) (Tree.need ((↑(0 : Nat) : Int) + (↑acc.length : Int) ≤ (↑acc.length : Int)) (Tree.need ((([] ++ List.drop (0 : Nat) (List.take ((0 : Nat) + (k.toNat - Int.toNat (0 : Int))) acc) ++ [l.getD i.toNat (0 : Int)]).length + (List.drop ((0 : Nat) + k.toNat) (List.take ((0 : Nat) + k.toNat + ((↑acc.length : Int).toNat - k.toNat)) acc)).length) * (8 : Nat) ≤ (140737488355328 : Nat)) (Tree.need (inI64 (i + (1 : Int))) (Tree.at (Cfg.mk (sl (51 : Nat) [((0 : Nat), AV.s (SV.ro (Con.ints IntKind.i64 l))), ((3 : Nat), AV.vec (0 : Nat)), ((4 : Nat), AV.s (SV.int IntKind.i64 (i + (1 : Int))))]) [AObj.vec (Con.ints IntKind.i64 ([] ++ List.drop (0 : Nat) (List.take ((0 : Nat) + (k.toNat - Int.toNat (0 : Int))) acc) ++ [l.getD i.toNat (0 : Int)] ++ List.drop ((0 : Nat) + k.toNat) (List.take ((0 : Nat) + k.toNat + ((↑acc.length : Int).toNat - k.toNat)) acc))) (3 : Nat)] (hd Try.f95 (3 : Nat)) (Stk.mk none false (0 : Nat) [] (0 : Nat)))))))))))))))) := by kernel_rfl
abbrev sumSt := sumOf [tNs] [tNs] (fun (l, ()) => [(l : List Int).length ≤ 1000000]) (fun (l, ()) => (setS l, ()))
def tabDk : Tab := [(95, sumSt)]
def nsDk : List (Nat × Norm) := [(3, ⟨[(5, .ints .i64 [], 3)], [1, 2, 5, 6], 0, []⟩)]
theorem trDk (ck nx : Int) (ps : Ps) (is : Is) (cs : Cs) (ws : Ws) (id : Int) : run P tabDk.sum Try.f93 nsDk (start Try.f93 [avSt ck nx ps is cs ws, avI id] []) =
  Tree.at (Cfg.mk (sl (43 : Nat) [((1 : Nat), AV.s (SV.int IntKind.i64 id)), ((2 : Nat), AV.ptr (0 : Nat) (0 : Nat)), ((5 : Nat), AV.vec (1 : Nat)), ((6 : Nat), AV.s (SV.int IntKind.i64 (0 : Int)))]) [AObj.own [AV.s (SV.int IntKind.i64 ck), AV.s (SV.int IntKind.i64 nx), AV.s (SV.ro (Con.typ cP ps)), AV.s (SV.ro (Con.typ cI is)), AV.s (SV.ro (Con.typ cC cs)), AV.s (SV.ro (Con.typ cW ws))] (27 : Nat), AObj.vec (Con.ints IntKind.i64 []) (3 : Nat)] (hd Try.f93 (3 : Nat)) (Stk.mk none false (0 : Nat) [] (0 : Nat))) := by kernel_rfl
noncomputable def cDk (ck nx : Int) (ps : Ps) (is : Is) (cs : Cs) (ws : Ws) (id : Int) (acc : List Int) (i : Int) : Cfg := ⟨sl 43 [(1, avI id), (2, .ptr 0 0), (5, .vec 1), (6, avI i)], [obSt ck nx ps is cs ws, .vec (.ints .i64 acc) 3], hd Try.f93 3, {}⟩
theorem loopDk (ck nx : Int) (ps : Ps) (is : Is) (cs : Cs) (ws : Ws) (id : Int) (acc : List Int) (i : Int) : run P tabDk.sum Try.f93 nsDk (cDk ck nx ps is cs ws id acc i) =
  Tree.ite (decide (i < (↑(List.length is) : Int))) (Tree.need ((0 : Int) ≤ i) (Tree.need (i < (↑(List.length is) : Int)) (Tree.ite (iU (el is i) == id) (Tree.need ((0 : Int) ≤ i) (Tree.need (i < (↑(List.length is) : Int)) (Tree.ite (iI (el is i) != id) (Tree.need ((0 : Int) ≤ i) (Tree.need (i < (↑(List.length is) : Int)) (Tree.need ((acc.length + (1 : Nat)) * (8 : Nat) ≤ (140737488355328 : Nat)) (Tree.need (inI64 (i + (1 : Int))) (Tree.at (Cfg.mk (sl (43 : Nat) [((1 : Nat), AV.s (SV.int IntKind.i64 id)), ((2 : Nat), AV.ptr (0 : Nat) (0 : Nat)), ((5 : Nat), AV.vec (1 : Nat)), ((6 : Nat), AV.s (SV.int IntKind.i64 (i + (1 : Int))))]) [AObj.own [AV.s (SV.int IntKind.i64 ck), AV.s (SV.int IntKind.i64 nx), AV.s (SV.ro (Con.typ cP ps)), AV.s (SV.ro (Con.typ cI is)), AV.s (SV.ro (Con.typ cC cs)), AV.s (SV.ro (Con.typ cW ws))] (27 : Nat), AObj.vec (Con.ints IntKind.i64 (acc ++ [iI (el is i)])) (3 : Nat)] (hd Try.f93 (3 : Nat)) (Stk.mk none false (0 : Nat) [] (0 : Nat)))))))) (Tree.need (inI64 (i + (1 : Int))) (Tree.at (Cfg.mk (sl (43 : Nat) [((1 : Nat), AV.s (SV.int IntKind.i64 id)), ((2 : Nat), AV.ptr (0 : Nat) (0 : Nat)), ((5 : Nat), AV.vec (1 : Nat)), ((6 : Nat), AV.s (SV.int IntKind.i64 (i + (1 : Int))))]) [AObj.own [AV.s (SV.int IntKind.i64 ck), AV.s (SV.int IntKind.i64 nx), AV.s (SV.ro (Con.typ cP ps)), AV.s (SV.ro (Con.typ cI is)), AV.s (SV.ro (Con.typ cC cs)), AV.s (SV.ro (Con.typ cW ws))] (27 : Nat), AObj.vec (Con.ints IntKind.i64 acc) (3 : Nat)] (hd Try.f93 (3 : Nat)) (Stk.mk none false (0 : Nat) [] (0 : Nat)))))))) (Tree.need (inI64 (i + (1 : Int))) (Tree.at (Cfg.mk (sl (43 : Nat) [((1 : Nat), AV.s (SV.int IntKind.i64 id)), ((2 : Nat), AV.ptr (0 : Nat) (0 : Nat)), ((5 : Nat), AV.vec (1 : Nat)), ((6 : Nat), AV.s (SV.int IntKind.i64 (i + (1 : Int))))]) [AObj.own [AV.s (SV.int IntKind.i64 ck), AV.s (SV.int IntKind.i64 nx), AV.s (SV.ro (Con.typ cP ps)), AV.s (SV.ro (Con.typ cI is)), AV.s (SV.ro (Con.typ cC cs)), AV.s (SV.ro (Con.typ cW ws))] (27 : Nat), AObj.vec (Con.ints IntKind.i64 acc) (3 : Nat)] (hd Try.f93 (3 : Nat)) (Stk.mk none false (0 : Nat) [] (0 : Nat)))))))) (Tree.need (acc.length ≤ (1000000 : Nat)) (Tree.ret [AObj.own [AV.s (SV.int IntKind.i64 ck), AV.s (SV.int IntKind.i64 nx), AV.s (SV.ro (Con.typ cP ps)), AV.s (SV.ro (Con.typ cI is)), AV.s (SV.ro (Con.typ cC cs)), AV.s (SV.ro (Con.typ cW ws))] (27 : Nat), AObj.vec (Con.ints IntKind.i64 acc) (3 : Nat), AObj.vec (Con.ints IntKind.i64 (setS acc)) (3 : Nat)] (AV.vec (2 : Nat)))) := by kernel_rfl
def tabDb : Tab := [(95, sumSt), (93, sumKi), (94, sumIn)]
def nsDb : List (Nat × Norm) := [(3, ⟨[], [1, 2, 5, 6], 0, []⟩), (7, ⟨[], [1, 2, 5, 6, 7, 8], 0, []⟩)]
theorem trDb (ck nx : Int) (ps : Ps) (is : Is) (cs : Cs) (ws : Ws) (id : Int) : run P tabDb.sum Try.f66 nsDb (start Try.f66 [avSt ck nx ps is cs ws, avI id] []) =
  Tree.need (List.length is ≤ (1000000 : Nat)) (Tree.at (Cfg.mk (sl (54 : Nat) [((1 : Nat), AV.s (SV.int IntKind.i64 id)), ((2 : Nat), AV.ptr (0 : Nat) (0 : Nat)), ((5 : Nat), AV.vec (1 : Nat)), ((6 : Nat), AV.s (SV.int IntKind.i64 (0 : Int)))]) [AObj.own [AV.s (SV.int IntKind.i64 ck), AV.s (SV.int IntKind.i64 nx), AV.s (SV.ro (Con.typ cP ps)), AV.s (SV.ro (Con.typ cI is)), AV.s (SV.ro (Con.typ cC cs)), AV.s (SV.ro (Con.typ cW ws))] (27 : Nat), AObj.vec (Con.ints IntKind.i64 (kidsF (esOf is) id)) (3 : Nat)] (hd Try.f66 (3 : Nat)) (Stk.mk none false (0 : Nat) [] (0 : Nat)))) := by kernel_rfl
noncomputable def cDb (ck nx : Int) (ps : Ps) (is : Is) (cs : Cs) (ws : Ws) (id : Int) (out : List Int) (i : Int) : Cfg := ⟨sl 54 [(1, avI id), (2, .ptr 0 0), (5, .vec 1), (6, avI i)], [obSt ck nx ps is cs ws, .vec (.ints .i64 out) 3], hd Try.f66 3, {}⟩
theorem loopDb (ck nx : Int) (ps : Ps) (is : Is) (cs : Cs) (ws : Ws) (id : Int) (out : List Int) (i : Int) : run P tabDb.sum Try.f66 nsDb (cDb ck nx ps is cs ws id out i) =
  Tree.ite (decide (i < (↑out.length : Int))) (Tree.need ((0 : Int) ≤ i) (Tree.need (i < (↑out.length : Int)) (Tree.need (List.length is ≤ (1000000 : Nat)) (Tree.at (Cfg.mk (sl (54 : Nat) [((1 : Nat), AV.s (SV.int IntKind.i64 id)), ((2 : Nat), AV.ptr (0 : Nat) (0 : Nat)), ((5 : Nat), AV.vec (1 : Nat)), ((6 : Nat), AV.s (SV.int IntKind.i64 i)), ((7 : Nat), AV.vec (2 : Nat)), ((8 : Nat), AV.s (SV.int IntKind.i64 (0 : Int)))]) [AObj.own [AV.s (SV.int IntKind.i64 ck), AV.s (SV.int IntKind.i64 nx), AV.s (SV.ro (Con.typ cP ps)), AV.s (SV.ro (Con.typ cI is)), AV.s (SV.ro (Con.typ cC cs)), AV.s (SV.ro (Con.typ cW ws))] (27 : Nat), AObj.vec (Con.ints IntKind.i64 out) (3 : Nat), AObj.vec (Con.ints IntKind.i64 (kidsF (esOf is) (out.getD i.toNat (0 : Int)))) (3 : Nat)] (hd Try.f66 (7 : Nat)) (Stk.mk none false (0 : Nat) [] (0 : Nat))))))) (Tree.need (out.length ≤ (1000000 : Nat)) (Tree.ret [AObj.own [AV.s (SV.int IntKind.i64 ck), AV.s (SV.int IntKind.i64 nx), AV.s (SV.ro (Con.typ cP ps)), AV.s (SV.ro (Con.typ cI is)), AV.s (SV.ro (Con.typ cC cs)), AV.s (SV.ro (Con.typ cW ws))] (27 : Nat), AObj.vec (Con.ints IntKind.i64 out) (3 : Nat), AObj.vec (Con.ints IntKind.i64 (setS out)) (3 : Nat)] (AV.vec (2 : Nat)))) := by kernel_rfl
noncomputable def cDb2 (ck nx : Int) (ps : Ps) (is : Is) (cs : Cs) (ws : Ws) (id : Int) (out : List Int) (i : Int) (ks : List Int) (k : Int) : Cfg := ⟨sl 54 [(1, avI id), (2, .ptr 0 0), (5, .vec 1), (6, avI i), (7, .vec 2), (8, avI k)], [obSt ck nx ps is cs ws, .vec (.ints .i64 out) 3, .vec (.ints .i64 ks) 3], hd Try.f66 7, {}⟩
theorem loopDb2 (ck nx : Int) (ps : Ps) (is : Is) (cs : Cs) (ws : Ws) (id : Int) (out : List Int) (i : Int) (ks : List Int) (k : Int) : run P tabDb.sum Try.f66 nsDb (cDb2 ck nx ps is cs ws id out i ks k) =
  Tree.ite (decide (k < (↑ks.length : Int))) (Tree.need ((0 : Int) ≤ k) (Tree.need (k < (↑ks.length : Int)) (Tree.ite (ks.getD k.toNat (0 : Int) != id) (Tree.need ((0 : Int) ≤ k) (Tree.need (k < (↑ks.length : Int)) (Tree.ite (!out.contains (ks.getD k.toNat (0 : Int))) (Tree.need ((0 : Int) ≤ k) (Tree.need (k < (↑ks.length : Int)) (Tree.need ((out.length + (1 : Nat)) * (8 : Nat) ≤ (140737488355328 : Nat)) (Tree.need (inI64 (k + (1 : Int))) (Tree.at (Cfg.mk (sl (54 : Nat) [((1 : Nat), AV.s (SV.int IntKind.i64 id)), ((2 : Nat), AV.ptr (0 : Nat) (0 : Nat)), ((5 : Nat), AV.vec (1 : Nat)), ((6 : Nat), AV.s (SV.int IntKind.i64 i)), ((7 : Nat), AV.vec (2 : Nat)), ((8 : Nat), AV.s (SV.int IntKind.i64 (k + (1 : Int))))]) [AObj.own [AV.s (SV.int IntKind.i64 ck), AV.s (SV.int IntKind.i64 nx), AV.s (SV.ro (Con.typ cP ps)), AV.s (SV.ro (Con.typ cI is)), AV.s (SV.ro (Con.typ cC cs)), AV.s (SV.ro (Con.typ cW ws))] (27 : Nat), AObj.vec (Con.ints IntKind.i64 (out ++ [ks.getD k.toNat (0 : Int)])) (3 : Nat), AObj.vec (Con.ints IntKind.i64 ks) (3 : Nat)] (hd Try.f66 (7 : Nat)) (Stk.mk none false (0 : Nat) [] (0 : Nat)))))))) (Tree.need (inI64 (k + (1 : Int))) (Tree.at (Cfg.mk (sl (54 : Nat) [((1 : Nat), AV.s (SV.int IntKind.i64 id)), ((2 : Nat), AV.ptr (0 : Nat) (0 : Nat)), ((5 : Nat), AV.vec (1 : Nat)), ((6 : Nat), AV.s (SV.int IntKind.i64 i)), ((7 : Nat), AV.vec (2 : Nat)), ((8 : Nat), AV.s (SV.int IntKind.i64 (k + (1 : Int))))]) [AObj.own [AV.s (SV.int IntKind.i64 ck), AV.s (SV.int IntKind.i64 nx), AV.s (SV.ro (Con.typ cP ps)), AV.s (SV.ro (Con.typ cI is)), AV.s (SV.ro (Con.typ cC cs)), AV.s (SV.ro (Con.typ cW ws))] (27 : Nat), AObj.vec (Con.ints IntKind.i64 out) (3 : Nat), AObj.vec (Con.ints IntKind.i64 ks) (3 : Nat)] (hd Try.f66 (7 : Nat)) (Stk.mk none false (0 : Nat) [] (0 : Nat)))))))) (Tree.need (inI64 (k + (1 : Int))) (Tree.at (Cfg.mk (sl (54 : Nat) [((1 : Nat), AV.s (SV.int IntKind.i64 id)), ((2 : Nat), AV.ptr (0 : Nat) (0 : Nat)), ((5 : Nat), AV.vec (1 : Nat)), ((6 : Nat), AV.s (SV.int IntKind.i64 i)), ((7 : Nat), AV.vec (2 : Nat)), ((8 : Nat), AV.s (SV.int IntKind.i64 (k + (1 : Int))))]) [AObj.own [AV.s (SV.int IntKind.i64 ck), AV.s (SV.int IntKind.i64 nx), AV.s (SV.ro (Con.typ cP ps)), AV.s (SV.ro (Con.typ cI is)), AV.s (SV.ro (Con.typ cC cs)), AV.s (SV.ro (Con.typ cW ws))] (27 : Nat), AObj.vec (Con.ints IntKind.i64 out) (3 : Nat), AObj.vec (Con.ints IntKind.i64 ks) (3 : Nat)] (hd Try.f66 (7 : Nat)) (Stk.mk none false (0 : Nat) [] (0 : Nat)))))))) (Tree.need (inI64 (i + (1 : Int))) (Tree.at (Cfg.mk (sl (54 : Nat) [((1 : Nat), AV.s (SV.int IntKind.i64 id)), ((2 : Nat), AV.ptr (0 : Nat) (0 : Nat)), ((5 : Nat), AV.vec (1 : Nat)), ((6 : Nat), AV.s (SV.int IntKind.i64 (i + (1 : Int))))]) [AObj.own [AV.s (SV.int IntKind.i64 ck), AV.s (SV.int IntKind.i64 nx), AV.s (SV.ro (Con.typ cP ps)), AV.s (SV.ro (Con.typ cI is)), AV.s (SV.ro (Con.typ cC cs)), AV.s (SV.ro (Con.typ cW ws))] (27 : Nat), AObj.vec (Con.ints IntKind.i64 out) (3 : Nat)] (hd Try.f66 (3 : Nat)) (Stk.mk none false (0 : Nat) [] (0 : Nat))))) := by kernel_rfl
def nsDf : List (Nat × Norm) := [(2, ⟨[], [1, 2, 4, 6], 0, []⟩)]
theorem trDf (ck nx : Int) (ps : Ps) (is : Is) (cs : Cs) (ws : Ws) (id : Int) : run P tab0.sum Try.f65 nsDf (start Try.f65 [avSt ck nx ps is cs ws, avI id] []) =
  Tree.at (Cfg.mk (sl (28 : Nat) [((1 : Nat), AV.s (SV.int IntKind.i64 id)), ((2 : Nat), AV.ptr (0 : Nat) (0 : Nat)), ((4 : Nat), AV.ptr (1 : Nat) (0 : Nat)), ((6 : Nat), AV.s (SV.int IntKind.i64 (0 : Int)))]) [AObj.own [AV.s (SV.int IntKind.i64 ck), AV.s (SV.int IntKind.i64 nx), AV.s (SV.ro (Con.typ cP ps)), AV.s (SV.ro (Con.typ cI is)), AV.s (SV.ro (Con.typ cC cs)), AV.s (SV.ro (Con.typ cW ws))] (27 : Nat), AObj.own [AV.s (SV.int IntKind.i64 (0 : Int)), AV.s (SV.int IntKind.i64 (0 : Int)), AV.s (SV.int IntKind.u8 (0 : Int)), AV.s (SV.str ByteArray.empty), AV.s (SV.int IntKind.i64 (0 : Int)), AV.s (SV.int IntKind.i64 (0 : Int)), AV.s (SV.int IntKind.u8 (0 : Int)), AV.s (SV.str ByteArray.empty)] (43 : Nat)] (hd Try.f65 (2 : Nat)) (Stk.mk none false (0 : Nat) [] (0 : Nat))) := by kernel_rfl
abbrev obIz : AObj := .own [avI 0, avI 0, .s (.int .u8 0), .s (.str ByteArray.empty), avI 0, avI 0, .s (.int .u8 0), .s (.str ByteArray.empty)] eI
noncomputable def cDf (ck nx : Int) (ps : Ps) (is : Is) (cs : Cs) (ws : Ws) (id i : Int) : Cfg := ⟨sl 28 [(1, avI id), (2, .ptr 0 0), (4, .ptr 1 0), (6, avI i)], [obSt ck nx ps is cs ws, obIz], hd Try.f65 2, {}⟩
theorem loopDf (ck nx : Int) (ps : Ps) (is : Is) (cs : Cs) (ws : Ws) (id i : Int) : run P tab0.sum Try.f65 nsDf (cDf ck nx ps is cs ws id i) =
  Tree.ite (decide (i < (↑(List.length is) : Int))) (Tree.need ((0 : Int) ≤ i) (Tree.need (i < (↑(List.length is) : Int)) (Tree.ite (iI (el is i) == id) (Tree.need ((0 : Int) ≤ i) (Tree.need (i < (↑(List.length is) : Int)) (Tree.ret [AObj.own [AV.s (SV.int IntKind.i64 ck), AV.s (SV.int IntKind.i64 nx), AV.s (SV.ro (Con.typ cP ps)), AV.s (SV.ro (Con.typ cI is)), AV.s (SV.ro (Con.typ cC cs)), AV.s (SV.ro (Con.typ cW ws))] (27 : Nat), AObj.own [AV.s (SV.int IntKind.i64 (iI (el is i))), AV.s (SV.int IntKind.i64 (iU (el is i))), AV.s (SV.int IntKind.u8 (iS (el is i))), AV.s (SV.str (iP (el is i))), AV.s (SV.int IntKind.i64 (iN (el is i))), AV.s (SV.int IntKind.i64 (iF (el is i))), AV.s (SV.int IntKind.u8 (iW (el is i))), AV.s (SV.str (iC (el is i)))] (43 : Nat)] (AV.tup [AV.agg [AV.s (SV.int IntKind.i64 (iI (el is i))), AV.s (SV.int IntKind.i64 (iU (el is i))), AV.s (SV.int IntKind.u8 (iS (el is i))), AV.s (SV.str (iP (el is i))), AV.s (SV.int IntKind.i64 (iN (el is i))), AV.s (SV.int IntKind.i64 (iF (el is i))), AV.s (SV.int IntKind.u8 (iW (el is i))), AV.s (SV.str (iC (el is i)))], AV.s (SV.blit true)])))) (Tree.need (inI64 (i + (1 : Int))) (Tree.at (Cfg.mk (sl (28 : Nat) [((1 : Nat), AV.s (SV.int IntKind.i64 id)), ((2 : Nat), AV.ptr (0 : Nat) (0 : Nat)), ((4 : Nat), AV.ptr (1 : Nat) (0 : Nat)), ((6 : Nat), AV.s (SV.int IntKind.i64 (i + (1 : Int))))]) [AObj.own [AV.s (SV.int IntKind.i64 ck), AV.s (SV.int IntKind.i64 nx), AV.s (SV.ro (Con.typ cP ps)), AV.s (SV.ro (Con.typ cI is)), AV.s (SV.ro (Con.typ cC cs)), AV.s (SV.ro (Con.typ cW ws))] (27 : Nat), AObj.own [AV.s (SV.int IntKind.i64 (0 : Int)), AV.s (SV.int IntKind.i64 (0 : Int)), AV.s (SV.int IntKind.u8 (0 : Int)), AV.s (SV.str ByteArray.empty), AV.s (SV.int IntKind.i64 (0 : Int)), AV.s (SV.int IntKind.i64 (0 : Int)), AV.s (SV.int IntKind.u8 (0 : Int)), AV.s (SV.str ByteArray.empty)] (43 : Nat)] (hd Try.f65 (2 : Nat)) (Stk.mk none false (0 : Nat) [] (0 : Nat)))))))) (Tree.ret [AObj.own [AV.s (SV.int IntKind.i64 ck), AV.s (SV.int IntKind.i64 nx), AV.s (SV.ro (Con.typ cP ps)), AV.s (SV.ro (Con.typ cI is)), AV.s (SV.ro (Con.typ cC cs)), AV.s (SV.ro (Con.typ cW ws))] (27 : Nat), AObj.own [AV.s (SV.ilit IntKind.i64 (0 : Int)), AV.s (SV.ilit IntKind.i64 (0 : Int)), AV.s (SV.ilit IntKind.u8 (0 : Int)), AV.s (SV.str ByteArray.empty), AV.s (SV.ilit IntKind.i64 (0 : Int)), AV.s (SV.ilit IntKind.i64 (0 : Int)), AV.s (SV.ilit IntKind.u8 (0 : Int)), AV.s (SV.str ByteArray.empty)] (43 : Nat)] (AV.tup [AV.agg [AV.s (SV.ilit IntKind.i64 (0 : Int)), AV.s (SV.ilit IntKind.i64 (0 : Int)), AV.s (SV.ilit IntKind.u8 (0 : Int)), AV.s (SV.str ByteArray.empty), AV.s (SV.ilit IntKind.i64 (0 : Int)), AV.s (SV.ilit IntKind.i64 (0 : Int)), AV.s (SV.ilit IntKind.u8 (0 : Int)), AV.s (SV.str ByteArray.empty)], AV.s (SV.blit false)])) := by kernel_rfl
end Ds

namespace Ds
open Go Go.Sx Go.Proofs Lf
theorem i8_ok {Z : Glob} : FnOk P Z 94 [tNs, tInt] [tBool] (fun _ => []) (fun (l, x, ()) => ((l : List Int).contains x, ())) := by
  refine fnOk_of_safe Try.func94 (by kernel_rfl) (by kernel_rfl) ?_
  rintro ⟨(l : List Int), (x : Int), ⟨⟩⟩ ⟨(hl : l.length ≤ maxLen), _⟩ _ X hX hz
  have hl2 : l.length ≤ 9223372036854775807 := by unfold maxLen at hl; omega
  show Safe P 94 X (Ends [tBool] (l.contains x, ())) _
  have loop : ∀ (j k : Nat), k + j = l.length → (∀ i (hi : i < k) (h2 : i < l.length), l[i] ≠ x) → Safe P 94 X (Ends [tBool] (l.contains x, ())) (cI8 l x (k : Int)) := by
    intro j
    induction j with
    | zero =>
      intro k hk hi
      have e : l.contains x = false := by
        rw [List.contains_eq_mem, decide_eq_false_iff_not]
        intro h
        obtain ⟨i, h1, h2⟩ := List.mem_iff_getElem.1 h
        exact hi i (by omega) h1 h2
      refine go hz hX Tab.Ok.nil Try.func94 (loopI8 l x k) (no_and (decide_eq_false (by omega)) ?_)
      rw [e]; exact ends_eq _ rfl (by kernel_rfl)
    | succ j ih =>
      intro k hk hi
      have hlt : k < l.length := by omega
      refine go hz hX Tab.Ok.nil Try.func94 (loopI8 l x k) (yes_and (decide_eq_true (by omega)) ⟨by omega, by omega, ?_⟩)
      rw [Int.toNat_natCast, getD_lt hlt]
      by_cases h : l[k] = x
      · refine yes_and (by simpa using h) ?_
        have e : l.contains x = true := by rw [List.contains_eq_mem, decide_eq_true_iff, ← h]; exact List.getElem_mem hlt
        rw [e]; exact ends_eq _ rfl (by kernel_rfl)
      · refine no_and (by simpa using h) ⟨⟨by omega, by omega⟩, ih (k + 1) (by omega) fun i h1 h2 => ?_⟩
        by_cases e : i = k
        · subst e; exact h
        · exact hi i (by omega) h2
  refine go hz hX Tab.Ok.nil Try.func94 (trI8 l x) ?_
  exact loop l.length 0 (by omega) fun i hi => absurd hi (Nat.not_lt_zero _)
theorem i1_ok {Z : Glob} : FnOk P Z 69 [tNs, tInt] [tBool] (fun _ => []) (fun (l, x, ()) => ((l : List Int).contains x, ())) := by
  refine fnOk_of_safe Try.func69 (by kernel_rfl) (by kernel_rfl) ?_
  rintro ⟨(l : List Int), (x : Int), ⟨⟩⟩ ⟨(hl : l.length ≤ maxLen), _⟩ _ X hX hz
  have hl2 : l.length ≤ 9223372036854775807 := by unfold maxLen at hl; omega
  show Safe P 69 X (Ends [tBool] (l.contains x, ())) _
  have loop : ∀ (j k : Nat), k + j = l.length → (∀ i (hi : i < k) (h2 : i < l.length), l[i] ≠ x) → Safe P 69 X (Ends [tBool] (l.contains x, ())) (cI1 l x (k : Int)) := by
    intro j
    induction j with
    | zero =>
      intro k hk hi
      have e : l.contains x = false := by
        rw [List.contains_eq_mem, decide_eq_false_iff_not]
        intro h
        obtain ⟨i, h1, h2⟩ := List.mem_iff_getElem.1 h
        exact hi i (by omega) h1 h2
      refine go hz hX Tab.Ok.nil Try.func69 (loopI1 l x k) (no_and (decide_eq_false (by omega)) ?_)
      rw [e]; exact ends_eq _ rfl (by kernel_rfl)
    | succ j ih =>
      intro k hk hi
      have hlt : k < l.length := by omega
      refine go hz hX Tab.Ok.nil Try.func69 (loopI1 l x k) (yes_and (decide_eq_true (by omega)) ⟨by omega, by omega, ?_⟩)
      rw [Int.toNat_natCast, getD_lt hlt]
      by_cases h : l[k] = x
      · refine yes_and (by simpa using h) ?_
        have e : l.contains x = true := by rw [List.contains_eq_mem, decide_eq_true_iff, ← h]; exact List.getElem_mem hlt
        rw [e]; exact ends_eq _ rfl (by kernel_rfl)
      · refine no_and (by simpa using h) ⟨⟨by omega, by omega⟩, ih (k + 1) (by omega) fun i h1 h2 => ?_⟩
        by_cases e : i = k
        · subst e; exact h
        · exact hi i (by omega) h2
  refine go hz hX Tab.Ok.nil Try.func69 (trI1 l x) ?_
  exact loop l.length 0 (by omega) fun i hi => absurd hi (Nat.not_lt_zero _)
theorem tabSt_ok {Z : Glob} : tabSt.Ok P Z := Tab.Ok.cons i8_ok.sum Tab.Ok.nil
theorem ins_at {acc : List Int} {x : Int} {k : Nat} (hr : Rises acc) (h1 : ∀ y ∈ acc.take k, y < x) (h2 : ∀ y ∈ acc.drop k, x < y) : Rises (acc.take k ++ [x] ++ acc.drop k) := by
  have hr' : List.Pairwise (· < ·) acc := hr
  show List.Pairwise (· < ·) _
  rw [List.append_assoc, List.singleton_append]
  refine List.pairwise_append.2 ⟨hr'.sublist (List.take_sublist _ _), List.pairwise_cons.2 ⟨h2, hr'.sublist (List.drop_sublist _ _)⟩, fun y hy z hz => ?_⟩
  rcases List.mem_cons.1 hz with rfl | hz
  · exact h1 y hy
  · have := h1 y hy
    have := h2 z hz
    omega
theorem drop_gt {acc : List Int} {x : Int} {k : Nat} (hr : Rises acc) (hk : k < acc.length) (h : x < acc[k]) : ∀ y ∈ acc.drop k, x < y := by
  intro y hy
  obtain ⟨j, hj, rfl⟩ := List.mem_iff_getElem.1 hy
  rw [List.length_drop] at hj
  rw [List.getElem_drop]
  by_cases h0 : j = 0
  · subst h0; exact h
  · have := (List.pairwise_iff_getElem.1 hr) k (k + j) hk (by omega) (by omega)
    omega
theorem set_ok {Z : Glob} : FnOk P Z 95 [tNs] [tNs] (fun (l, ()) => [(l : List Int).length ≤ 1000000]) (fun (l, ()) => (setS l, ())) := by
  refine fnOk_of_safe Try.func95 (by kernel_rfl) (by kernel_rfl) ?_
  rintro ⟨(l : List Int), ⟨⟩⟩ _ ⟨(hl : l.length ≤ 1000000), _⟩ X hX hz
  show Safe P 95 X (Ends [tNs] (setS l, ())) _
  have loop : ∀ (j i : Nat), i + j = l.length → Safe P 95 X (Ends [tNs] (setS l, ())) (cSt l (setS (l.take i)) (i : Int)) := by
    intro j
    induction j with
    | zero =>
      intro i hi
      rw [List.take_of_length_le (by omega)]
      exact go hz hX tabSt_ok Try.func95 (loopSt l _ i) (no_and (decide_eq_false (by omega)) (ends_eq _ rfl (by kernel_rfl)))
    | succ j ih =>
      intro i hi
      have hlt : i < l.length := by omega
      have next := ih (i + 1) (by omega)
      have hmem : ∀ y, y ∈ setS (l.take (i + 1)) ↔ y ∈ setS (l.take i) ∨ y = l[i] := fun y => by
        rw [mem_setS, mem_setS, List.take_add_one, List.getElem?_eq_getElem hlt, List.mem_append]
        simp
      have hr : Rises (setS (l.take i)) := setS_lt _
      have hr2 : Rises (setS (l.take (i + 1))) := setS_lt _
      have hal : (setS (l.take i)).length ≤ i := by
        have := setS_len (l.take i)
        rw [List.length_take] at this
        omega
      refine go hz hX tabSt_ok Try.func95 (loopSt l _ i) (yes_and (decide_eq_true (by omega)) ⟨by omega, by omega, ?_⟩)
      rw [Int.toNat_natCast, getD_lt hlt]
      generalize setS (l.take (i + 1)) = acc' at *
      generalize setS (l.take i) = acc at *
      by_cases hx : l[i] ∈ acc
      · refine yes_and (by rw [List.contains_eq_mem, decide_eq_true_iff]; exact hx) ⟨⟨by omega, by omega⟩, ?_⟩
        have e : acc' = acc := lt_ext hr2 hr fun y => by
          rw [hmem]
          exact ⟨fun h => h.elim id fun h => by rw [h]; exact hx, .inl⟩
        rw [e] at next
        exact next
      · refine no_and (by rw [List.contains_eq_mem, decide_eq_false_iff_not]; exact hx) ?_
        have done : ∀ k, k ≤ acc.length → (∀ y ∈ acc.take k, y < l[i]) → (∀ y ∈ acc.drop k, l[i] < y) → Safe P 95 X (Ends [tNs] (setS l, ())) (cSt l (acc.take k ++ [l[i]] ++ acc.drop k) ((i : Int) + 1)) := fun k hk h1 h2 => by
          have e : acc' = acc.take k ++ [l[i]] ++ acc.drop k := lt_ext hr2 (ins_at hr h1 h2) fun y => by
            rw [hmem]
            have em : y ∈ acc ↔ y ∈ acc.take k ∨ y ∈ acc.drop k := by rw [← List.mem_append, List.take_append_drop]
            rw [em, List.mem_append, List.mem_append, List.mem_singleton]
            exact ⟨fun h => h.elim (fun h => h.elim (fun h => .inl (.inl h)) .inr) (fun h => .inl (.inr h)), fun h => h.elim (fun h => h.elim (fun h => .inl (.inl h)) .inr) (fun h => .inl (.inr h))⟩
          rw [e] at next
          exact next
        have loop2 : ∀ (n k : Nat), k + n = acc.length → (∀ y ∈ acc.take k, y < l[i]) → Safe P 95 X (Ends [tNs] (setS l, ())) (cSt2 l acc (i : Int) (k : Int)) := by
          intro n
          have norm : ∀ k : Nat, k ≤ acc.length → ([] ++ List.drop 0 (List.take (0 + ((k : Int).toNat - Int.toNat 0)) acc) ++ [l.getD (i : Int).toNat 0] ++ List.drop (0 + (k : Int).toNat) (List.take (0 + (k : Int).toNat + ((acc.length : Int).toNat - (k : Int).toNat)) acc)) = acc.take k ++ [l[i]] ++ acc.drop k := fun k hk => by
            rw [Int.toNat_natCast, Int.toNat_natCast, Int.toNat_natCast, getD_lt hlt, List.nil_append, List.drop_zero, show 0 + (k - Int.toNat 0) = k from by simp, Nat.zero_add, show k + (acc.length - k) = acc.length from by omega, List.take_length]
          have nl : ∀ k : Nat, k ≤ acc.length → (acc.take k).length = k := fun k hk => by rw [List.length_take]; omega
          induction n with
          | zero =>
            intro k hk h1
            have d := done k (by omega) h1 (by rw [List.drop_eq_nil_of_le (by omega)]; simp)
            rw [← norm k (by omega)] at d
            refine go hz hX tabSt_ok Try.func95 (loopSt2 l acc i k) (no_and (decide_eq_false (by omega)) ⟨by omega, by omega, by omega, ?_, by omega, by omega, ?_, by omega, by omega, by omega, ?_, ⟨by omega, by omega⟩, d⟩)
            all_goals simp only [List.length_append, List.length_nil, List.length_drop, List.length_take, List.length_cons]; omega
          | succ n ih2 =>
            intro k hk h1
            have hkl : k < acc.length := by omega
            refine go hz hX tabSt_ok Try.func95 (loopSt2 l acc i k) (yes_and (decide_eq_true (by omega)) ⟨by omega, by omega, by omega, by omega, ?_⟩)
            by_cases h2 : acc[k] < l[i]
            · refine yes_and (decide_eq_true (by rw [Int.toNat_natCast, Int.toNat_natCast, getD_lt hkl, getD_lt hlt]; exact h2)) ⟨⟨by omega, by omega⟩, ih2 (k + 1) (by omega) fun y hy => ?_⟩
              rw [List.take_add_one, List.getElem?_eq_getElem hkl, List.mem_append] at hy
              rcases hy with hy | hy
              · exact h1 y hy
              · simp at hy; rw [hy]; exact h2
            · have hne : acc[k] ≠ l[i] := fun e => hx (by rw [← e]; exact List.getElem_mem hkl)
              have d := done k (by omega) h1 (drop_gt hr hkl (by omega))
              rw [← norm k (by omega)] at d
              refine no_and (decide_eq_false (by rw [Int.toNat_natCast, Int.toNat_natCast, getD_lt hkl, getD_lt hlt]; exact h2)) ⟨by omega, by omega, by omega, ?_, by omega, by omega, ?_, by omega, by omega, by omega, ?_, ⟨by omega, by omega⟩, d⟩
              all_goals simp only [List.length_append, List.length_nil, List.length_drop, List.length_take, List.length_cons]; omega
        exact loop2 acc.length 0 (by omega) (by simp)
  exact go hz hX tabSt_ok Try.func95 (trSt l) (loop l.length 0 (by omega))
theorem tabDk_ok {Z : Glob} : tabDk.Ok P Z := Tab.Ok.cons set_ok.sum Tab.Ok.nil
theorem dk_ok {Z : Glob} : FnOk P Z 93 [tSt, tInt] [tNs] (fun ((_, _, _, is, _, _, ()), _, ()) => [(is : Is).length ≤ 1000000]) (fun ((_, _, _, is, _, _, ()), id, ()) => (kidsF (esOf is) id, ())) := by
  refine fnOk_of_safe Try.func93 (by kernel_rfl) (by kernel_rfl) ?_
  rintro ⟨⟨(ck : Int), (nx : Int), (ps : Ps), (is : Is), (cs : Cs), (ws : Ws), ⟨⟩⟩, (id : Int), ⟨⟩⟩ _ ⟨(hl : is.length ≤ 1000000), _⟩ X hX hz
  show Safe P 93 X (Ends [tNs] (kidsF (esOf is) id, ())) _
  have loop : ∀ (j k : Nat) (acc : List Int), k + j = is.length → acc.length ≤ k → acc ++ kidsL (esOf (is.drop k)) id = kidsL (esOf is) id → Safe P 93 X (Ends [tNs] (kidsF (esOf is) id, ())) (cDk ck nx ps is cs ws id acc (k : Int)) := by
    intro j
    induction j with
    | zero =>
      intro k acc hk ha he
      rw [List.drop_eq_nil_of_le (by omega)] at he
      have he : acc = kidsL (esOf is) id := by simpa [kidsL] using he
      refine go hz hX tabDk_ok Try.func93 (loopDk ck nx ps is cs ws id acc k) (no_and (decide_eq_false (by omega)) ⟨by omega, ?_⟩)
      rw [he]
      exact ends_eq _ rfl (by kernel_rfl)
    | succ j ih =>
      intro k acc hk ha he
      have hlt : k < is.length := by omega
      rw [List.drop_eq_getElem_cons hlt] at he
      refine go hz hX tabDk_ok Try.func93 (loopDk ck nx ps is cs ws id acc k) (yes_and (decide_eq_true (by omega)) ⟨by omega, by omega, ?_⟩)
      rw [el_lt hlt]
      have next := ih (k + 1)
      generalize is[k] = x at *
      have no : ¬ (iU x = id ∧ iI x ≠ id) → Safe P 93 X (Ends [tNs] (kidsF (esOf is) id, ())) (cDk ck nx ps is cs ws id acc ((k : Int) + 1)) := fun h => by
        refine next acc (by omega) (by omega) ?_
        rw [← he]
        have : ((iU x == id) && (iI x != id)) = false := by
          rw [← Bool.not_eq_true]
          simpa using h
        simp [kidsL, esOf, List.filter_cons, this]
      by_cases h1 : iU x = id
      · refine yes_and (by simpa using h1) ⟨by omega, by omega, ?_⟩
        by_cases h2 : iI x = id
        · exact no_and (by simpa using h2) ⟨⟨by omega, by omega⟩, no fun h => h.2 h2⟩
        · refine yes_and (by simpa using h2) ⟨by omega, by omega, by omega, ⟨by omega, by omega⟩, next (acc ++ [iI x]) (by omega) (by simp; omega) ?_⟩
          rw [← he]
          simp [kidsL, esOf, List.filter_cons, h1, h2]
      · exact no_and (by simpa using h1) ⟨⟨by omega, by omega⟩, no fun h => h1 h.1⟩
  exact go hz hX tabDk_ok Try.func93 (trDk ck nx ps is cs ws id) (loop is.length 0 [] (by omega) (by simp) (by simp))
theorem tabDb_ok {Z : Glob} : tabDb.Ok P Z := Tab.Ok.cons set_ok.sum (Tab.Ok.cons dk_ok.sum (Tab.Ok.cons i8_ok.sum Tab.Ok.nil))
structure BInv (es : Es) (id : Int) (D out : List Int) : Prop where
  nd : out.Nodup
  re : ∀ x ∈ out, x ≠ id ∧ Reach es id x
  k0 : ∀ x ∈ kidsF es id, x ∈ out
  kD : ∀ y ∈ D, ∀ x ∈ kidsF es y, x = id ∨ x ∈ out
theorem reach_mem {es : Es} {a b : Int} (h : Reach es a b) : b ∈ es.map (·.1) := by
  cases h with
  | kid h => exact List.mem_map.2 ⟨_, (mem_kids.1 h).1, rfl⟩
  | more _ h => exact List.mem_map.2 ⟨_, (mem_kids.1 h).1, rfl⟩
theorem BInv.le {es : Es} {id : Int} {D out : List Int} (h : BInv es id D out) : out.length ≤ es.length := by
  have := nodup_len h.nd fun x hx => reach_mem (h.re x hx).2
  simpa using this
theorem BInv.fin {es : Es} {id : Int} {out : List Int} (h : BInv es id out out) : setS out = belowF es id := by
  refine lt_ext (setS_lt _) (below_lt _ _) fun x => ?_
  rw [mem_setS, mem_below]
  refine ⟨h.re x, fun ⟨h1, h2⟩ => ?_⟩
  have key : ∀ x, Reach es id x → x = id ∨ x ∈ out := fun x hx => by
    induction hx with
    | kid hk => exact .inr (h.k0 _ hk)
    | more _ hk ih =>
      rcases ih with rfl | ih
      · exact .inr (h.k0 _ hk)
      · exact h.kD _ ih _ hk
  exact (key x h2).resolve_left h1
theorem db_ok {Z : Glob} : FnOk P Z 66 [tSt, tInt] [tNs] (fun ((_, _, _, is, _, _, ()), _, ()) => [(is : Is).length ≤ 1000000]) (fun ((_, _, _, is, _, _, ()), id, ()) => (belowF (esOf is) id, ())) := by
  refine fnOk_of_safe Try.func66 (by kernel_rfl) (by kernel_rfl) ?_
  rintro ⟨⟨(ck : Int), (nx : Int), (ps : Ps), (is : Is), (cs : Cs), (ws : Ws), ⟨⟩⟩, (id : Int), ⟨⟩⟩ _ ⟨(hl : is.length ≤ 1000000), _⟩ X hX hz
  show Safe P 66 X (Ends [tNs] (belowF (esOf is) id, ())) _
  have hel : (esOf is).length = is.length := List.length_map _
  have outer : ∀ (f i : Nat) (out : List Int), is.length < i + f → i ≤ out.length → BInv (esOf is) id (out.take i) out → Safe P 66 X (Ends [tNs] (belowF (esOf is) id, ())) (cDb ck nx ps is cs ws id out (i : Int)) := by
    intro f
    induction f with
    | zero => exact fun i out hf hi h => absurd h.le (by omega)
    | succ f ih =>
      intro i out hf hi h
      have hle := h.le
      by_cases hlt : i < out.length
      · have inner : ∀ (n k : Nat) (out' : List Int), k + n = (kidsF (esOf is) out[i]).length → i < out'.length → out'.take (i + 1) = out.take i ++ [out[i]] → BInv (esOf is) id (out.take i) out' → (∀ x ∈ (kidsF (esOf is) out[i]).take k, x = id ∨ x ∈ out') → Safe P 66 X (Ends [tNs] (belowF (esOf is) id, ())) (cDb2 ck nx ps is cs ws id out' (i : Int) (kidsF (esOf is) out[i]) (k : Int)) := by
          intro n
          induction n with
          | zero =>
            intro k out' hk hi' ht hb hks
            rw [List.take_of_length_le (by omega)] at hks
            have hle' := hb.le
            refine go hz hX tabDb_ok Try.func66 (loopDb2 ck nx ps is cs ws id out' i _ k) (no_and (decide_eq_false (by omega)) ⟨⟨by omega, by omega⟩, ih (i + 1) out' (by omega) (by omega) ?_⟩)
            rw [ht]
            refine ⟨hb.nd, hb.re, hb.k0, fun y hy => ?_⟩
            rcases List.mem_append.1 hy with hy | hy
            · exact hb.kD y hy
            · rw [List.mem_singleton.1 hy]; exact hks
          | succ n ih2 =>
            intro k out' hk hi' ht hb hks
            have hkl : k < (kidsF (esOf is) out[i]).length := by omega
            have hle' := hb.le
            have hkm := List.getElem_mem hkl
            have hkk : (kidsF (esOf is) out[i]).length ≤ is.length := by
              have h1 := setS_len (kidsL (esOf is) out[i])
              have h2 : (kidsL (esOf is) out[i]).length ≤ (esOf is).length := by unfold kidsL; rw [List.length_map]; exact List.length_filter_le _ _
              unfold kidsF
              omega
            have stp : ∀ o : List Int, (∀ x ∈ out', x ∈ o) → ((kidsF (esOf is) out[i])[k] = id ∨ (kidsF (esOf is) out[i])[k] ∈ o) → ∀ x ∈ (kidsF (esOf is) out[i]).take (k + 1), x = id ∨ x ∈ o := fun o h1 h2 x hx => by
              rw [List.take_add_one, List.getElem?_eq_getElem hkl, List.mem_append] at hx
              rcases hx with hx | hx
              · exact (hks x hx).imp_right (h1 x)
              · simp at hx; rw [hx]; exact h2
            refine go hz hX tabDb_ok Try.func66 (loopDb2 ck nx ps is cs ws id out' i _ k) (yes_and (decide_eq_true (by omega)) ⟨by omega, by omega, ?_⟩)
            rw [Int.toNat_natCast, getD_lt hkl]
            by_cases e1 : (kidsF (esOf is) out[i])[k] = id
            · exact no_and (by simpa using e1) ⟨⟨by omega, by omega⟩, ih2 (k + 1) out' (by omega) hi' ht hb (stp out' (fun _ h => h) (.inl e1))⟩
            · refine yes_and (by simpa using e1) ⟨by omega, by omega, ?_⟩
              by_cases e2 : (kidsF (esOf is) out[i])[k] ∈ out'
              · exact no_and (by rw [List.contains_eq_mem, decide_eq_true e2]; rfl) ⟨⟨by omega, by omega⟩, ih2 (k + 1) out' (by omega) hi' ht hb (stp out' (fun _ h => h) (.inr e2))⟩
              · have hwo : out[i] ∈ out := List.getElem_mem hlt
                have hrw := (h.re _ hwo).2
                refine yes_and (by rw [List.contains_eq_mem, decide_eq_false e2]; rfl) ⟨by omega, by omega, by omega, ⟨by omega, by omega⟩, ih2 (k + 1) (out' ++ [(kidsF (esOf is) out[i])[k]]) (by omega) (by rw [List.length_append]; omega) (by rw [List.take_append_of_le_length (by omega)]; exact ht) ?_ (stp _ (fun _ h => List.mem_append.2 (.inl h)) (.inr (by simp)))⟩
                refine ⟨List.nodup_append.2 ⟨hb.nd, by simp, fun x hx y hy e => ?_⟩, fun x hx => ?_, fun x hx => List.mem_append.2 (.inl (hb.k0 x hx)), fun y hy x hx => (hb.kD y hy x hx).imp_right fun h => List.mem_append.2 (.inl h)⟩
                · rw [List.mem_singleton.1 hy] at e
                  exact e2 (e ▸ hx)
                · rcases List.mem_append.1 hx with hx | hx
                  · exact hb.re x hx
                  · rw [List.mem_singleton.1 hx]
                    exact ⟨e1, .more hrw hkm⟩
        refine go hz hX tabDb_ok Try.func66 (loopDb ck nx ps is cs ws id out i) (yes_and (decide_eq_true (by omega)) ⟨by omega, by omega, by omega, ?_⟩)
        rw [Int.toNat_natCast, getD_lt hlt]
        exact inner (kidsF (esOf is) out[i]).length 0 out (by omega) hlt (by rw [List.take_add_one, List.getElem?_eq_getElem hlt]; rfl) h (by simp)
      · refine go hz hX tabDb_ok Try.func66 (loopDb ck nx ps is cs ws id out i) (no_and (decide_eq_false (by omega)) ⟨by omega, ?_⟩)
        rw [List.take_of_length_le (by omega)] at h
        rw [h.fin]
        exact ends_eq _ rfl (by kernel_rfl)
  refine go hz hX tabDb_ok Try.func66 (trDb ck nx ps is cs ws id) ⟨by omega, ?_⟩
  exact outer (is.length + 1) 0 _ (by omega) (by omega) ⟨rises_nodup (setS_lt _), fun x hx => ⟨(mem_kids.1 hx).2, .kid hx⟩, fun _ h => h, by simp⟩
theorem df_ok {Z : Glob} : FnOk P Z 65 [tSt, tInt] [tIt, tBool] (fun _ => []) (fun ((_, _, _, is, _, _, ()), id, ()) => (getT is id, hasI is id, ())) := by
  refine fnOk_of_safe Try.func65 (by kernel_rfl) (by kernel_rfl) ?_
  rintro ⟨⟨(ck : Int), (nx : Int), (ps : Ps), (is : Is), (cs : Cs), (ws : Ws), ⟨⟩⟩, (id : Int), ⟨⟩⟩ ⟨⟨_, _, _, (hl : is.length ≤ maxLen), _⟩, _⟩ _ X hX hz
  have hl2 : is.length ≤ 9223372036854775807 := by unfold maxLen at hl; omega
  show Safe P 65 X (Ends [tIt, tBool] (getI is id, hasI is id, ())) _
  have loop : ∀ (j k : Nat), k + j = is.length → (∀ i (hi : i < k) (h2 : i < is.length), iI is[i] ≠ id) → Safe P 65 X (Ends [tIt, tBool] (getI is id, hasI is id, ())) (cDf ck nx ps is cs ws id (k : Int)) := by
    intro j
    induction j with
    | zero =>
      intro k hk hi
      have hno : ∀ x ∈ is, iI x ≠ id := fun x hx => by
        obtain ⟨i, h1, rfl⟩ := List.mem_iff_getElem.1 hx
        exact hi i (by omega) h1
      have e1 : getI is id = CL.d cI := by
        rw [get_find, List.find?_eq_none.2 (fun x hx => by simpa using hno x hx)]; rfl
      have e2 : hasI is id = false := by
        rw [← Bool.not_eq_true, has_iff]
        exact fun ⟨y, hy, e⟩ => hno y hy e
      rw [e1, e2]
      exact go hz hX Tab.Ok.nil Try.func65 (loopDf ck nx ps is cs ws id k) (no_and (decide_eq_false (by omega)) (ends_eq _ rfl (by kernel_rfl)))
    | succ j ih =>
      intro k hk hi
      have hlt : k < is.length := by omega
      refine go hz hX Tab.Ok.nil Try.func65 (loopDf ck nx ps is cs ws id k) (yes_and (decide_eq_true (by omega)) ⟨by omega, by omega, ?_⟩)
      rw [el_lt hlt]
      by_cases h : iI is[k] = id
      · refine yes_and (by simpa using h) ⟨by omega, by omega, ?_⟩
        have e1 : getI is id = is[k] := by
          have : is.find? (fun x : CL cI => iI x == id) = some is[k] := by
            rw [List.find?_eq_some_iff_getElem]
            exact ⟨by simpa using h, k, hlt, rfl, fun j hj => by simpa using hi j hj (by omega)⟩
          rw [get_find, this]; rfl
        have e2 : hasI is id = true := has_iff.2 ⟨_, List.getElem_mem hlt, h⟩
        rw [e1, e2]
        generalize is[k] = x
        exact ends_eq _ rfl (by kernel_rfl)
      · refine no_and (by simpa using h) ⟨⟨by omega, by omega⟩, ih (k + 1) (by omega) fun i h1 h2 => ?_⟩
        by_cases e : i = k
        · subst e; exact h
        · exact hi i (by omega) h2
  exact go hz hX Tab.Ok.nil Try.func65 (trDf ck nx ps is cs ws id) (loop is.length 0 (by omega) fun i hi => absurd hi (Nat.not_lt_zero _))
end Ds

namespace Ds
open Go Go.Sx Go.Proofs Lf
def tabI1 : Tab := [(69, sumIn)]
def nsDd : List (Nat × Norm) := [(3, ⟨[(5, .typ cC [], eC)], [1, 2, 4, 5, 6], 0, []⟩), (7, ⟨[], [1, 2, 4, 5, 6, 7, 8], 0, []⟩)]
theorem trDd (ck nx : Int) (ps : Ps) (is : Is) (cs : Cs) (ws : Ws) (l : List Int) : run P tab0.sum Try.f96 nsDd (start Try.f96 [avSt ck nx ps is cs ws, avL l] []) =
  Tree.at (Cfg.mk (sl (49 : Nat) [((1 : Nat), AV.s (SV.ro (Con.ints IntKind.i64 l))), ((2 : Nat), AV.ptr (0 : Nat) (0 : Nat)), ((4 : Nat), AV.ptr (1 : Nat) (0 : Nat)), ((5 : Nat), AV.vec (2 : Nat)), ((6 : Nat), AV.s (SV.int IntKind.i64 (0 : Int)))]) [AObj.own [AV.s (SV.int IntKind.i64 ck), AV.s (SV.int IntKind.i64 nx), AV.s (SV.ro (Con.typ cP ps)), AV.s (SV.ro (Con.typ cI is)), AV.s (SV.ro (Con.typ cC cs)), AV.s (SV.ro (Con.typ cW ws))] (27 : Nat), AObj.own [AV.s (SV.int IntKind.i64 (0 : Int)), AV.s (SV.int IntKind.i64 (0 : Int)), AV.emp, AV.emp, AV.emp, AV.emp] (27 : Nat), AObj.vec (Con.typ cC []) (90 : Nat)] (hd Try.f96 (3 : Nat)) (Stk.mk none false (0 : Nat) [] (0 : Nat))) := by kernel_rfl
noncomputable def cDd (ck nx : Int) (ps : Ps) (is : Is) (cs : Cs) (ws : Ws) (l : List Int) (acc : Cs) (i : Int) : Cfg := ⟨sl 49 [(1, avL l), (2, .ptr 0 0), (4, .ptr 1 0), (5, .vec 2), (6, avI i)], [obSt ck nx ps is cs ws, obZ, .vec (.typ cC acc) eC], hd Try.f96 3, {}⟩
theorem loopDd (ck nx : Int) (ps : Ps) (is : Is) (cs : Cs) (ws : Ws) (l : List Int) (acc : Cs) (i : Int) : run P tab0.sum Try.f96 nsDd (cDd ck nx ps is cs ws l acc i) =
  Tree.ite (decide (i < (↑(List.length cs) : Int))) (Tree.at (Cfg.mk (sl (49 : Nat) [((1 : Nat), AV.s (SV.ro (Con.ints IntKind.i64 l))), ((2 : Nat), AV.ptr (0 : Nat) (0 : Nat)), ((4 : Nat), AV.ptr (1 : Nat) (0 : Nat)), ((5 : Nat), AV.vec (2 : Nat)), ((6 : Nat), AV.s (SV.int IntKind.i64 i)), ((7 : Nat), AV.s (SV.bool false)), ((8 : Nat), AV.s (SV.int IntKind.i64 (0 : Int)))]) [AObj.own [AV.s (SV.int IntKind.i64 ck), AV.s (SV.int IntKind.i64 nx), AV.s (SV.ro (Con.typ cP ps)), AV.s (SV.ro (Con.typ cI is)), AV.s (SV.ro (Con.typ cC cs)), AV.s (SV.ro (Con.typ cW ws))] (27 : Nat), AObj.own [AV.s (SV.int IntKind.i64 (0 : Int)), AV.s (SV.int IntKind.i64 (0 : Int)), AV.emp, AV.emp, AV.emp, AV.emp] (27 : Nat), AObj.vec (Con.typ cC acc) (90 : Nat)] (hd Try.f96 (7 : Nat)) (Stk.mk none false (0 : Nat) [] (0 : Nat)))) (Tree.ret [AObj.own [AV.s (SV.int IntKind.i64 ck), AV.s (SV.int IntKind.i64 nx), AV.s (SV.ro (Con.typ cP ps)), AV.s (SV.ro (Con.typ cI is)), AV.vec (2 : Nat), AV.s (SV.ro (Con.typ cW ws))] (27 : Nat), AObj.own [AV.s (SV.int IntKind.i64 ck), AV.s (SV.int IntKind.i64 nx), AV.s (SV.ro (Con.typ cP ps)), AV.s (SV.ro (Con.typ cI is)), AV.vec (2 : Nat), AV.s (SV.ro (Con.typ cW ws))] (27 : Nat), AObj.vec (Con.typ cC acc) (90 : Nat)] (AV.agg [AV.s (SV.int IntKind.i64 ck), AV.s (SV.int IntKind.i64 nx), AV.s (SV.ro (Con.typ cP ps)), AV.s (SV.ro (Con.typ cI is)), AV.vec (2 : Nat), AV.s (SV.ro (Con.typ cW ws))])) := by kernel_rfl
noncomputable def cDd2 (ck nx : Int) (ps : Ps) (is : Is) (cs : Cs) (ws : Ws) (l : List Int) (acc : Cs) (i : Int) (g : Bool) (k : Int) : Cfg := ⟨sl 49 [(1, avL l), (2, .ptr 0 0), (4, .ptr 1 0), (5, .vec 2), (6, avI i), (7, .s (.bool g)), (8, avI k)], [obSt ck nx ps is cs ws, obZ, .vec (.typ cC acc) eC], hd Try.f96 7, {}⟩
theorem loopDd2 (ck nx : Int) (ps : Ps) (is : Is) (cs : Cs) (ws : Ws) (l : List Int) (acc : Cs) (i : Int) (g : Bool) (k : Int) : run P tab0.sum Try.f96 nsDd (cDd2 ck nx ps is cs ws l acc i g k) =
  Tree.ite (decide (k < (↑l.length : Int))) (Tree.ite g (Tree.need (inI64 (k + (1 : Int))) (Tree.at (Cfg.mk (sl (49 : Nat) [((1 : Nat), AV.s (SV.ro (Con.ints IntKind.i64 l))), ((2 : Nat), AV.ptr (0 : Nat) (0 : Nat)), ((4 : Nat), AV.ptr (1 : Nat) (0 : Nat)), ((5 : Nat), AV.vec (2 : Nat)), ((6 : Nat), AV.s (SV.int IntKind.i64 i)), ((7 : Nat), AV.s (SV.bool true)), ((8 : Nat), AV.s (SV.int IntKind.i64 (k + (1 : Int))))]) [AObj.own [AV.s (SV.int IntKind.i64 ck), AV.s (SV.int IntKind.i64 nx), AV.s (SV.ro (Con.typ cP ps)), AV.s (SV.ro (Con.typ cI is)), AV.s (SV.ro (Con.typ cC cs)), AV.s (SV.ro (Con.typ cW ws))] (27 : Nat), AObj.own [AV.s (SV.int IntKind.i64 (0 : Int)), AV.s (SV.int IntKind.i64 (0 : Int)), AV.emp, AV.emp, AV.emp, AV.emp] (27 : Nat), AObj.vec (Con.typ cC acc) (90 : Nat)] (hd Try.f96 (7 : Nat)) (Stk.mk none false (0 : Nat) [] (0 : Nat))))) (Tree.need ((0 : Int) ≤ k) (Tree.need (k < (↑l.length : Int)) (Tree.need ((0 : Int) ≤ i) (Tree.need (i < (↑(List.length cs) : Int)) (Tree.need (inI64 (k + (1 : Int))) (Tree.at (Cfg.mk (sl (49 : Nat) [((1 : Nat), AV.s (SV.ro (Con.ints IntKind.i64 l))), ((2 : Nat), AV.ptr (0 : Nat) (0 : Nat)), ((4 : Nat), AV.ptr (1 : Nat) (0 : Nat)), ((5 : Nat), AV.vec (2 : Nat)), ((6 : Nat), AV.s (SV.int IntKind.i64 i)), ((7 : Nat), AV.s (SV.bool (l.getD k.toNat (0 : Int) == lS (el cs i)))), ((8 : Nat), AV.s (SV.int IntKind.i64 (k + (1 : Int))))]) [AObj.own [AV.s (SV.int IntKind.i64 ck), AV.s (SV.int IntKind.i64 nx), AV.s (SV.ro (Con.typ cP ps)), AV.s (SV.ro (Con.typ cI is)), AV.s (SV.ro (Con.typ cC cs)), AV.s (SV.ro (Con.typ cW ws))] (27 : Nat), AObj.own [AV.s (SV.int IntKind.i64 (0 : Int)), AV.s (SV.int IntKind.i64 (0 : Int)), AV.emp, AV.emp, AV.emp, AV.emp] (27 : Nat), AObj.vec (Con.typ cC acc) (90 : Nat)] (hd Try.f96 (7 : Nat)) (Stk.mk none false (0 : Nat) [] (0 : Nat)))))))))) (Tree.ite (!g) (Tree.need ((0 : Int) ≤ i) (Tree.need (i < (↑(List.length cs) : Int)) (Tree.need ((List.length acc + (1 : Nat)) * (56 : Nat) ≤ (140737488355328 : Nat)) (Tree.need (inI64 (i + (1 : Int))) (Tree.at (Cfg.mk (sl (49 : Nat) [((1 : Nat), AV.s (SV.ro (Con.ints IntKind.i64 l))), ((2 : Nat), AV.ptr (0 : Nat) (0 : Nat)), ((4 : Nat), AV.ptr (1 : Nat) (0 : Nat)), ((5 : Nat), AV.vec (2 : Nat)), ((6 : Nat), AV.s (SV.int IntKind.i64 (i + (1 : Int))))]) [AObj.own [AV.s (SV.int IntKind.i64 ck), AV.s (SV.int IntKind.i64 nx), AV.s (SV.ro (Con.typ cP ps)), AV.s (SV.ro (Con.typ cI is)), AV.s (SV.ro (Con.typ cC cs)), AV.s (SV.ro (Con.typ cW ws))] (27 : Nat), AObj.own [AV.s (SV.int IntKind.i64 (0 : Int)), AV.s (SV.int IntKind.i64 (0 : Int)), AV.emp, AV.emp, AV.emp, AV.emp] (27 : Nat), AObj.vec (Con.typ cC (acc ++ [el cs i])) (90 : Nat)] (hd Try.f96 (3 : Nat)) (Stk.mk none false (0 : Nat) [] (0 : Nat)))))))) (Tree.need (inI64 (i + (1 : Int))) (Tree.at (Cfg.mk (sl (49 : Nat) [((1 : Nat), AV.s (SV.ro (Con.ints IntKind.i64 l))), ((2 : Nat), AV.ptr (0 : Nat) (0 : Nat)), ((4 : Nat), AV.ptr (1 : Nat) (0 : Nat)), ((5 : Nat), AV.vec (2 : Nat)), ((6 : Nat), AV.s (SV.int IntKind.i64 (i + (1 : Int))))]) [AObj.own [AV.s (SV.int IntKind.i64 ck), AV.s (SV.int IntKind.i64 nx), AV.s (SV.ro (Con.typ cP ps)), AV.s (SV.ro (Con.typ cI is)), AV.s (SV.ro (Con.typ cC cs)), AV.s (SV.ro (Con.typ cW ws))] (27 : Nat), AObj.own [AV.s (SV.int IntKind.i64 (0 : Int)), AV.s (SV.int IntKind.i64 (0 : Int)), AV.emp, AV.emp, AV.emp, AV.emp] (27 : Nat), AObj.vec (Con.typ cC acc) (90 : Nat)] (hd Try.f96 (3 : Nat)) (Stk.mk none false (0 : Nat) [] (0 : Nat)))))) := by kernel_rfl
def tabDi : Tab := [(69, sumIn), (96, sumDr)]
def nsDi2 : List (Nat × Norm) := [(3, ⟨[(5, .typ cI [], eI)], [1, 2, 4, 5, 6], 0, []⟩)]
theorem trDi2 (ck nx : Int) (ps : Ps) (is : Is) (cs : Cs) (ws : Ws) (l : List Int) : run P tabDi.sum Try.f68 nsDi2 (start Try.f68 [avSt ck nx ps is cs ws, avL l] []) =
  Tree.at (Cfg.mk (sl (36 : Nat) [((1 : Nat), AV.s (SV.ro (Con.ints IntKind.i64 l))), ((2 : Nat), AV.ptr (0 : Nat) (0 : Nat)), ((4 : Nat), AV.ptr (1 : Nat) (0 : Nat)), ((5 : Nat), AV.vec (2 : Nat)), ((6 : Nat), AV.s (SV.int IntKind.i64 (0 : Int)))]) [AObj.own [AV.s (SV.int IntKind.i64 ck), AV.s (SV.int IntKind.i64 nx), AV.s (SV.ro (Con.typ cP ps)), AV.s (SV.ro (Con.typ cI is)), AV.s (SV.ro (Con.typ cC cs)), AV.s (SV.ro (Con.typ cW ws))] (27 : Nat), AObj.own [AV.s (SV.int IntKind.i64 (0 : Int)), AV.s (SV.int IntKind.i64 (0 : Int)), AV.emp, AV.emp, AV.emp, AV.emp] (27 : Nat), AObj.vec (Con.typ cI []) (43 : Nat)] (hd Try.f68 (3 : Nat)) (Stk.mk none false (0 : Nat) [] (0 : Nat))) := by kernel_rfl
noncomputable def cDj (ck nx : Int) (ps : Ps) (is : Is) (cs : Cs) (ws : Ws) (l : List Int) (acc : Is) (i : Int) : Cfg := ⟨sl 36 [(1, avL l), (2, .ptr 0 0), (4, .ptr 1 0), (5, .vec 2), (6, avI i)], [obSt ck nx ps is cs ws, obZ, .vec (.typ cI acc) eI], hd Try.f68 3, {}⟩
theorem loopDj (ck nx : Int) (ps : Ps) (is : Is) (cs : Cs) (ws : Ws) (l : List Int) (acc : Is) (i : Int) : run P tabDi.sum Try.f68 nsDi2 (cDj ck nx ps is cs ws l acc i) =
  Tree.ite (decide (i < (↑(List.length is) : Int))) (Tree.need ((0 : Int) ≤ i) (Tree.need (i < (↑(List.length is) : Int)) (Tree.ite (!l.contains (iI (el is i))) (Tree.need ((0 : Int) ≤ i) (Tree.need (i < (↑(List.length is) : Int)) (Tree.need ((List.length acc + (1 : Nat)) * (80 : Nat) ≤ (140737488355328 : Nat)) (Tree.need (inI64 (i + (1 : Int))) (Tree.at (Cfg.mk (sl (36 : Nat) [((1 : Nat), AV.s (SV.ro (Con.ints IntKind.i64 l))), ((2 : Nat), AV.ptr (0 : Nat) (0 : Nat)), ((4 : Nat), AV.ptr (1 : Nat) (0 : Nat)), ((5 : Nat), AV.vec (2 : Nat)), ((6 : Nat), AV.s (SV.int IntKind.i64 (i + (1 : Int))))]) [AObj.own [AV.s (SV.int IntKind.i64 ck), AV.s (SV.int IntKind.i64 nx), AV.s (SV.ro (Con.typ cP ps)), AV.s (SV.ro (Con.typ cI is)), AV.s (SV.ro (Con.typ cC cs)), AV.s (SV.ro (Con.typ cW ws))] (27 : Nat), AObj.own [AV.s (SV.int IntKind.i64 (0 : Int)), AV.s (SV.int IntKind.i64 (0 : Int)), AV.emp, AV.emp, AV.emp, AV.emp] (27 : Nat), AObj.vec (Con.typ cI (acc ++ [el is i])) (43 : Nat)] (hd Try.f68 (3 : Nat)) (Stk.mk none false (0 : Nat) [] (0 : Nat)))))))) (Tree.need (inI64 (i + (1 : Int))) (Tree.at (Cfg.mk (sl (36 : Nat) [((1 : Nat), AV.s (SV.ro (Con.ints IntKind.i64 l))), ((2 : Nat), AV.ptr (0 : Nat) (0 : Nat)), ((4 : Nat), AV.ptr (1 : Nat) (0 : Nat)), ((5 : Nat), AV.vec (2 : Nat)), ((6 : Nat), AV.s (SV.int IntKind.i64 (i + (1 : Int))))]) [AObj.own [AV.s (SV.int IntKind.i64 ck), AV.s (SV.int IntKind.i64 nx), AV.s (SV.ro (Con.typ cP ps)), AV.s (SV.ro (Con.typ cI is)), AV.s (SV.ro (Con.typ cC cs)), AV.s (SV.ro (Con.typ cW ws))] (27 : Nat), AObj.own [AV.s (SV.int IntKind.i64 (0 : Int)), AV.s (SV.int IntKind.i64 (0 : Int)), AV.emp, AV.emp, AV.emp, AV.emp] (27 : Nat), AObj.vec (Con.typ cI acc) (43 : Nat)] (hd Try.f68 (3 : Nat)) (Stk.mk none false (0 : Nat) [] (0 : Nat)))))))) (Tree.need (List.length cs ≤ (1000000 : Nat)) (Tree.ret [AObj.own [AV.s (SV.int IntKind.i64 ck), AV.s (SV.int IntKind.i64 nx), AV.s (SV.ro (Con.typ cP ps)), AV.vec (2 : Nat), AV.s (SV.ro (Con.typ cC cs)), AV.s (SV.ro (Con.typ cW ws))] (27 : Nat), AObj.own [AV.s (SV.int IntKind.i64 ck), AV.s (SV.int IntKind.i64 nx), AV.s (SV.ro (Con.typ cP ps)), AV.s (SV.ro (Con.typ cI acc)), AV.s (SV.ro (Con.typ cC (delF (pDr l) cs))), AV.s (SV.ro (Con.typ cW ws))] (27 : Nat), AObj.dead] (AV.agg [AV.s (SV.int IntKind.i64 ck), AV.s (SV.int IntKind.i64 nx), AV.s (SV.ro (Con.typ cP ps)), AV.s (SV.ro (Con.typ cI acc)), AV.s (SV.ro (Con.typ cC (delF (pDr l) cs))), AV.s (SV.ro (Con.typ cW ws))]))) := by kernel_rfl
def nsDw : List (Nat × Norm) := [(3, ⟨[(5, .typ cW [], eW)], [1, 2, 4, 5, 6], 0, []⟩)]
theorem trDw (ck nx : Int) (ps : Ps) (is : Is) (cs : Cs) (ws : Ws) (l : List Int) : run P tabDi.sum Try.f67 nsDw (start Try.f67 [avSt ck nx ps is cs ws, avL l] []) =
  Tree.at (Cfg.mk (sl (34 : Nat) [((1 : Nat), AV.s (SV.ro (Con.ints IntKind.i64 l))), ((2 : Nat), AV.ptr (0 : Nat) (0 : Nat)), ((4 : Nat), AV.ptr (1 : Nat) (0 : Nat)), ((5 : Nat), AV.vec (2 : Nat)), ((6 : Nat), AV.s (SV.int IntKind.i64 (0 : Int)))]) [AObj.own [AV.s (SV.int IntKind.i64 ck), AV.s (SV.int IntKind.i64 nx), AV.s (SV.ro (Con.typ cP ps)), AV.s (SV.ro (Con.typ cI is)), AV.s (SV.ro (Con.typ cC cs)), AV.s (SV.ro (Con.typ cW ws))] (27 : Nat), AObj.own [AV.s (SV.int IntKind.i64 (0 : Int)), AV.s (SV.int IntKind.i64 (0 : Int)), AV.emp, AV.emp, AV.emp, AV.emp] (27 : Nat), AObj.vec (Con.typ cW []) (93 : Nat)] (hd Try.f67 (3 : Nat)) (Stk.mk none false (0 : Nat) [] (0 : Nat))) := by kernel_rfl
noncomputable def cDw (ck nx : Int) (ps : Ps) (is : Is) (cs : Cs) (ws : Ws) (l : List Int) (acc : Ws) (i : Int) : Cfg := ⟨sl 34 [(1, avL l), (2, .ptr 0 0), (4, .ptr 1 0), (5, .vec 2), (6, avI i)], [obSt ck nx ps is cs ws, obZ, .vec (.typ cW acc) eW], hd Try.f67 3, {}⟩
theorem loopDw (ck nx : Int) (ps : Ps) (is : Is) (cs : Cs) (ws : Ws) (l : List Int) (acc : Ws) (i : Int) : run P tabDi.sum Try.f67 nsDw (cDw ck nx ps is cs ws l acc i) =
  Tree.ite (decide (i < (↑(List.length ws) : Int))) (Tree.need ((0 : Int) ≤ i) (Tree.need (i < (↑(List.length ws) : Int)) (Tree.ite (!l.contains (wT (el ws i))) (Tree.need ((0 : Int) ≤ i) (Tree.need (i < (↑(List.length ws) : Int)) (Tree.need ((List.length acc + (1 : Nat)) * (64 : Nat) ≤ (140737488355328 : Nat)) (Tree.need (inI64 (i + (1 : Int))) (Tree.at (Cfg.mk (sl (34 : Nat) [((1 : Nat), AV.s (SV.ro (Con.ints IntKind.i64 l))), ((2 : Nat), AV.ptr (0 : Nat) (0 : Nat)), ((4 : Nat), AV.ptr (1 : Nat) (0 : Nat)), ((5 : Nat), AV.vec (2 : Nat)), ((6 : Nat), AV.s (SV.int IntKind.i64 (i + (1 : Int))))]) [AObj.own [AV.s (SV.int IntKind.i64 ck), AV.s (SV.int IntKind.i64 nx), AV.s (SV.ro (Con.typ cP ps)), AV.s (SV.ro (Con.typ cI is)), AV.s (SV.ro (Con.typ cC cs)), AV.s (SV.ro (Con.typ cW ws))] (27 : Nat), AObj.own [AV.s (SV.int IntKind.i64 (0 : Int)), AV.s (SV.int IntKind.i64 (0 : Int)), AV.emp, AV.emp, AV.emp, AV.emp] (27 : Nat), AObj.vec (Con.typ cW (acc ++ [el ws i])) (93 : Nat)] (hd Try.f67 (3 : Nat)) (Stk.mk none false (0 : Nat) [] (0 : Nat)))))))) (Tree.need (inI64 (i + (1 : Int))) (Tree.at (Cfg.mk (sl (34 : Nat) [((1 : Nat), AV.s (SV.ro (Con.ints IntKind.i64 l))), ((2 : Nat), AV.ptr (0 : Nat) (0 : Nat)), ((4 : Nat), AV.ptr (1 : Nat) (0 : Nat)), ((5 : Nat), AV.vec (2 : Nat)), ((6 : Nat), AV.s (SV.int IntKind.i64 (i + (1 : Int))))]) [AObj.own [AV.s (SV.int IntKind.i64 ck), AV.s (SV.int IntKind.i64 nx), AV.s (SV.ro (Con.typ cP ps)), AV.s (SV.ro (Con.typ cI is)), AV.s (SV.ro (Con.typ cC cs)), AV.s (SV.ro (Con.typ cW ws))] (27 : Nat), AObj.own [AV.s (SV.int IntKind.i64 (0 : Int)), AV.s (SV.int IntKind.i64 (0 : Int)), AV.emp, AV.emp, AV.emp, AV.emp] (27 : Nat), AObj.vec (Con.typ cW acc) (93 : Nat)] (hd Try.f67 (3 : Nat)) (Stk.mk none false (0 : Nat) [] (0 : Nat)))))))) (Tree.ret [AObj.own [AV.s (SV.int IntKind.i64 ck), AV.s (SV.int IntKind.i64 nx), AV.s (SV.ro (Con.typ cP ps)), AV.s (SV.ro (Con.typ cI is)), AV.s (SV.ro (Con.typ cC cs)), AV.vec (2 : Nat)] (27 : Nat), AObj.own [AV.s (SV.int IntKind.i64 ck), AV.s (SV.int IntKind.i64 nx), AV.s (SV.ro (Con.typ cP ps)), AV.s (SV.ro (Con.typ cI is)), AV.s (SV.ro (Con.typ cC cs)), AV.vec (2 : Nat)] (27 : Nat), AObj.vec (Con.typ cW acc) (93 : Nat)] (AV.agg [AV.s (SV.int IntKind.i64 ck), AV.s (SV.int IntKind.i64 nx), AV.s (SV.ro (Con.typ cP ps)), AV.s (SV.ro (Con.typ cI is)), AV.s (SV.ro (Con.typ cC cs)), AV.vec (2 : Nat)])) := by kernel_rfl
abbrev sumDi2 := sumR [tSt, tNs] [tSr] (fun ((_, _, _, is, cs, _, ()), _, ()) => [(is : Is).length ≤ 1000000, (cs : Cs).length ≤ 1000000]) (fun ((ck, nx, ps, is, cs, ws, ()), l, ()) => ((ck, nx, ps, delF (pIt l) (is : Is), delF (pDr l) (cs : Cs), ws, ()), ()))
abbrev sumDw := sumR [tSt, tNs] [tSr] (fun ((_, _, _, _, _, ws, ()), _, ()) => [(ws : Ws).length ≤ 1000000]) (fun ((ck, nx, ps, is, cs, ws, ()), l, ()) => ((ck, nx, ps, is, cs, delF (pWa l) (ws : Ws), ()), ()))
def tabDt : Tab := [(65, sumFi), (66, sumBe), (68, sumDi2), (67, sumDw), (40, sumCl)]
def nsDt : List (Nat × Norm) := [(midKey + 5000, ⟨[], [2, 4, 7], 0, []⟩)]
theorem trDt (ck nx : Int) (ps : Ps) (is : Is) (cs : Cs) (ws : Ws) (id : Int) : run P tabDt.sum Try.f39 nsDt (start Try.f39 [avSt ck nx ps is cs ws, avI id] []) =
  Tree.ite (!hasI is id) (Tree.ret [AObj.own [AV.s (SV.int IntKind.i64 ck), AV.s (SV.int IntKind.i64 nx), AV.s (SV.ro (Con.typ cP ps)), AV.s (SV.ro (Con.typ cI is)), AV.s (SV.ro (Con.typ cC cs)), AV.s (SV.ro (Con.typ cW ws))] (27 : Nat), AObj.own [AV.s (SV.int IntKind.i64 ck), AV.s (SV.int IntKind.i64 nx), AV.s (SV.ro (Con.typ cP ps)), AV.s (SV.ro (Con.typ cI is)), AV.s (SV.ro (Con.typ cC cs)), AV.s (SV.ro (Con.typ cW ws))] (27 : Nat), AObj.own [AV.s (SV.int IntKind.i64 (gI is id)), AV.s (SV.int IntKind.i64 (gU is id)), AV.s (SV.int IntKind.u8 (gS is id)), AV.s (SV.str (gP is id)), AV.s (SV.int IntKind.i64 (gN is id)), AV.s (SV.int IntKind.i64 (gF is id)), AV.s (SV.int IntKind.u8 (gW is id)), AV.s (SV.str (gC is id))] (43 : Nat)] (AV.agg [AV.s (SV.int IntKind.i64 ck), AV.s (SV.int IntKind.i64 nx), AV.s (SV.ro (Con.typ cP ps)), AV.s (SV.ro (Con.typ cI is)), AV.s (SV.ro (Con.typ cC cs)), AV.s (SV.ro (Con.typ cW ws))])) (Tree.need (List.length is ≤ (1000000 : Nat)) (Tree.need (((1 : Nat) + (belowF (esOf is) id).length) * (8 : Nat) ≤ (140737488355328 : Nat)) (Tree.at (Cfg.mk (sl (28 : Nat) [((2 : Nat), AV.ptr (0 : Nat) (0 : Nat)), ((4 : Nat), AV.ptr (1 : Nat) (0 : Nat)), ((7 : Nat), AV.vec (2 : Nat))]) [AObj.own [AV.s (SV.int IntKind.i64 ck), AV.s (SV.int IntKind.i64 nx), AV.s (SV.ro (Con.typ cP ps)), AV.s (SV.ro (Con.typ cI is)), AV.s (SV.ro (Con.typ cC cs)), AV.s (SV.ro (Con.typ cW ws))] (27 : Nat), AObj.own [AV.s (SV.int IntKind.i64 (0 : Int)), AV.s (SV.int IntKind.i64 (0 : Int)), AV.emp, AV.emp, AV.emp, AV.emp] (27 : Nat), AObj.vec (Con.ints IntKind.i64 ([id] ++ belowF (esOf is) id)) (3 : Nat)] (cal Try.f39 (5 : Nat) (0 : Nat)) (Stk.mk none false (0 : Nat) [] (5 : Nat)))))) := by kernel_rfl
noncomputable def cDtE (ck nx : Int) (ps : Ps) (is : Is) (cs : Cs) (ws : Ws) (q : List Int) : Cfg := ⟨sl 28 [(2, .ptr 0 0), (4, .ptr 1 0), (7, avL q)], [obSt ck nx ps is cs ws, obZ, .dead], cal Try.f39 5 0, kk 5⟩
theorem endDt (ck nx : Int) (ps : Ps) (is : Is) (cs : Cs) (ws : Ws) (q : List Int) : run P tabDt.sum Try.f39 nsDt (cDtE ck nx ps is cs ws q) =
  Tree.need (List.length is ≤ (1000000 : Nat)) (Tree.need (List.length cs ≤ (1000000 : Nat)) (Tree.need (List.length ws ≤ (1000000 : Nat)) (Tree.ret [AObj.own [AV.s (SV.int IntKind.i64 ck), AV.s (SV.int IntKind.i64 nx), AV.s (SV.ro (Con.typ cP ps)), AV.s (SV.ro (Con.typ cI is)), AV.s (SV.ro (Con.typ cC cs)), AV.s (SV.ro (Con.typ cW ws))] (27 : Nat), AObj.own [AV.s (SV.int IntKind.i64 ck), AV.s (SV.int IntKind.i64 nx), AV.s (SV.ro (Con.typ cP ps)), AV.s (SV.ro (Con.typ cI (delF (pIt q) is))), AV.s (SV.ro (Con.typ cC (delF (pDr q) cs))), AV.s (SV.ro (Con.typ cW (delF (pWa q) ws)))] (27 : Nat), AObj.dead] (AV.agg [AV.s (SV.int IntKind.i64 ck), AV.s (SV.int IntKind.i64 nx), AV.s (SV.ro (Con.typ cP ps)), AV.s (SV.ro (Con.typ cI (delF (pIt q) is))), AV.s (SV.ro (Con.typ cC (delF (pDr q) cs))), AV.s (SV.ro (Con.typ cW (delF (pWa q) ws)))])))) := by kernel_rfl
theorem trDr2 (ck nx : Int) (ps : Ps) (is : Is) (cs : Cs) (ws : Ws) (id : Int) : run P tabDt.sum Try.f41 [] (start Try.f41 [avSt ck nx ps is cs ws, avI id] []) =
  Tree.ite (!hasI is id) (Tree.ret [AObj.own [AV.s (SV.int IntKind.i64 ck), AV.s (SV.int IntKind.i64 nx), AV.s (SV.ro (Con.typ cP ps)), AV.s (SV.ro (Con.typ cI is)), AV.s (SV.ro (Con.typ cC cs)), AV.s (SV.ro (Con.typ cW ws))] (27 : Nat), AObj.own [AV.s (SV.int IntKind.i64 ck), AV.s (SV.int IntKind.i64 nx), AV.s (SV.ro (Con.typ cP ps)), AV.s (SV.ro (Con.typ cI is)), AV.s (SV.ro (Con.typ cC cs)), AV.s (SV.ro (Con.typ cW ws))] (27 : Nat), AObj.own [AV.s (SV.int IntKind.i64 (gI is id)), AV.s (SV.int IntKind.i64 (gU is id)), AV.s (SV.int IntKind.u8 (gS is id)), AV.s (SV.str (gP is id)), AV.s (SV.int IntKind.i64 (gN is id)), AV.s (SV.int IntKind.i64 (gF is id)), AV.s (SV.int IntKind.u8 (gW is id)), AV.s (SV.str (gC is id))] (43 : Nat)] (AV.agg [AV.s (SV.int IntKind.i64 ck), AV.s (SV.int IntKind.i64 nx), AV.s (SV.ro (Con.typ cP ps)), AV.s (SV.ro (Con.typ cI is)), AV.s (SV.ro (Con.typ cC cs)), AV.s (SV.ro (Con.typ cW ws))])) (Tree.need (List.length is ≤ (1000000 : Nat)) (Tree.need (List.length cs ≤ (1000000 : Nat)) (Tree.need (List.length ws ≤ (1000000 : Nat)) (Tree.need ((delF (pWa (clearL is id)) ws).length ≤ (1000000 : Nat)) (Tree.ret [AObj.own [AV.s (SV.int IntKind.i64 ck), AV.s (SV.int IntKind.i64 nx), AV.s (SV.ro (Con.typ cP ps)), AV.s (SV.ro (Con.typ cI is)), AV.s (SV.ro (Con.typ cC cs)), AV.s (SV.ro (Con.typ cW ws))] (27 : Nat), AObj.own [AV.s (SV.int IntKind.i64 ck), AV.s (SV.int IntKind.i64 nx), AV.s (SV.ro (Con.typ cP ps)), AV.s (SV.ro (Con.typ cI (delF (pIt (clearL is id)) is))), AV.s (SV.ro (Con.typ cC (delF (pDr (clearL is id)) cs))), AV.s (SV.ro (Con.typ cW (delF (pWa [id]) (delF (pWa (clearL is id)) ws))))] (27 : Nat), AObj.own [AV.s (SV.int IntKind.i64 (gI is id)), AV.s (SV.int IntKind.i64 (gU is id)), AV.s (SV.int IntKind.u8 (gS is id)), AV.s (SV.str (gP is id)), AV.s (SV.int IntKind.i64 (gN is id)), AV.s (SV.int IntKind.i64 (gF is id)), AV.s (SV.int IntKind.u8 (gW is id)), AV.s (SV.str (gC is id))] (43 : Nat), AObj.dead] (AV.agg [AV.s (SV.int IntKind.i64 ck), AV.s (SV.int IntKind.i64 nx), AV.s (SV.ro (Con.typ cP ps)), AV.s (SV.ro (Con.typ cI (delF (pIt (clearL is id)) is))), AV.s (SV.ro (Con.typ cC (delF (pDr (clearL is id)) cs))), AV.s (SV.ro (Con.typ cW (delF (pWa [id]) (delF (pWa (clearL is id)) ws))))])))))) := by kernel_rfl
def tabDc : Tab := [(65, sumFi), (66, sumBe), (68, sumDi2), (67, sumDw)]
def nsDc : List (Nat × Norm) := [(7, ⟨[(7, .ints .i64 [], 3)], [1, 2, 4, 7, 8, 9], 0, []⟩), (midKey + 11000, ⟨[], [2, 4, 7], 0, []⟩)]
theorem trDc (ck nx : Int) (ps : Ps) (is : Is) (cs : Cs) (ws : Ws) (id : Int) : run P tabDc.sum Try.f40 nsDc (start Try.f40 [avSt ck nx ps is cs ws, avI id] []) =
  Tree.ite (!hasI is id) (Tree.ret [AObj.own [AV.s (SV.int IntKind.i64 ck), AV.s (SV.int IntKind.i64 nx), AV.s (SV.ro (Con.typ cP ps)), AV.s (SV.ro (Con.typ cI is)), AV.s (SV.ro (Con.typ cC cs)), AV.s (SV.ro (Con.typ cW ws))] (27 : Nat), AObj.own [AV.s (SV.int IntKind.i64 ck), AV.s (SV.int IntKind.i64 nx), AV.s (SV.ro (Con.typ cP ps)), AV.s (SV.ro (Con.typ cI is)), AV.s (SV.ro (Con.typ cC cs)), AV.s (SV.ro (Con.typ cW ws))] (27 : Nat), AObj.own [AV.s (SV.int IntKind.i64 (gI is id)), AV.s (SV.int IntKind.i64 (gU is id)), AV.s (SV.int IntKind.u8 (gS is id)), AV.s (SV.str (gP is id)), AV.s (SV.int IntKind.i64 (gN is id)), AV.s (SV.int IntKind.i64 (gF is id)), AV.s (SV.int IntKind.u8 (gW is id)), AV.s (SV.str (gC is id))] (43 : Nat)] (AV.agg [AV.s (SV.int IntKind.i64 ck), AV.s (SV.int IntKind.i64 nx), AV.s (SV.ro (Con.typ cP ps)), AV.s (SV.ro (Con.typ cI is)), AV.s (SV.ro (Con.typ cC cs)), AV.s (SV.ro (Con.typ cW ws))])) (Tree.need (List.length is ≤ (1000000 : Nat)) (Tree.at (Cfg.mk (sl (46 : Nat) [((1 : Nat), AV.s (SV.int IntKind.i64 id)), ((2 : Nat), AV.ptr (0 : Nat) (0 : Nat)), ((4 : Nat), AV.ptr (1 : Nat) (0 : Nat)), ((7 : Nat), AV.vec (2 : Nat)), ((8 : Nat), AV.vec (3 : Nat)), ((9 : Nat), AV.s (SV.int IntKind.i64 (0 : Int)))]) [AObj.own [AV.s (SV.int IntKind.i64 ck), AV.s (SV.int IntKind.i64 nx), AV.s (SV.ro (Con.typ cP ps)), AV.s (SV.ro (Con.typ cI is)), AV.s (SV.ro (Con.typ cC cs)), AV.s (SV.ro (Con.typ cW ws))] (27 : Nat), AObj.own [AV.s (SV.int IntKind.i64 (0 : Int)), AV.s (SV.int IntKind.i64 (0 : Int)), AV.emp, AV.emp, AV.emp, AV.emp] (27 : Nat), AObj.vec (Con.ints IntKind.i64 []) (3 : Nat), AObj.vec (Con.ints IntKind.i64 (belowF (esOf is) id)) (3 : Nat)] (hd Try.f40 (7 : Nat)) (Stk.mk none false (0 : Nat) [] (0 : Nat))))) := by kernel_rfl
noncomputable def cDc (ck nx : Int) (ps : Ps) (is : Is) (cs : Cs) (ws : Ws) (id : Int) (acc l : List Int) (i : Int) : Cfg := ⟨sl 46 [(1, avI id), (2, .ptr 0 0), (4, .ptr 1 0), (7, .vec 2), (8, .vec 3), (9, avI i)], [obSt ck nx ps is cs ws, obZ, .vec (.ints .i64 acc) 3, .vec (.ints .i64 l) 3], hd Try.f40 7, {}⟩
theorem loopDc (ck nx : Int) (ps : Ps) (is : Is) (cs : Cs) (ws : Ws) (id : Int) (acc l : List Int) (i : Int) : run P tabDc.sum Try.f40 nsDc (cDc ck nx ps is cs ws id acc l i) =
  Tree.ite (decide (i < (↑l.length : Int))) (Tree.need ((0 : Int) ≤ i) (Tree.need (i < (↑l.length : Int)) (Tree.ite (l.getD i.toNat (0 : Int) != id) (Tree.need ((0 : Int) ≤ i) (Tree.need (i < (↑l.length : Int)) (Tree.need ((acc.length + (1 : Nat)) * (8 : Nat) ≤ (140737488355328 : Nat)) (Tree.need (inI64 (i + (1 : Int))) (Tree.at (Cfg.mk (sl (46 : Nat) [((1 : Nat), AV.s (SV.int IntKind.i64 id)), ((2 : Nat), AV.ptr (0 : Nat) (0 : Nat)), ((4 : Nat), AV.ptr (1 : Nat) (0 : Nat)), ((7 : Nat), AV.vec (2 : Nat)), ((8 : Nat), AV.vec (3 : Nat)), ((9 : Nat), AV.s (SV.int IntKind.i64 (i + (1 : Int))))]) [AObj.own [AV.s (SV.int IntKind.i64 ck), AV.s (SV.int IntKind.i64 nx), AV.s (SV.ro (Con.typ cP ps)), AV.s (SV.ro (Con.typ cI is)), AV.s (SV.ro (Con.typ cC cs)), AV.s (SV.ro (Con.typ cW ws))] (27 : Nat), AObj.own [AV.s (SV.int IntKind.i64 (0 : Int)), AV.s (SV.int IntKind.i64 (0 : Int)), AV.emp, AV.emp, AV.emp, AV.emp] (27 : Nat), AObj.vec (Con.ints IntKind.i64 (acc ++ [l.getD i.toNat (0 : Int)])) (3 : Nat), AObj.vec (Con.ints IntKind.i64 l) (3 : Nat)] (hd Try.f40 (7 : Nat)) (Stk.mk none false (0 : Nat) [] (0 : Nat)))))))) (Tree.need (inI64 (i + (1 : Int))) (Tree.at (Cfg.mk (sl (46 : Nat) [((1 : Nat), AV.s (SV.int IntKind.i64 id)), ((2 : Nat), AV.ptr (0 : Nat) (0 : Nat)), ((4 : Nat), AV.ptr (1 : Nat) (0 : Nat)), ((7 : Nat), AV.vec (2 : Nat)), ((8 : Nat), AV.vec (3 : Nat)), ((9 : Nat), AV.s (SV.int IntKind.i64 (i + (1 : Int))))]) [AObj.own [AV.s (SV.int IntKind.i64 ck), AV.s (SV.int IntKind.i64 nx), AV.s (SV.ro (Con.typ cP ps)), AV.s (SV.ro (Con.typ cI is)), AV.s (SV.ro (Con.typ cC cs)), AV.s (SV.ro (Con.typ cW ws))] (27 : Nat), AObj.own [AV.s (SV.int IntKind.i64 (0 : Int)), AV.s (SV.int IntKind.i64 (0 : Int)), AV.emp, AV.emp, AV.emp, AV.emp] (27 : Nat), AObj.vec (Con.ints IntKind.i64 acc) (3 : Nat), AObj.vec (Con.ints IntKind.i64 l) (3 : Nat)] (hd Try.f40 (7 : Nat)) (Stk.mk none false (0 : Nat) [] (0 : Nat)))))))) (Tree.at (Cfg.mk (sl (46 : Nat) [((2 : Nat), AV.ptr (0 : Nat) (0 : Nat)), ((4 : Nat), AV.ptr (1 : Nat) (0 : Nat)), ((7 : Nat), AV.vec (2 : Nat))]) [AObj.own [AV.s (SV.int IntKind.i64 ck), AV.s (SV.int IntKind.i64 nx), AV.s (SV.ro (Con.typ cP ps)), AV.s (SV.ro (Con.typ cI is)), AV.s (SV.ro (Con.typ cC cs)), AV.s (SV.ro (Con.typ cW ws))] (27 : Nat), AObj.own [AV.s (SV.int IntKind.i64 (0 : Int)), AV.s (SV.int IntKind.i64 (0 : Int)), AV.emp, AV.emp, AV.emp, AV.emp] (27 : Nat), AObj.vec (Con.ints IntKind.i64 acc) (3 : Nat)] (cal Try.f40 (11 : Nat) (0 : Nat)) (Stk.mk none false (0 : Nat) [] (11 : Nat)))) := by kernel_rfl
noncomputable def cDcE (ck nx : Int) (ps : Ps) (is : Is) (cs : Cs) (ws : Ws) (q : List Int) : Cfg := ⟨sl 46 [(2, .ptr 0 0), (4, .ptr 1 0), (7, avL q)], [obSt ck nx ps is cs ws, obZ, .dead], cal Try.f40 11 0, kk 11⟩
theorem endDc (ck nx : Int) (ps : Ps) (is : Is) (cs : Cs) (ws : Ws) (q : List Int) : run P tabDc.sum Try.f40 nsDc (cDcE ck nx ps is cs ws q) =
  Tree.need (List.length is ≤ (1000000 : Nat)) (Tree.need (List.length cs ≤ (1000000 : Nat)) (Tree.need (List.length ws ≤ (1000000 : Nat)) (Tree.ret [AObj.own [AV.s (SV.int IntKind.i64 ck), AV.s (SV.int IntKind.i64 nx), AV.s (SV.ro (Con.typ cP ps)), AV.s (SV.ro (Con.typ cI is)), AV.s (SV.ro (Con.typ cC cs)), AV.s (SV.ro (Con.typ cW ws))] (27 : Nat), AObj.own [AV.s (SV.int IntKind.i64 ck), AV.s (SV.int IntKind.i64 nx), AV.s (SV.ro (Con.typ cP ps)), AV.s (SV.ro (Con.typ cI (delF (pIt q) is))), AV.s (SV.ro (Con.typ cC (delF (pDr q) cs))), AV.s (SV.ro (Con.typ cW (delF (pWa q) ws)))] (27 : Nat), AObj.dead] (AV.agg [AV.s (SV.int IntKind.i64 ck), AV.s (SV.int IntKind.i64 nx), AV.s (SV.ro (Con.typ cP ps)), AV.s (SV.ro (Con.typ cI (delF (pIt q) is))), AV.s (SV.ro (Con.typ cC (delF (pDr q) cs))), AV.s (SV.ro (Con.typ cW (delF (pWa q) ws)))])))) := by kernel_rfl
def tabDg : Tab := [(65, sumFi), (69, sumIn)]
def nsDg : List (Nat × Norm) := [(3, ⟨[(5, .ints .i64 [], 3)], [2, 3, 5, 6], 0, []⟩), (9, ⟨[], [2, 3, 5, 6, 7, 10], 0, []⟩)]
theorem trDg (ck nx : Int) (ps : Ps) (is : Is) (cs : Cs) (ws : Ws) (ck' nx' : Int) (ps' : Ps) (is' : Is) (cs' : Cs) (ws' : Ws) : run P tabDg.sum Try.f42 nsDg (start Try.f42 [avSt ck nx ps is cs ws, avSt ck' nx' ps' is' cs' ws'] []) =
  Tree.at (Cfg.mk (sl (65 : Nat) [((2 : Nat), AV.ptr (0 : Nat) (0 : Nat)), ((3 : Nat), AV.ptr (1 : Nat) (0 : Nat)), ((5 : Nat), AV.vec (2 : Nat)), ((6 : Nat), AV.s (SV.int IntKind.i64 (0 : Int)))]) [AObj.own [AV.s (SV.int IntKind.i64 ck), AV.s (SV.int IntKind.i64 nx), AV.s (SV.ro (Con.typ cP ps)), AV.s (SV.ro (Con.typ cI is)), AV.s (SV.ro (Con.typ cC cs)), AV.s (SV.ro (Con.typ cW ws))] (27 : Nat), AObj.own [AV.s (SV.int IntKind.i64 ck'), AV.s (SV.int IntKind.i64 nx'), AV.s (SV.ro (Con.typ cP ps')), AV.s (SV.ro (Con.typ cI is')), AV.s (SV.ro (Con.typ cC cs')), AV.s (SV.ro (Con.typ cW ws'))] (27 : Nat), AObj.vec (Con.ints IntKind.i64 []) (3 : Nat)] (hd Try.f42 (3 : Nat)) (Stk.mk none false (0 : Nat) [] (0 : Nat))) := by kernel_rfl
noncomputable def cDg (ck nx : Int) (ps : Ps) (is : Is) (cs : Cs) (ws : Ws) (ck' nx' : Int) (ps' : Ps) (is' : Is) (cs' : Cs) (ws' : Ws) (acc : List Int) (i : Int) : Cfg := ⟨sl 65 [(2, .ptr 0 0), (3, .ptr 1 0), (5, .vec 2), (6, avI i)], [obSt ck nx ps is cs ws, obSt ck' nx' ps' is' cs' ws', .vec (.ints .i64 acc) 3], hd Try.f42 3, {}⟩
theorem loopDg (ck nx : Int) (ps : Ps) (is : Is) (cs : Cs) (ws : Ws) (ck' nx' : Int) (ps' : Ps) (is' : Is) (cs' : Cs) (ws' : Ws) (acc : List Int) (i : Int) : run P tabDg.sum Try.f42 nsDg (cDg ck nx ps is cs ws ck' nx' ps' is' cs' ws' acc i) =
  Tree.ite (decide (i < (↑(List.length is) : Int))) (Tree.need ((0 : Int) ≤ i) (Tree.need (i < (↑(List.length is) : Int)) (Tree.ite (hasI is' (iI (el is i))) (Tree.need (inI64 (i + (1 : Int))) (Tree.at (Cfg.mk (sl (65 : Nat) [((2 : Nat), AV.ptr (0 : Nat) (0 : Nat)), ((3 : Nat), AV.ptr (1 : Nat) (0 : Nat)), ((5 : Nat), AV.vec (2 : Nat)), ((6 : Nat), AV.s (SV.int IntKind.i64 (i + (1 : Int))))]) [AObj.own [AV.s (SV.int IntKind.i64 ck), AV.s (SV.int IntKind.i64 nx), AV.s (SV.ro (Con.typ cP ps)), AV.s (SV.ro (Con.typ cI is)), AV.s (SV.ro (Con.typ cC cs)), AV.s (SV.ro (Con.typ cW ws))] (27 : Nat), AObj.own [AV.s (SV.int IntKind.i64 ck'), AV.s (SV.int IntKind.i64 nx'), AV.s (SV.ro (Con.typ cP ps')), AV.s (SV.ro (Con.typ cI is')), AV.s (SV.ro (Con.typ cC cs')), AV.s (SV.ro (Con.typ cW ws'))] (27 : Nat), AObj.vec (Con.ints IntKind.i64 acc) (3 : Nat)] (hd Try.f42 (3 : Nat)) (Stk.mk none false (0 : Nat) [] (0 : Nat))))) (Tree.ite (acc.contains (iI (el is i))) (Tree.need (inI64 (i + (1 : Int))) (Tree.at (Cfg.mk (sl (65 : Nat) [((2 : Nat), AV.ptr (0 : Nat) (0 : Nat)), ((3 : Nat), AV.ptr (1 : Nat) (0 : Nat)), ((5 : Nat), AV.vec (2 : Nat)), ((6 : Nat), AV.s (SV.int IntKind.i64 (i + (1 : Int))))]) [AObj.own [AV.s (SV.int IntKind.i64 ck), AV.s (SV.int IntKind.i64 nx), AV.s (SV.ro (Con.typ cP ps)), AV.s (SV.ro (Con.typ cI is)), AV.s (SV.ro (Con.typ cC cs)), AV.s (SV.ro (Con.typ cW ws))] (27 : Nat), AObj.own [AV.s (SV.int IntKind.i64 ck'), AV.s (SV.int IntKind.i64 nx'), AV.s (SV.ro (Con.typ cP ps')), AV.s (SV.ro (Con.typ cI is')), AV.s (SV.ro (Con.typ cC cs')), AV.s (SV.ro (Con.typ cW ws'))] (27 : Nat), AObj.vec (Con.ints IntKind.i64 acc) (3 : Nat)] (hd Try.f42 (3 : Nat)) (Stk.mk none false (0 : Nat) [] (0 : Nat))))) (Tree.at (Cfg.mk (sl (65 : Nat) [((2 : Nat), AV.ptr (0 : Nat) (0 : Nat)), ((3 : Nat), AV.ptr (1 : Nat) (0 : Nat)), ((5 : Nat), AV.vec (2 : Nat)), ((6 : Nat), AV.s (SV.int IntKind.i64 i)), ((7 : Nat), AV.s (SV.int IntKind.i64 (iI (el is i)))), ((10 : Nat), AV.s (SV.int IntKind.i64 (0 : Int)))]) [AObj.own [AV.s (SV.int IntKind.i64 ck), AV.s (SV.int IntKind.i64 nx), AV.s (SV.ro (Con.typ cP ps)), AV.s (SV.ro (Con.typ cI is)), AV.s (SV.ro (Con.typ cC cs)), AV.s (SV.ro (Con.typ cW ws))] (27 : Nat), AObj.own [AV.s (SV.int IntKind.i64 ck'), AV.s (SV.int IntKind.i64 nx'), AV.s (SV.ro (Con.typ cP ps')), AV.s (SV.ro (Con.typ cI is')), AV.s (SV.ro (Con.typ cC cs')), AV.s (SV.ro (Con.typ cW ws'))] (27 : Nat), AObj.vec (Con.ints IntKind.i64 acc) (3 : Nat)] (hd Try.f42 (9 : Nat)) (Stk.mk none false (0 : Nat) [] (0 : Nat)))))))) (Tree.ret [AObj.own [AV.s (SV.int IntKind.i64 ck), AV.s (SV.int IntKind.i64 nx), AV.s (SV.ro (Con.typ cP ps)), AV.s (SV.ro (Con.typ cI is)), AV.s (SV.ro (Con.typ cC cs)), AV.s (SV.ro (Con.typ cW ws))] (27 : Nat), AObj.own [AV.s (SV.int IntKind.i64 ck'), AV.s (SV.int IntKind.i64 nx'), AV.s (SV.ro (Con.typ cP ps')), AV.s (SV.ro (Con.typ cI is')), AV.s (SV.ro (Con.typ cC cs')), AV.s (SV.ro (Con.typ cW ws'))] (27 : Nat), AObj.vec (Con.ints IntKind.i64 acc) (3 : Nat)] (AV.vec (2 : Nat))) := by kernel_rfl
noncomputable def cDg2 (ck nx : Int) (ps : Ps) (is : Is) (cs : Cs) (ws : Ws) (ck' nx' : Int) (ps' : Ps) (is' : Is) (cs' : Cs) (ws' : Ws) (acc : List Int) (i x k : Int) : Cfg := ⟨sl 65 [(2, .ptr 0 0), (3, .ptr 1 0), (5, .vec 2), (6, avI i), (7, avI x), (10, avI k)], [obSt ck nx ps is cs ws, obSt ck' nx' ps' is' cs' ws', .vec (.ints .i64 acc) 3], hd Try.f42 9, {}⟩
theorem loopDg2 (ck nx : Int) (ps : Ps) (is : Is) (cs : Cs) (ws : Ws) (ck' nx' : Int) (ps' : Ps) (is' : Is) (cs' : Cs) (ws' : Ws) (acc : List Int) (i x k : Int) : run P tabDg.sum Try.f42 nsDg (cDg2 ck nx ps is cs ws ck' nx' ps' is' cs' ws' acc i x k) =
  Tree.ite (decide (k < (↑acc.length : Int))) (Tree.need ((0 : Int) ≤ k) (Tree.need (k < (↑acc.length : Int)) (Tree.ite (decide (acc.getD k.toNat (0 : Int) < x)) (Tree.need (inI64 (k + (1 : Int))) (Tree.at (Cfg.mk (sl (65 : Nat) [((2 : Nat), AV.ptr (0 : Nat) (0 : Nat)), ((3 : Nat), AV.ptr (1 : Nat) (0 : Nat)), ((5 : Nat), AV.vec (2 : Nat)), ((6 : Nat), AV.s (SV.int IntKind.i64 i)), ((7 : Nat), AV.s (SV.int IntKind.i64 x)), ((10 : Nat), AV.s (SV.int IntKind.i64 (k + (1 : Int))))]) [AObj.own [AV.s (SV.int IntKind.i64 ck), AV.s (SV.int IntKind.i64 nx), AV.s (SV.ro (Con.typ cP ps)), AV.s (SV.ro (Con.typ cI is)), AV.s (SV.ro (Con.typ cC cs)), AV.s (SV.ro (Con.typ cW ws))] (27 : Nat), AObj.own [AV.s (SV.int IntKind.i64 ck'), AV.s (SV.int IntKind.i64 nx'), AV.s (SV.ro (Con.typ cP ps')), AV.s (SV.ro (Con.typ cI is')), AV.s (SV.ro (Con.typ cC cs')), AV.s (SV.ro (Con.typ cW ws'))] (27 : Nat), AObj.vec (Con.ints IntKind.i64 acc) (3 : Nat)] (hd Try.f42 (9 : Nat)) (Stk.mk none false (0 : Nat) [] (0 : Nat))))) (Tree.need ((0 : Int) ≤ (0 : Int)) (Tree.need ((0 : Int) ≤ k) (Tree.need ((↑(0 : Nat) : Int) + k ≤ (↑acc.length : Int)) (Tree.need (((0 : Nat) + (List.drop (0 : Nat) (List.take ((0 : Nat) + (k.toNat - Int.toNat (0 : Int))) acc)).length) * (8 : Nat) ≤ (140737488355328 : Nat)) (Tree.need ((([] ++ List.drop (0 : Nat) (List.take ((0 : Nat) + (k.toNat - Int.toNat (0 : Int))) acc)).length + (1 : Nat)) * (8 : Nat) ≤ (140737488355328 : Nat)) (Tree.need ((0 : Int) ≤ k) (Tree.need (k ≤ (↑acc.length : Int)) (Tree.need ((↑(0 : Nat) : Int) + (↑acc.length : Int) ≤ (↑acc.length : Int)) (Tree.need ((([] ++ List.drop (0 : Nat) (List.take ((0 : Nat) + (k.toNat - Int.toNat (0 : Int))) acc) ++ [x]).length + (List.drop ((0 : Nat) + k.toNat) (List.take ((0 : Nat) + k.toNat + ((↑acc.length : Int).toNat - k.toNat)) acc)).length) * (8 : Nat) ≤ (140737488355328 : Nat)) (Tree.need (inI64 (i + (1 : Int))) (Tree.at (Cfg.mk (sl (65 : Nat) [((2 : Nat), AV.ptr (0 : Nat) (0 : Nat)), ((3 : Nat), AV.ptr (1 : Nat) (0 : Nat)), ((5 : Nat), AV.vec (2 : Nat)), ((6 : Nat), AV.s (SV.int IntKind.i64 (i + (1 : Int))))]) [AObj.own [AV.s (SV.int IntKind.i64 ck), AV.s (SV.int IntKind.i64 nx), AV.s (SV.ro (Con.typ cP ps)), AV.s (SV.ro (Con.typ cI is)), AV.s (SV.ro (Con.typ cC cs)), AV.s (SV.ro (Con.typ cW ws))] (27 : Nat), AObj.own [AV.s (SV.int IntKind.i64 ck'), AV.s (SV.int IntKind.i64 nx'), AV.s (SV.ro (Con.typ cP ps')), AV.s (SV.ro (Con.typ cI is')), AV.s (SV.ro (Con.typ cC cs')), AV.s (SV.ro (Con.typ cW ws'))] (27 : Nat), AObj.vec (Con.ints IntKind.i64 ([] ++ List.drop (0 : Nat) (List.take ((0 : Nat) + (k.toNat - Int.toNat (0 : Int))) acc) ++ [x] ++ List.drop ((0 : Nat) + k.toNat) (List.take ((0 : Nat) + k.toNat + ((↑acc.length : Int).toNat - k.toNat)) acc))) (3 : Nat)] (hd Try.f42 (3 : Nat)) (Stk.mk none false (0 : Nat) [] (0 : Nat)))))))))))))))))
  (Tree.need ((0 : Int) ≤ (0 : Int)) (Tree.need ((0 : Int) ≤ k) (Tree.need ((↑(0 : Nat) : Int) + k ≤ (↑acc.length : Int)) (Tree.need (((0 : Nat) + (List.drop (0 : Nat) (List.take ((0 : Nat) + (k.toNat - Int.toNat (0 : Int))) acc)).length) * (8 : Nat) ≤ (140737488355328 : Nat)) (Tree.need ((([] ++ List.drop (0 : Nat) (List.take ((0 : Nat) + (k.toNat - Int.toNat (0 : Int))) acc)).length + (1 : Nat)) * (8 : Nat) ≤ (140737488355328 : Nat)) (Tree.need ((0 : Int) ≤ k) (Tree.need (k ≤ (↑acc.length : Int)) (Tree.need ((↑(0 : Nat) : Int) + (↑acc.length : Int) ≤ (↑acc.length : Int)) (Tree.need ((([] ++ List.drop (0 : Nat) (List.take ((0 : Nat) + (k.toNat - Int.toNat (0 : Int))) acc) ++ [x]).length + (List.drop ((0 : Nat) + k.toNat) (List.take ((0 : Nat) + k.toNat + ((↑acc.length : Int).toNat - k.toNat)) acc)).length) * (8 : Nat) ≤ (140737488355328 : Nat)) (Tree.need (inI64 (i + (1 : Int))) (Tree.at (Cfg.mk (sl (65 : Nat) [((2 : Nat), AV.ptr (0 : Nat) (0 : Nat)), ((3 : Nat), AV.ptr (1 : Nat) (0 : Nat)), ((5 : Nat), AV.vec (2 : Nat)), ((6 : Nat), AV.s (SV.int IntKind.i64 (i + (1 : Int))))]) [AObj.own [AV.s (SV.int IntKind.i64 ck), AV.s (SV.int IntKind.i64 nx), AV.s (SV.ro (Con.typ cP ps)), AV.s (SV.ro (Con.typ cI is)), AV.s (SV.ro (Con.typ cC cs)), AV.s (SV.ro (Con.typ cW ws))] (27 : Nat), AObj.own [AV.s (SV.int IntKind.i64 ck'), AV.s (SV.int IntKind.i64 nx'), AV.s (SV.ro (Con.typ cP ps')), AV.s (SV.ro (Con.typ cI is')), AV.s (SV.ro (Con.typ cC cs')), AV.s (SV.ro (Con.typ cW ws'))] (27 : Nat), AObj.vec (Con.ints IntKind.i64 ([] ++ List.drop (0 : Nat) (List.take ((0 : Nat) + (k.toNat - Int.toNat (0 : Int))) acc) ++ [x] ++ List.drop ((0 : Nat) + k.toNat) (List.take ((0 : Nat) + k.toNat + ((↑acc.length : Int).toNat - k.toNat)) acc))) (3 : Nat)] (hd Try.f42 (3 : Nat)) (Stk.mk none false (0 : Nat) [] (0 : Nat)))))))))))))) := by kernel_rfl
end Ds

namespace Ds
open Go Go.Sx Go.Proofs Lf
abbrev fCp : FuncId := 64
def nsCp : List (Nat × Norm) := [(3, ⟨[], [1, 2, 3, 4], 0, [(2, 2, false, .typ cN [], eN)]⟩)]
theorem trCp (a : ByteArray) (vs : List (CL cV)) (ns : List (CL cN)) (fs : List (CL cF)) : run P tab0.sum Try.f64 nsCp (start Try.f64 [avPr a vs ns fs] []) =
  Tree.need (((0 : Nat) + vs.length) * (48 : Nat) ≤ (140737488355328 : Nat)) (Tree.need (((0 : Nat) + fs.length) * (40 : Nat) ≤ (140737488355328 : Nat)) (Tree.at (Cfg.mk (sl (46 : Nat) [((1 : Nat), AV.ptr (0 : Nat) (0 : Nat)), ((2 : Nat), AV.ptr (1 : Nat) (0 : Nat)), ((3 : Nat), AV.ptr (2 : Nat) (0 : Nat)), ((4 : Nat), AV.s (SV.int IntKind.i64 (0 : Int)))]) [AObj.own [AV.s (SV.str a), AV.s (SV.ro (Con.typ cV vs)), AV.s (SV.ro (Con.typ cN ns)), AV.s (SV.ro (Con.typ cF fs))] (34 : Nat), AObj.own [AV.s (SV.str ByteArray.empty), AV.emp, AV.emp, AV.emp] (34 : Nat), AObj.own [AV.s (SV.str a), AV.vec (3 : Nat), AV.vec (4 : Nat), AV.vec (5 : Nat)] (34 : Nat), AObj.vec (Con.typ cV ([] ++ vs)) (114 : Nat), AObj.vec (Con.typ cN []) (37 : Nat), AObj.vec (Con.typ cF ([] ++ fs)) (119 : Nat)] (hd Try.f64 (3 : Nat)) (Stk.mk none false (0 : Nat) [] (0 : Nat))))) := by kernel_rfl
abbrev tPrr : Ty := .st [.str, .rrow (.typ cV) eV, .rrow (.typ cN) eN, .rrow (.typ cF) eF]
abbrev sumCp := sumR [tPr] [tPrr] (fun (p, ()) => [(p.2.1 : List (CL cV)).length ≤ 4294967296, (p.2.2.1 : List (CL cN)).length ≤ 4294967296, (p.2.2.2.1 : List (CL cF)).length ≤ 4294967296, ∀ x ∈ (p.2.2.1 : List (CL cN)), (nV x).length ≤ 4294967296 ∧ (nZ x).length ≤ 4294967296]) (fun (p, ()) => (p, ()))
theorem split_ins {acc acc' : List Int} {x : Int} {k : Nat} (hr : Rises acc) (hr2 : Rises acc') (hk : k ≤ acc.length) (h1 : ∀ y ∈ acc.take k, y < x) (h2 : ∀ y ∈ acc.drop k, x < y) (hmem : ∀ y, y ∈ acc' ↔ y ∈ acc ∨ y = x) :
    acc' = [] ++ List.drop 0 (List.take (0 + ((k : Int).toNat - Int.toNat 0)) acc) ++ [x] ++ List.drop (0 + (k : Int).toNat) (List.take (0 + (k : Int).toNat + ((acc.length : Int).toNat - (k : Int).toNat)) acc) := by
  rw [Int.toNat_natCast, Int.toNat_natCast, List.nil_append, List.drop_zero, show 0 + (k - Int.toNat 0) = k from by simp, Nat.zero_add, show k + (acc.length - k) = acc.length from by omega, List.take_length]
  refine lt_ext hr2 (ins_at hr h1 h2) fun y => ?_
  rw [hmem]
  have em : y ∈ acc ↔ y ∈ acc.take k ∨ y ∈ acc.drop k := by rw [← List.mem_append, List.take_append_drop]
  rw [em, List.mem_append, List.mem_append, List.mem_singleton]
  exact ⟨fun h => h.elim (fun h => h.elim (fun h => .inl (.inl h)) .inr) (fun h => .inl (.inr h)), fun h => h.elim (fun h => h.elim (fun h => .inl (.inl h)) .inr) (fun h => .inl (.inr h))⟩
theorem dd_ok {Z : Glob} : FnOk P Z 96 [tSt, tNs] [tSr] (fun ((_, _, _, _, cs, _, ()), _, ()) => [(cs : Cs).length ≤ 1000000]) (fun ((ck, nx, ps, is, cs, ws, ()), l, ()) => ((ck, nx, ps, is, delF (pDr l) (cs : Cs), ws, ()), ())) := by
  refine fnOk_of_safe Try.func96 (by kernel_rfl) (by kernel_rfl) ?_
  rintro ⟨⟨(ck : Int), (nx : Int), (ps : Ps), (is : Is), (cs : Cs), (ws : Ws), ⟨⟩⟩, (l : List Int), ⟨⟩⟩ ⟨_, (hll : l.length ≤ maxLen), _⟩ ⟨(hl : cs.length ≤ 1000000), _⟩ X hX hz
  have hl2 : l.length ≤ 9223372036854775807 := by unfold maxLen at hll; omega
  show Safe P 96 X (Ends [tSr] ((ck, nx, ps, is, delF (pDr l) cs, ws, ()), ())) _
  have loop : ∀ (n i : Nat), i + n = cs.length → Safe P 96 X (Ends [tSr] ((ck, nx, ps, is, delF (pDr l) cs, ws, ()), ())) (cDd ck nx ps is cs ws l (delF (pDr l) (cs.take i)) (i : Int)) := by
    intro n
    induction n with
    | zero =>
      intro i hi
      rw [List.take_of_length_le (by omega)]
      exact go hz hX Tab.Ok.nil Try.func96 (loopDd ck nx ps is cs ws l _ i) (no_and (decide_eq_false (by omega)) (ends_eq _ rfl (by kernel_rfl)))
    | succ n ih =>
      intro i hi
      have hlt : i < cs.length := by omega
      have next := ih (i + 1) (by omega)
      rw [delF_take hlt] at next
      have hal : (delF (pDr l) (cs.take i)).length ≤ i := by
        have := delF_len (pDr l) (cs.take i)
        rw [List.length_take] at this
        omega
      generalize delF (pDr l) (cs.take i) = acc at *
      have loop2 : ∀ (m k : Nat) (g : Bool), k + m = l.length → g = (l.take k).contains (lS cs[i]) → Safe P 96 X (Ends [tSr] ((ck, nx, ps, is, delF (pDr l) cs, ws, ()), ())) (cDd2 ck nx ps is cs ws l acc (i : Int) g (k : Int)) := by
        intro m
        induction m with
        | zero =>
          intro k g hk hg
          rw [List.take_of_length_le (by omega)] at hg
          have hp : pDr l cs[i] = g := hg.symm
          rw [hp] at next
          refine go hz hX Tab.Ok.nil Try.func96 (loopDd2 ck nx ps is cs ws l acc i g k) (no_and (decide_eq_false (by omega)) ?_)
          rw [el_lt hlt]
          cases g with
          | true =>
            rw [if_pos rfl, List.append_nil] at next
            exact no_and rfl ⟨⟨by omega, by omega⟩, next⟩
          | false =>
            rw [if_neg (by simp)] at next
            exact yes_and rfl ⟨by omega, by omega, by omega, ⟨by omega, by omega⟩, next⟩
        | succ m ih2 =>
          intro k g hk hg
          have hkl : k < l.length := by omega
          have st : (l.take (k + 1)).contains (lS cs[i]) = (g || (l[k] == lS cs[i])) := by
            rw [hg, List.take_add_one, List.getElem?_eq_getElem hkl, Bool.eq_iff_iff, List.contains_eq_mem, decide_eq_true_iff, List.mem_append, Bool.or_eq_true, List.contains_eq_mem, decide_eq_true_iff, beq_iff_eq]
            exact or_congr_right ⟨fun h => (List.mem_singleton.1 h).symm, fun h => List.mem_singleton.2 h.symm⟩
          refine go hz hX Tab.Ok.nil Try.func96 (loopDd2 ck nx ps is cs ws l acc i g k) (yes_and (decide_eq_true (by omega)) ?_)
          rw [el_lt hlt, Int.toNat_natCast, getD_lt hkl]
          cases g with
          | true => exact yes_and rfl ⟨⟨by omega, by omega⟩, ih2 (k + 1) true (by omega) (by rw [st]; rfl)⟩
          | false => exact no_and rfl ⟨by omega, by omega, by omega, by omega, ⟨by omega, by omega⟩, ih2 (k + 1) (l[k] == lS cs[i]) (by omega) (by rw [st]; rfl)⟩
      exact go hz hX Tab.Ok.nil Try.func96 (loopDd ck nx ps is cs ws l acc i) (yes_and (decide_eq_true (by omega)) (loop2 l.length 0 false (by omega) rfl))
  exact go hz hX Tab.Ok.nil Try.func96 (trDd ck nx ps is cs ws l) (loop cs.length 0 (by omega))
theorem tabDi_ok {Z : Glob} : tabDi.Ok P Z := Tab.Ok.cons i1_ok.sum (Tab.Ok.cons dd_ok.sumR Tab.Ok.nil)
theorem items_ok {Z : Glob} : FnOk P Z 68 [tSt, tNs] [tSr] (fun ((_, _, _, is, cs, _, ()), _, ()) => [(is : Is).length ≤ 1000000, (cs : Cs).length ≤ 1000000]) (fun ((ck, nx, ps, is, cs, ws, ()), l, ()) => ((ck, nx, ps, delF (pIt l) (is : Is), delF (pDr l) (cs : Cs), ws, ()), ())) := by
  refine fnOk_of_safe Try.func68 (by kernel_rfl) (by kernel_rfl) ?_
  rintro ⟨⟨(ck : Int), (nx : Int), (ps : Ps), (is : Is), (cs : Cs), (ws : Ws), ⟨⟩⟩, (l : List Int), ⟨⟩⟩ _ ⟨(hl : is.length ≤ 1000000), (hc : cs.length ≤ 1000000), _⟩ X hX hz
  show Safe P 68 X (Ends [tSr] ((ck, nx, ps, delF (pIt l) is, delF (pDr l) cs, ws, ()), ())) _
  have loop : ∀ (n i : Nat), i + n = is.length → Safe P 68 X (Ends [tSr] ((ck, nx, ps, delF (pIt l) is, delF (pDr l) cs, ws, ()), ())) (cDj ck nx ps is cs ws l (delF (pIt l) (is.take i)) (i : Int)) := by
    intro n
    induction n with
    | zero =>
      intro i hi
      rw [List.take_of_length_le (by omega)]
      exact go hz hX tabDi_ok Try.func68 (loopDj ck nx ps is cs ws l _ i) (no_and (decide_eq_false (by omega)) ⟨hc, ends_eq _ rfl (by kernel_rfl)⟩)
    | succ n ih =>
      intro i hi
      have hlt : i < is.length := by omega
      have next := ih (i + 1) (by omega)
      rw [delF_take hlt] at next
      have hal : (delF (pIt l) (is.take i)).length ≤ i := by
        have := delF_len (pIt l) (is.take i)
        rw [List.length_take] at this
        omega
      generalize delF (pIt l) (is.take i) = acc at *
      refine go hz hX tabDi_ok Try.func68 (loopDj ck nx ps is cs ws l acc i) (yes_and (decide_eq_true (by omega)) ⟨by omega, by omega, ?_⟩)
      rw [el_lt hlt]
      cases hp : pIt l is[i] with
      | true =>
        rw [hp, if_pos rfl, List.append_nil] at next
        have hp : l.contains (iI is[i]) = true := hp
        exact no_and (by rw [hp]; rfl) ⟨⟨by omega, by omega⟩, next⟩
      | false =>
        rw [hp, if_neg (by simp)] at next
        have hp : l.contains (iI is[i]) = false := hp
        exact yes_and (by rw [hp]; rfl) ⟨by omega, by omega, by omega, ⟨by omega, by omega⟩, next⟩
  exact go hz hX tabDi_ok Try.func68 (trDi2 ck nx ps is cs ws l) (loop is.length 0 (by omega))
theorem watches_ok {Z : Glob} : FnOk P Z 67 [tSt, tNs] [tSr] (fun ((_, _, _, _, _, ws, ()), _, ()) => [(ws : Ws).length ≤ 1000000]) (fun ((ck, nx, ps, is, cs, ws, ()), l, ()) => ((ck, nx, ps, is, cs, delF (pWa l) (ws : Ws), ()), ())) := by
  refine fnOk_of_safe Try.func67 (by kernel_rfl) (by kernel_rfl) ?_
  rintro ⟨⟨(ck : Int), (nx : Int), (ps : Ps), (is : Is), (cs : Cs), (ws : Ws), ⟨⟩⟩, (l : List Int), ⟨⟩⟩ _ ⟨(hl : ws.length ≤ 1000000), _⟩ X hX hz
  show Safe P 67 X (Ends [tSr] ((ck, nx, ps, is, cs, delF (pWa l) ws, ()), ())) _
  have loop : ∀ (n i : Nat), i + n = ws.length → Safe P 67 X (Ends [tSr] ((ck, nx, ps, is, cs, delF (pWa l) ws, ()), ())) (cDw ck nx ps is cs ws l (delF (pWa l) (ws.take i)) (i : Int)) := by
    intro n
    induction n with
    | zero =>
      intro i hi
      rw [List.take_of_length_le (by omega)]
      exact go hz hX tabDi_ok Try.func67 (loopDw ck nx ps is cs ws l _ i) (no_and (decide_eq_false (by omega)) (ends_eq _ rfl (by kernel_rfl)))
    | succ n ih =>
      intro i hi
      have hlt : i < ws.length := by omega
      have next := ih (i + 1) (by omega)
      rw [delF_take hlt] at next
      have hal : (delF (pWa l) (ws.take i)).length ≤ i := by
        have := delF_len (pWa l) (ws.take i)
        rw [List.length_take] at this
        omega
      generalize delF (pWa l) (ws.take i) = acc at *
      refine go hz hX tabDi_ok Try.func67 (loopDw ck nx ps is cs ws l acc i) (yes_and (decide_eq_true (by omega)) ⟨by omega, by omega, ?_⟩)
      rw [el_lt hlt]
      cases hp : pWa l ws[i] with
      | true =>
        rw [hp, if_pos rfl, List.append_nil] at next
        have hp : l.contains (wT ws[i]) = true := hp
        exact no_and (by rw [hp]; rfl) ⟨⟨by omega, by omega⟩, next⟩
      | false =>
        rw [hp, if_neg (by simp)] at next
        have hp : l.contains (wT ws[i]) = false := hp
        exact yes_and (by rw [hp]; rfl) ⟨by omega, by omega, by omega, ⟨by omega, by omega⟩, next⟩
  exact go hz hX tabDi_ok Try.func67 (trDw ck nx ps is cs ws l) (loop ws.length 0 (by omega))
theorem tabDc_ok {Z : Glob} : tabDc.Ok P Z := Tab.Ok.cons df_ok.sum (Tab.Ok.cons db_ok.sum (Tab.Ok.cons items_ok.sumR (Tab.Ok.cons watches_ok.sumR Tab.Ok.nil)))
theorem dc_ok {Z : Glob} : FnOk P Z 40 [tSt, tInt] [tSr] (fun (s, _, ()) => preS (s, ())) (fun ((ck, nx, ps, is, cs, ws, ()), id, ()) => wo ck nx ps is cs ws (clearL is id) (clearL is id)) := by
  refine fnOk_of_safe Try.func40 (by kernel_rfl) (by kernel_rfl) ?_
  rintro ⟨⟨(ck : Int), (nx : Int), (ps : Ps), (is : Is), (cs : Cs), (ws : Ws), ⟨⟩⟩, (id : Int), ⟨⟩⟩ _ ⟨(hi : is.length ≤ 1000000), (hc : cs.length ≤ 1000000), (hw : ws.length ≤ 1000000), _⟩ X hX hz
  show Safe P 40 X (Ends [tSr] (wo ck nx ps is cs ws (clearL is id) (clearL is id))) _
  refine go hz hX tabDc_ok Try.func40 (trDc ck nx ps is cs ws id) ?_
  have hb := below_le (esOf is) id
  have hb2 : (esOf is).length = is.length := List.length_map _
  cases hh : hasI is id with
  | false =>
    rw [clear_no hh, wo_nil]
    exact yes_and rfl (ends_eq _ rfl (by kernel_rfl))
  | true =>
    rw [clear_yes hh]
    refine no_and rfl ⟨by omega, ?_⟩
    have loop : ∀ (n i : Nat), i + n = (belowF (esOf is) id).length → Safe P 40 X (Ends [tSr] (wo ck nx ps is cs ws (delF (fun x => x == id) (belowF (esOf is) id)) (delF (fun x => x == id) (belowF (esOf is) id)))) (cDc ck nx ps is cs ws id (delF (fun x => x == id) ((belowF (esOf is) id).take i)) (belowF (esOf is) id) (i : Int)) := by
      generalize belowF (esOf is) id = l at *
      intro n
      induction n with
      | zero =>
        intro i hin
        rw [List.take_of_length_le (by omega)]
        refine go hz hX tabDc_ok Try.func40 (loopDc ck nx ps is cs ws id _ l i) (no_and (decide_eq_false (by omega)) ?_)
        generalize delF (fun x => x == id) l = q
        refine frz_safe 2 (c := cDcE ck nx ps is cs ws q) (by kernel_rfl) ?_
        exact go hz hX tabDc_ok Try.func40 (endDc ck nx ps is cs ws q) ⟨hi, hc, hw, ends_eq _ rfl (by kernel_rfl)⟩
      | succ n ih =>
        intro i hin
        have hlt : i < l.length := by omega
        have next := ih (i + 1) (by omega)
        rw [delF_take hlt] at next
        have hal : (delF (fun x => x == id) (l.take i)).length ≤ i := by
          have := delF_len (fun x => x == id) (l.take i)
          rw [List.length_take] at this
          omega
        generalize delF (fun x => x == id) (l.take i) = acc at *
        refine go hz hX tabDc_ok Try.func40 (loopDc ck nx ps is cs ws id acc l i) (yes_and (decide_eq_true (by omega)) ⟨by omega, by omega, ?_⟩)
        rw [Int.toNat_natCast, getD_lt hlt]
        by_cases he : l[i] = id
        · rw [if_pos (by simpa using he), List.append_nil] at next
          exact no_and (by simpa using he) ⟨⟨by omega, by omega⟩, next⟩
        · rw [if_neg (by simpa using he)] at next
          exact yes_and (by simpa using he) ⟨by omega, by omega, by omega, ⟨by omega, by omega⟩, next⟩
    exact loop (belowF (esOf is) id).length 0 (by omega)
theorem tabDt_ok {Z : Glob} : tabDt.Ok P Z := Tab.Ok.cons df_ok.sum (Tab.Ok.cons db_ok.sum (Tab.Ok.cons items_ok.sumR (Tab.Ok.cons watches_ok.sumR (Tab.Ok.cons dc_ok.sumR Tab.Ok.nil))))
theorem wo_congr {ck nx : Int} {ps : Ps} {is : Is} {cs : Cs} {ws : Ws} {a b : List Int} (h : ∀ x, x ∈ a ↔ x ∈ b) : wo ck nx ps is cs ws a a = wo ck nx ps is cs ws b b := by
  have e : ∀ x, a.contains x = b.contains x := fun x => by rw [Bool.eq_iff_iff]; simpa [List.contains_eq_mem] using h x
  show ((ck, nx, ps, delF (pIt a) is, delF (pDr a) cs, delF (pWa a) ws, ()), ()) = ((ck, nx, ps, delF (pIt b) is, delF (pDr b) cs, delF (pWa b) ws, ()), ())
  rw [delF_congr (p := pIt a) (q := pIt b) (fun x => e _), delF_congr (p := pDr a) (q := pDr b) (fun x => e _), delF_congr (p := pWa a) (q := pWa b) (fun x => e _)]
theorem dt_ok {Z : Glob} : FnOk P Z 39 [tSt, tInt] [tSr] (fun (s, _, ()) => preS (s, ())) (fun ((ck, nx, ps, is, cs, ws, ()), id, ()) => wo ck nx ps is cs ws (takeL is id) (takeL is id)) := by
  refine fnOk_of_safe Try.func39 (by kernel_rfl) (by kernel_rfl) ?_
  rintro ⟨⟨(ck : Int), (nx : Int), (ps : Ps), (is : Is), (cs : Cs), (ws : Ws), ⟨⟩⟩, (id : Int), ⟨⟩⟩ _ ⟨(hi : is.length ≤ 1000000), (hc : cs.length ≤ 1000000), (hw : ws.length ≤ 1000000), _⟩ X hX hz
  show Safe P 39 X (Ends [tSr] (wo ck nx ps is cs ws (takeL is id) (takeL is id))) _
  refine go hz hX tabDt_ok Try.func39 (trDt ck nx ps is cs ws id) ?_
  have hb := below_le (esOf is) id
  have hb2 : (esOf is).length = is.length := List.length_map _
  cases hh : hasI is id with
  | false =>
    rw [take_no hh, wo_nil]
    exact yes_and rfl (ends_eq _ rfl (by kernel_rfl))
  | true =>
    rw [take_yes hh, wo_congr (a := belowF (esOf is) id ++ [id]) (b := [id] ++ belowF (esOf is) id) (fun x => by simp only [List.mem_append]; exact Or.comm)]
    refine no_and rfl ⟨by omega, by omega, ?_⟩
    generalize [id] ++ belowF (esOf is) id = q
    refine frz_safe 2 (c := cDtE ck nx ps is cs ws q) (by kernel_rfl) ?_
    exact go hz hX tabDt_ok Try.func39 (endDt ck nx ps is cs ws q) ⟨hi, hc, hw, ends_eq _ rfl (by kernel_rfl)⟩
theorem dbr_ok {Z : Glob} : FnOk P Z 41 [tSt, tInt] [tSr] (fun (s, _, ()) => preS (s, ())) (fun ((ck, nx, ps, is, cs, ws, ()), id, ()) => wo ck nx ps is cs ws (clearL is id) (breakL is id)) := by
  refine fnOk_of_safe Try.func41 (by kernel_rfl) (by kernel_rfl) ?_
  rintro ⟨⟨(ck : Int), (nx : Int), (ps : Ps), (is : Is), (cs : Cs), (ws : Ws), ⟨⟩⟩, (id : Int), ⟨⟩⟩ _ ⟨(hi : is.length ≤ 1000000), (hc : cs.length ≤ 1000000), (hw : ws.length ≤ 1000000), _⟩ X hX hz
  show Safe P 41 X (Ends [tSr] (wo ck nx ps is cs ws (clearL is id) (breakL is id))) _
  refine go hz hX tabDt_ok Try.func41 (trDr2 ck nx ps is cs ws id) ?_
  have hd := delF_len (pWa (clearL is id)) ws
  have e : delF (pWa [id]) (delF (pWa (clearL is id)) ws) = delF (pWa (clearL is id ++ [id])) ws := by
    refine delF_app _ _ _ (fun x => ?_) ws
    show List.contains (clearL is id ++ [id]) (wT x) = ((clearL is id).contains (wT x) || [id].contains (wT x))
    simp only [List.contains_eq_mem, List.mem_append, Bool.decide_or]
  rw [e]
  cases hh : hasI is id with
  | false =>
    rw [clear_no hh, break_no hh, wo_nil]
    exact yes_and rfl (ends_eq _ rfl (by kernel_rfl))
  | true =>
    rw [break_yes hh]
    generalize clearL is id = q at *
    exact no_and rfl ⟨hi, hc, hw, by omega, ends_eq _ rfl (by kernel_rfl)⟩
end Ds

namespace Ds
open Go Go.Sx Go.Proofs Lf
abbrev B32 : Nat := 4294967296
/-- a process whose rows are short enough to be copied -/
def okP (vs : List (CL cV)) (ns : List (CL cN)) (fs : List (CL cF)) : Prop := vs.length * 48 ≤ 140737488351232 ∧ ns.length * 152 ≤ 140737488351232 ∧ fs.length * 40 ≤ 140737488351232 ∧ ∀ x ∈ ns, (nV x).length * 48 ≤ 140737488351232 ∧ (nZ x).length * 16 ≤ 140737488351232
noncomputable def cCp (a : ByteArray) (vs : List (CL cV)) (ns : List (CL cN)) (fs : List (CL cF)) (acc : List (CL cN)) (i : Int) : Cfg := ⟨sl 46 [(1, .ptr 0 0), (2, .ptr 1 0), (3, .ptr 2 0), (4, avI i)], [obPr a vs ns fs, .own [.s (.str ByteArray.empty), .emp, .emp, .emp] eP, .own [.s (.str a), .vec 3, .vec 4, .vec 5] eP, .vec (.typ cV vs) eV, .vec (.typ cN acc) eN, .vec (.typ cF fs) eF], hd Try.f64 3, {}⟩
theorem loopCp (a : ByteArray) (vs : List (CL cV)) (ns : List (CL cN)) (fs : List (CL cF)) (acc : List (CL cN)) (i : Int) : run P tab0.sum Try.f64 nsCp (cCp a vs ns fs acc i) =
  Tree.ite (decide (i < (↑ns.length : Int))) (Tree.need ((0 : Int) ≤ i) (Tree.need (i < (↑ns.length : Int)) (Tree.need (((0 : Nat) + (nV (el ns i)).length) * (48 : Nat) ≤ (140737488355328 : Nat)) (Tree.need (((0 : Nat) + (nZ (el ns i)).length) * (16 : Nat) ≤ (140737488355328 : Nat)) (Tree.need ((acc.length + (1 : Nat)) * (152 : Nat) ≤ (140737488355328 : Nat)) (Tree.need (inI64 (i + (1 : Int))) (Tree.at (Cfg.mk (sl (46 : Nat) [((1 : Nat), AV.ptr (0 : Nat) (0 : Nat)), ((2 : Nat), AV.ptr (1 : Nat) (0 : Nat)), ((3 : Nat), AV.ptr (2 : Nat) (0 : Nat)), ((4 : Nat), AV.s (SV.int IntKind.i64 (i + (1 : Int))))]) [AObj.own [AV.s (SV.str a), AV.s (SV.ro (Con.typ cV vs)), AV.s (SV.ro (Con.typ cN ns)), AV.s (SV.ro (Con.typ cF fs))] (34 : Nat), AObj.own [AV.s (SV.str ByteArray.empty), AV.emp, AV.emp, AV.emp] (34 : Nat), AObj.own [AV.s (SV.str a), AV.vec (3 : Nat), AV.vec (4 : Nat), AV.vec (5 : Nat)] (34 : Nat), AObj.vec (Con.typ cV vs) (114 : Nat), AObj.vec (Con.typ cN (acc ++ [el ns i])) (37 : Nat), AObj.vec (Con.typ cF fs) (119 : Nat)] (hd Try.f64 (3 : Nat)) (Stk.mk none false (0 : Nat) [] (0 : Nat)))))))))) (Tree.ret [AObj.own [AV.s (SV.str a), AV.s (SV.ro (Con.typ cV vs)), AV.s (SV.ro (Con.typ cN ns)), AV.s (SV.ro (Con.typ cF fs))] (34 : Nat), AObj.own [AV.s (SV.str a), AV.vec (3 : Nat), AV.vec (4 : Nat), AV.vec (5 : Nat)] (34 : Nat), AObj.own [AV.s (SV.str a), AV.vec (3 : Nat), AV.vec (4 : Nat), AV.vec (5 : Nat)] (34 : Nat), AObj.vec (Con.typ cV vs) (114 : Nat), AObj.vec (Con.typ cN acc) (37 : Nat), AObj.vec (Con.typ cF fs) (119 : Nat)] (AV.agg [AV.s (SV.str a), AV.vec (3 : Nat), AV.vec (4 : Nat), AV.vec (5 : Nat)])) := by kernel_rfl
abbrev preCp : AL [tPr] → List Prop := fun ((_, vs, ns, fs, ()), ()) => [okP vs ns fs]
abbrev sumCp2 := sumR [tPr] [tPrr] preCp (fun ((a, vs, ns, fs, ()), ()) => ((a, vs, ns, fs, ()), ()))
def tabCc : Tab := [(64, sumCp2)]
def nsCc : List (Nat × Norm) := [(4, ⟨[], [1, 2, 3, 4], 0, [(2, 2, false, .typ cP [], eP)]⟩)]
theorem trCc (ck nx : Int) (ps : Ps) (is : Is) (cs : Cs) (ws : Ws) : run P tabCc.sum Try.f38 nsCc (start Try.f38 [avSt ck nx ps is cs ws] []) =
  Tree.at (Cfg.mk (sl (41 : Nat) [((1 : Nat), AV.ptr (0 : Nat) (0 : Nat)), ((2 : Nat), AV.ptr (1 : Nat) (0 : Nat)), ((3 : Nat), AV.ptr (2 : Nat) (0 : Nat)), ((4 : Nat), AV.s (SV.int IntKind.i64 (0 : Int)))]) [AObj.own [AV.s (SV.int IntKind.i64 ck), AV.s (SV.int IntKind.i64 nx), AV.s (SV.ro (Con.typ cP ps)), AV.s (SV.ro (Con.typ cI is)), AV.s (SV.ro (Con.typ cC cs)), AV.s (SV.ro (Con.typ cW ws))] (27 : Nat), AObj.own [AV.s (SV.int IntKind.i64 (0 : Int)), AV.s (SV.int IntKind.i64 (0 : Int)), AV.emp, AV.emp, AV.emp, AV.emp] (27 : Nat), AObj.own [AV.s (SV.int IntKind.i64 ck), AV.s (SV.int IntKind.i64 nx), AV.vec (3 : Nat), AV.s (SV.ro (Con.typ cI is)), AV.s (SV.ro (Con.typ cC cs)), AV.s (SV.ro (Con.typ cW ws))] (27 : Nat), AObj.vec (Con.typ cP []) (34 : Nat)] (hd Try.f38 (4 : Nat)) (Stk.mk none false (0 : Nat) [] (0 : Nat))) := by kernel_rfl
noncomputable def cCc (ck nx : Int) (ps : Ps) (is : Is) (cs : Cs) (ws : Ws) (acc : Ps) (i : Int) : Cfg := ⟨sl 41 [(1, .ptr 0 0), (2, .ptr 1 0), (3, .ptr 2 0), (4, avI i)], [obSt ck nx ps is cs ws, obZ, .own [avI ck, avI nx, .vec 3, .s (.ro (.typ cI is)), .s (.ro (.typ cC cs)), .s (.ro (.typ cW ws))] eT, .vec (.typ cP acc) eP], hd Try.f38 4, {}⟩
theorem loopCc (ck nx : Int) (ps : Ps) (is : Is) (cs : Cs) (ws : Ws) (acc : Ps) (i : Int) : run P tabCc.sum Try.f38 nsCc (cCc ck nx ps is cs ws acc i) =
  Tree.ite (decide (i < (↑(List.length ps) : Int))) (Tree.need ((0 : Int) ≤ i) (Tree.need (i < (↑(List.length ps) : Int)) (Tree.need (okP (pV (el ps i)) (pO (el ps i)) (pF (el ps i))) (Tree.need ((List.length acc + (1 : Nat)) * (88 : Nat) ≤ (140737488355328 : Nat)) (Tree.need (inI64 (i + (1 : Int))) (Tree.at (Cfg.mk (sl (41 : Nat) [((1 : Nat), AV.ptr (0 : Nat) (0 : Nat)), ((2 : Nat), AV.ptr (1 : Nat) (0 : Nat)), ((3 : Nat), AV.ptr (2 : Nat) (0 : Nat)), ((4 : Nat), AV.s (SV.int IntKind.i64 (i + (1 : Int))))]) [AObj.own [AV.s (SV.int IntKind.i64 ck), AV.s (SV.int IntKind.i64 nx), AV.s (SV.ro (Con.typ cP ps)), AV.s (SV.ro (Con.typ cI is)), AV.s (SV.ro (Con.typ cC cs)), AV.s (SV.ro (Con.typ cW ws))] (27 : Nat), AObj.own [AV.s (SV.int IntKind.i64 (0 : Int)), AV.s (SV.int IntKind.i64 (0 : Int)), AV.emp, AV.emp, AV.emp, AV.emp] (27 : Nat), AObj.own [AV.s (SV.int IntKind.i64 ck), AV.s (SV.int IntKind.i64 nx), AV.vec (3 : Nat), AV.s (SV.ro (Con.typ cI is)), AV.s (SV.ro (Con.typ cC cs)), AV.s (SV.ro (Con.typ cW ws))] (27 : Nat), AObj.vec (Con.typ cP (acc ++ [el ps i])) (34 : Nat)] (hd Try.f38 (4 : Nat)) (Stk.mk none false (0 : Nat) [] (0 : Nat))))))))) (Tree.need (((0 : Nat) + List.length is) * (80 : Nat) ≤ (140737488355328 : Nat)) (Tree.need (((0 : Nat) + List.length cs) * (56 : Nat) ≤ (140737488355328 : Nat)) (Tree.need (((0 : Nat) + List.length ws) * (64 : Nat) ≤ (140737488355328 : Nat)) (Tree.ret [AObj.own [AV.s (SV.int IntKind.i64 ck), AV.s (SV.int IntKind.i64 nx), AV.s (SV.ro (Con.typ cP ps)), AV.s (SV.ro (Con.typ cI is)), AV.s (SV.ro (Con.typ cC cs)), AV.s (SV.ro (Con.typ cW ws))] (27 : Nat), AObj.own [AV.s (SV.int IntKind.i64 ck), AV.s (SV.int IntKind.i64 nx), AV.vec (3 : Nat), AV.vec (5 : Nat), AV.vec (7 : Nat), AV.vec (9 : Nat)] (27 : Nat), AObj.own [AV.s (SV.int IntKind.i64 ck), AV.s (SV.int IntKind.i64 nx), AV.vec (3 : Nat), AV.vec (5 : Nat), AV.vec (7 : Nat), AV.vec (9 : Nat)] (27 : Nat), AObj.vec (Con.typ cP acc) (34 : Nat), AObj.dead, AObj.vec (Con.typ cI ([] ++ is)) (43 : Nat), AObj.dead, AObj.vec (Con.typ cC ([] ++ cs)) (90 : Nat), AObj.dead, AObj.vec (Con.typ cW ([] ++ ws)) (93 : Nat)] (AV.agg [AV.s (SV.int IntKind.i64 ck), AV.s (SV.int IntKind.i64 nx), AV.vec (3 : Nat), AV.vec (5 : Nat), AV.vec (7 : Nat), AV.vec (9 : Nat)]))))) := by kernel_rfl
def okS (ps : Ps) : Prop := ∀ x ∈ ps, okP (pV x) (pO x) (pF x)
abbrev sumCs := sumR [tSt] [tSr] (fun ((_, _, ps, is, cs, ws, ()), ()) => [okS ps, (ps : Ps).length ≤ 1000000, (is : Is).length ≤ 1000000, (cs : Cs).length ≤ 1000000, (ws : Ws).length ≤ 1000000]) (fun (s, ()) => (s, ()))
def tabTe : Tab := [(24, sumLg), (38, sumCs), (25, sumTa), (34, sumCl), (36, sumBr), (27, sumGo), (39, sumTa), (40, sumCl), (41, sumBr), (42, sumGo), (26, sumSa), (37, sumEq)]
theorem trTe (ck nx : Int) (ps : Ps) (is : Is) (cs : Cs) (ws : Ws) (ck' nx' : Int) (ps' : Ps) (is' : Is) (cs' : Cs) (ws' : Ws) (id : Int) : run P tabTe.sum Try.f9 [] (start Try.f9 [avSt ck nx ps is cs ws, avSt ck' nx' ps' is' cs' ws', avI id] []) =
  Tree.ite (largeF ps is cs ws) (Tree.ret [AObj.own [AV.s (SV.int IntKind.i64 ck), AV.s (SV.int IntKind.i64 nx), AV.s (SV.ro (Con.typ cP ps)), AV.s (SV.ro (Con.typ cI is)), AV.s (SV.ro (Con.typ cC cs)), AV.s (SV.ro (Con.typ cW ws))] (27 : Nat), AObj.own [AV.s (SV.int IntKind.i64 ck'), AV.s (SV.int IntKind.i64 nx'), AV.s (SV.ro (Con.typ cP ps')), AV.s (SV.ro (Con.typ cI is')), AV.s (SV.ro (Con.typ cC cs')), AV.s (SV.ro (Con.typ cW ws'))] (27 : Nat)] (AV.s (SV.blit true)))
  (Tree.ite (largeF ps' is' cs' ws') (Tree.ret [AObj.own [AV.s (SV.int IntKind.i64 ck), AV.s (SV.int IntKind.i64 nx), AV.s (SV.ro (Con.typ cP ps)), AV.s (SV.ro (Con.typ cI is)), AV.s (SV.ro (Con.typ cC cs)), AV.s (SV.ro (Con.typ cW ws))] (27 : Nat), AObj.own [AV.s (SV.int IntKind.i64 ck'), AV.s (SV.int IntKind.i64 nx'), AV.s (SV.ro (Con.typ cP ps')), AV.s (SV.ro (Con.typ cI is')), AV.s (SV.ro (Con.typ cC cs')), AV.s (SV.ro (Con.typ cW ws'))] (27 : Nat)] (AV.s (SV.blit true)))
    (Tree.need (okS ps)
      (Tree.need (List.length ps ≤ (1000000 : Nat))
        (Tree.need (List.length is ≤ (1000000 : Nat))
          (Tree.need (List.length cs ≤ (1000000 : Nat))
            (Tree.need (List.length ws ≤ (1000000 : Nat))
              (Tree.need (List.length is ≤ (1000000 : Nat))
                (Tree.need (List.length cs ≤ (1000000 : Nat))
                  (Tree.need (List.length ws ≤ (1000000 : Nat))
                    (Tree.need (List.length is ≤ (1000000 : Nat))
                      (Tree.need (List.length cs ≤ (1000000 : Nat))
                        (Tree.need (List.length ws ≤ (1000000 : Nat))
                          (Tree.need (StEq ck nx ps (delF (pIt (takeL is id)) is) (delF (pDr (takeL is id)) cs) (delF (pWa (takeL is id)) ws) ck nx ps (delF (pIt (takeL is id)) is) (delF (pDr (takeL is id)) cs) (delF (pWa (takeL is id)) ws))
                            (Tree.ite true
                              (Tree.need (List.length is ≤ (1000000 : Nat))
                                (Tree.need (List.length cs ≤ (1000000 : Nat))
                                  (Tree.need (List.length ws ≤ (1000000 : Nat))
                                    (Tree.need (List.length is ≤ (1000000 : Nat)) (Tree.need (List.length cs ≤ (1000000 : Nat)) (Tree.need (List.length ws ≤ (1000000 : Nat)) (Tree.need (StEq ck nx ps (delF (pIt (clearL is id)) is) (delF (pDr (clearL is id)) cs) (delF (pWa (clearL is id)) ws) ck nx ps (delF (pIt (clearL is id)) is) (delF (pDr (clearL is id)) cs) (delF (pWa (clearL is id)) ws)) (Tree.ite true (Tree.need (List.length is ≤ (1000000 : Nat)) (Tree.need (List.length cs ≤ (1000000 : Nat)) (Tree.need (List.length ws ≤ (1000000 : Nat)) (Tree.need (List.length is ≤ (1000000 : Nat)) (Tree.need (List.length cs ≤ (1000000 : Nat)) (Tree.need (List.length ws ≤ (1000000 : Nat)) (Tree.need (StEq ck nx ps (delF (pIt (clearL is id)) is) (delF (pDr (clearL is id)) cs) (delF (pWa (breakL is id)) ws) ck nx ps (delF (pIt (clearL is id)) is) (delF (pDr (clearL is id)) cs) (delF (pWa (breakL is id)) ws)) (Tree.ite true (Tree.need (List.length is ≤ (1000000 : Nat)) (Tree.need (List.length is ≤ (1000000 : Nat)) (Tree.need (goneF is is' = goneF is is') (Tree.ite true (Tree.need (StEq ck nx ps is cs ws ck nx ps is cs ws) (Tree.ret [AObj.own [AV.s (SV.int IntKind.i64 ck), AV.s (SV.int IntKind.i64 nx), AV.s (SV.ro (Con.typ cP ps)), AV.s (SV.ro (Con.typ cI is)), AV.s (SV.ro (Con.typ cC cs)), AV.s (SV.ro (Con.typ cW ws))] (27 : Nat), AObj.own [AV.s (SV.int IntKind.i64 ck'), AV.s (SV.int IntKind.i64 nx'), AV.s (SV.ro (Con.typ cP ps')), AV.s (SV.ro (Con.typ cI is')), AV.s (SV.ro (Con.typ cC cs')), AV.s (SV.ro (Con.typ cW ws'))] (27 : Nat), AObj.own [AV.s (SV.int IntKind.i64 ck), AV.s (SV.int IntKind.i64 nx), AV.s (SV.ro (Con.typ cP ps)), AV.s (SV.ro (Con.typ cI is)), AV.s (SV.ro (Con.typ cC cs)), AV.s (SV.ro (Con.typ cW ws))] (27 : Nat), AObj.vec (Con.ints IntKind.i64 (goneF is is')) (3 : Nat), AObj.vec (Con.ints IntKind.i64 (goneF is is')) (3 : Nat)] (AV.s (SV.bool true)))) (Tree.ret [AObj.own [AV.s (SV.int IntKind.i64 ck), AV.s (SV.int IntKind.i64 nx), AV.s (SV.ro (Con.typ cP ps)), AV.s (SV.ro (Con.typ cI is)), AV.s (SV.ro (Con.typ cC cs)), AV.s (SV.ro (Con.typ cW ws))] (27 : Nat), AObj.own [AV.s (SV.int IntKind.i64 ck'), AV.s (SV.int IntKind.i64 nx'), AV.s (SV.ro (Con.typ cP ps')), AV.s (SV.ro (Con.typ cI is')), AV.s (SV.ro (Con.typ cC cs')), AV.s (SV.ro (Con.typ cW ws'))] (27 : Nat), AObj.own [AV.s (SV.int IntKind.i64 ck), AV.s (SV.int IntKind.i64 nx), AV.s (SV.ro (Con.typ cP ps)), AV.s (SV.ro (Con.typ cI is)), AV.s (SV.ro (Con.typ cC cs)), AV.s (SV.ro (Con.typ cW ws))] (27 : Nat), AObj.vec (Con.ints IntKind.i64 (goneF is is')) (3 : Nat), AObj.vec (Con.ints IntKind.i64 (goneF is is')) (3 : Nat)] (AV.s (SV.blit false))))))) (Tree.ret [AObj.own [AV.s (SV.int IntKind.i64 ck), AV.s (SV.int IntKind.i64 nx), AV.s (SV.ro (Con.typ cP ps)), AV.s (SV.ro (Con.typ cI is)), AV.s (SV.ro (Con.typ cC cs)), AV.s (SV.ro (Con.typ cW ws))] (27 : Nat), AObj.own [AV.s (SV.int IntKind.i64 ck'), AV.s (SV.int IntKind.i64 nx'), AV.s (SV.ro (Con.typ cP ps')), AV.s (SV.ro (Con.typ cI is')), AV.s (SV.ro (Con.typ cC cs')), AV.s (SV.ro (Con.typ cW ws'))] (27 : Nat), AObj.own [AV.s (SV.int IntKind.i64 ck), AV.s (SV.int IntKind.i64 nx), AV.s (SV.ro (Con.typ cP ps)), AV.s (SV.ro (Con.typ cI is)), AV.s (SV.ro (Con.typ cC cs)), AV.s (SV.ro (Con.typ cW ws))] (27 : Nat)] (AV.s (SV.blit false))))))))))) (Tree.ret [AObj.own [AV.s (SV.int IntKind.i64 ck), AV.s (SV.int IntKind.i64 nx), AV.s (SV.ro (Con.typ cP ps)), AV.s (SV.ro (Con.typ cI is)), AV.s (SV.ro (Con.typ cC cs)), AV.s (SV.ro (Con.typ cW ws))] (27 : Nat), AObj.own [AV.s (SV.int IntKind.i64 ck'), AV.s (SV.int IntKind.i64 nx'), AV.s (SV.ro (Con.typ cP ps')), AV.s (SV.ro (Con.typ cI is')), AV.s (SV.ro (Con.typ cC cs')), AV.s (SV.ro (Con.typ cW ws'))] (27 : Nat), AObj.own [AV.s (SV.int IntKind.i64 ck), AV.s (SV.int IntKind.i64 nx), AV.s (SV.ro (Con.typ cP ps)), AV.s (SV.ro (Con.typ cI is)), AV.s (SV.ro (Con.typ cC cs)), AV.s (SV.ro (Con.typ cW ws))] (27 : Nat)] (AV.s (SV.blit false)))))))))))
                              (Tree.ret [AObj.own [AV.s (SV.int IntKind.i64 ck), AV.s (SV.int IntKind.i64 nx), AV.s (SV.ro (Con.typ cP ps)), AV.s (SV.ro (Con.typ cI is)), AV.s (SV.ro (Con.typ cC cs)), AV.s (SV.ro (Con.typ cW ws))] (27 : Nat), AObj.own [AV.s (SV.int IntKind.i64 ck'), AV.s (SV.int IntKind.i64 nx'), AV.s (SV.ro (Con.typ cP ps')), AV.s (SV.ro (Con.typ cI is')), AV.s (SV.ro (Con.typ cC cs')), AV.s (SV.ro (Con.typ cW ws'))] (27 : Nat), AObj.own [AV.s (SV.int IntKind.i64 ck), AV.s (SV.int IntKind.i64 nx), AV.s (SV.ro (Con.typ cP ps)), AV.s (SV.ro (Con.typ cI is)), AV.s (SV.ro (Con.typ cC cs)), AV.s (SV.ro (Con.typ cW ws))] (27 : Nat)] (AV.s (SV.blit false))))))))))))))))) := by kernel_rfl
end Ds

namespace Ds
open Go Go.Sx Go.Proofs Lf
theorem copyP_ok {Z : Glob} : FnOk P Z 64 [tPr] [tPrr] preCp (fun ((a, vs, ns, fs, ()), ()) => ((a, vs, ns, fs, ()), ())) := by
  refine fnOk_of_safe Try.func64 (by kernel_rfl) (by kernel_rfl) ?_
  rintro ⟨⟨(a : ByteArray), (vs : List (CL cV)), (ns : List (CL cN)), (fs : List (CL cF)), ⟨⟩⟩, ⟨⟩⟩ _ ⟨⟨h1, h2, h3, h4⟩, _⟩ X hX hz
  show Safe P 64 X (Ends [tPrr] ((a, vs, ns, fs, ()), ())) _
  have loop : ∀ (n i : Nat), i + n = ns.length → Safe P 64 X (Ends [tPrr] ((a, vs, ns, fs, ()), ())) (cCp a vs ns fs (ns.take i) (i : Int)) := by
    intro n
    induction n with
    | zero =>
      intro i hi
      rw [List.take_of_length_le (by omega)]
      exact go hz hX Tab.Ok.nil Try.func64 (loopCp a vs ns fs _ i) (no_and (decide_eq_false (by omega)) (ends_eq _ rfl (by kernel_rfl)))
    | succ n ih =>
      intro i hi
      have hlt : i < ns.length := by omega
      have next := ih (i + 1) (by omega)
      rw [List.take_add_one, List.getElem?_eq_getElem hlt] at next
      have hal : (ns.take i).length ≤ i := by rw [List.length_take]; omega
      generalize ns.take i = acc at *
      refine go hz hX Tab.Ok.nil Try.func64 (loopCp a vs ns fs acc i) (yes_and (decide_eq_true (by omega)) ⟨by omega, by omega, ?_⟩)
      rw [el_lt hlt]
      obtain ⟨g1, g2⟩ := h4 _ (List.getElem_mem hlt)
      exact ⟨by omega, by omega, by omega, ⟨by omega, by omega⟩, next⟩
  exact go hz hX Tab.Ok.nil Try.func64 (trCp a vs ns fs) ⟨by omega, by omega, loop ns.length 0 (by omega)⟩
theorem tabCc_ok {Z : Glob} : tabCc.Ok P Z := Tab.Ok.cons copyP_ok.sumR Tab.Ok.nil
theorem copyS_ok {Z : Glob} : FnOk P Z 38 [tSt] [tSr] (fun ((_, _, ps, is, cs, ws, ()), ()) => [okS ps, (ps : Ps).length ≤ 1000000, (is : Is).length ≤ 1000000, (cs : Cs).length ≤ 1000000, (ws : Ws).length ≤ 1000000]) (fun (s, ()) => (s, ())) := by
  refine fnOk_of_safe Try.func38 (by kernel_rfl) (by kernel_rfl) ?_
  rintro ⟨⟨(ck : Int), (nx : Int), (ps : Ps), (is : Is), (cs : Cs), (ws : Ws), ⟨⟩⟩, ⟨⟩⟩ _ ⟨(hk : okS ps), (h1 : ps.length ≤ 1000000), (h2 : is.length ≤ 1000000), (h3 : cs.length ≤ 1000000), (h4 : ws.length ≤ 1000000), _⟩ X hX hz
  show Safe P 38 X (Ends [tSr] ((ck, nx, ps, is, cs, ws, ()), ())) _
  have loop : ∀ (n i : Nat), i + n = ps.length → Safe P 38 X (Ends [tSr] ((ck, nx, ps, is, cs, ws, ()), ())) (cCc ck nx ps is cs ws (ps.take i) (i : Int)) := by
    intro n
    induction n with
    | zero =>
      intro i hi
      rw [List.take_of_length_le (by omega)]
      exact go hz hX tabCc_ok Try.func38 (loopCc ck nx ps is cs ws _ i) (no_and (decide_eq_false (by omega)) ⟨by omega, by omega, by omega, ends_eq _ rfl (by kernel_rfl)⟩)
    | succ n ih =>
      intro i hi
      have hlt : i < ps.length := by omega
      have next := ih (i + 1) (by omega)
      rw [List.take_add_one, List.getElem?_eq_getElem hlt] at next
      have hal : (ps.take i).length ≤ i := by rw [List.length_take]; omega
      generalize ps.take i = acc at *
      refine go hz hX tabCc_ok Try.func38 (loopCc ck nx ps is cs ws acc i) (yes_and (decide_eq_true (by omega)) ⟨by omega, by omega, ?_⟩)
      rw [el_lt hlt]
      exact ⟨hk _ (List.getElem_mem hlt), by omega, ⟨by omega, by omega⟩, next⟩
  exact go hz hX tabCc_ok Try.func38 (trCc ck nx ps is cs ws) (loop ps.length 0 (by omega))
theorem tabDg_ok {Z : Glob} : tabDg.Ok P Z := Tab.Ok.cons df_ok.sum (Tab.Ok.cons i1_ok.sum Tab.Ok.nil)
theorem dgone_ok {Z : Glob} : FnOk P Z 42 [tSt, tSt] [tNs] (fun ((_, _, _, is, _, _, ()), _, ()) => [(is : Is).length ≤ 1000000]) (fun ((_, _, _, is, _, _, ()), (_, _, _, is', _, _, ()), ()) => (goneF is is', ())) := by
  refine fnOk_of_safe Try.func42 (by kernel_rfl) (by kernel_rfl) ?_
  rintro ⟨⟨(ck : Int), (nx : Int), (ps : Ps), (is : Is), (cs : Cs), (ws : Ws), ⟨⟩⟩, ⟨(ck' : Int), (nx' : Int), (ps' : Ps), (is' : Is), (cs' : Cs), (ws' : Ws), ⟨⟩⟩, ⟨⟩⟩ _ ⟨(hi : is.length ≤ 1000000), _⟩ X hX hz
  show Safe P 42 X (Ends [tNs] (goneF is is', ())) _
  have loop : ∀ (j i : Nat), i + j = is.length → Safe P 42 X (Ends [tNs] (goneF is is', ())) (cDg ck nx ps is cs ws ck' nx' ps' is' cs' ws' (goneF (is.take i) is') (i : Int)) := by
    intro j
    induction j with
    | zero =>
      intro i hin
      rw [List.take_of_length_le (by omega)]
      exact go hz hX tabDg_ok Try.func42 (loopDg ck nx ps is cs ws ck' nx' ps' is' cs' ws' _ i) (no_and (decide_eq_false (by omega)) (ends_eq _ rfl (by kernel_rfl)))
    | succ j ih =>
      intro i hin
      have hlt : i < is.length := by omega
      have next := ih (i + 1) (by omega)
      have hmem : hasI is' (iI is[i]) = false → ∀ y, y ∈ goneF (is.take (i + 1)) is' ↔ y ∈ goneF (is.take i) is' ∨ y = iI is[i] := fun hf y => by
        unfold goneF
        rw [mem_setS, mem_setS, List.take_add_one, List.getElem?_eq_getElem hlt, List.map_append, List.filter_append, List.mem_append]
        simp [hf]
      have hold : hasI is' (iI is[i]) = true → goneF (is.take (i + 1)) is' = goneF (is.take i) is' := fun hf => by
        unfold goneF
        rw [List.take_add_one, List.getElem?_eq_getElem hlt, List.map_append, List.filter_append]
        simp [hf]
      have hr : Rises (goneF (is.take i) is') := setS_lt _
      have hr2 : Rises (goneF (is.take (i + 1)) is') := setS_lt _
      have hal : (goneF (is.take i) is').length ≤ i := by
        refine Nat.le_trans (setS_len _) (Nat.le_trans (List.length_filter_le _ _) ?_)
        rw [List.length_map, List.length_take]; omega
      refine go hz hX tabDg_ok Try.func42 (loopDg ck nx ps is cs ws ck' nx' ps' is' cs' ws' _ i) (yes_and (decide_eq_true (by omega)) ⟨by omega, by omega, ?_⟩)
      rw [el_lt hlt]
      generalize iI is[i] = x at *
      generalize goneF (is.take (i + 1)) is' = acc' at *
      generalize goneF (is.take i) is' = acc at *
      cases hf : hasI is' x with
      | true =>
        rw [hold hf] at next
        exact yes_and rfl ⟨⟨by omega, by omega⟩, next⟩
      | false =>
        have hmem := hmem hf
        refine no_and rfl ?_
        by_cases hx : x ∈ acc
        · refine yes_and (by rw [List.contains_eq_mem, decide_eq_true_iff]; exact hx) ⟨⟨by omega, by omega⟩, ?_⟩
          have e : acc' = acc := lt_ext hr2 hr fun y => by
            rw [hmem]
            exact ⟨fun h => h.elim id fun h => by rw [h]; exact hx, .inl⟩
          rw [e] at next
          exact next
        · refine no_and (by rw [List.contains_eq_mem, decide_eq_false_iff_not]; exact hx) ?_
          have loop2 : ∀ (n k : Nat), k + n = acc.length → (∀ y ∈ acc.take k, y < x) → Safe P 42 X (Ends [tNs] (goneF is is', ())) (cDg2 ck nx ps is cs ws ck' nx' ps' is' cs' ws' acc (i : Int) x (k : Int)) := by
            intro n
            induction n with
            | zero =>
              intro k hk h1
              have d := next
              rw [split_ins hr hr2 (show k ≤ acc.length by omega) h1 (by rw [List.drop_eq_nil_of_le (by omega)]; simp) hmem] at d
              refine go hz hX tabDg_ok Try.func42 (loopDg2 ck nx ps is cs ws ck' nx' ps' is' cs' ws' acc i x k) (no_and (decide_eq_false (by omega)) ⟨by omega, by omega, by omega, ?_, ?_, by omega, by omega, by omega, ?_, ⟨by omega, by omega⟩, d⟩)
              all_goals simp only [List.length_append, List.length_nil, List.length_drop, List.length_take, List.length_cons]; omega
            | succ n ih2 =>
              intro k hk h1
              have hkl : k < acc.length := by omega
              refine go hz hX tabDg_ok Try.func42 (loopDg2 ck nx ps is cs ws ck' nx' ps' is' cs' ws' acc i x k) (yes_and (decide_eq_true (by omega)) ⟨by omega, by omega, ?_⟩)
              by_cases h2 : acc[k] < x
              · refine yes_and (decide_eq_true (by rw [Int.toNat_natCast, getD_lt hkl]; exact h2)) ⟨⟨by omega, by omega⟩, ih2 (k + 1) (by omega) fun y hy => ?_⟩
                rw [List.take_add_one, List.getElem?_eq_getElem hkl, List.mem_append] at hy
                rcases hy with hy | hy
                · exact h1 y hy
                · simp at hy; rw [hy]; exact h2
              · have hne : acc[k] ≠ x := fun e => hx (by rw [← e]; exact List.getElem_mem hkl)
                have d := next
                rw [split_ins hr hr2 (show k ≤ acc.length by omega) h1 (drop_gt hr hkl (by omega)) hmem] at d
                refine no_and (decide_eq_false (by rw [Int.toNat_natCast, getD_lt hkl]; exact h2)) ⟨by omega, by omega, by omega, ?_, ?_, by omega, by omega, by omega, ?_, ⟨by omega, by omega⟩, d⟩
                all_goals simp only [List.length_append, List.length_nil, List.length_drop, List.length_take, List.length_cons]; omega
          exact loop2 acc.length 0 (by omega) (by simp)
  exact go hz hX tabDg_ok Try.func42 (trDg ck nx ps is cs ws ck' nx' ps' is' cs' ws') (loop is.length 0 (by omega))
theorem tabTe_ok {Z : Glob} : tabTe.Ok P Z := Tab.Ok.cons large_ok.sum (Tab.Ok.cons copyS_ok.sumR (Tab.Ok.cons take_ok.sumR (Tab.Ok.cons clear_ok.sumR (Tab.Ok.cons break_ok.sumR (Tab.Ok.cons gone_ok.sum (Tab.Ok.cons dt_ok.sumR (Tab.Ok.cons dc_ok.sumR (Tab.Ok.cons dbr_ok.sumR (Tab.Ok.cons dgone_ok.sum (Tab.Ok.cons same_ok.sum (Tab.Ok.cons eq_ok.sum Tab.Ok.nil)))))))))))
theorem not_large2 {ps : Ps} {is : Is} {cs : Cs} {ws : Ws} (h : largeF ps is cs ws = false) : ps.length ≤ 12 := by
  have := of_decide_eq_false h
  omega
theorem cancelTells_ok {Z : Glob} : FnOk P Z 9 [tSt, tSt, tInt] [tBool] (fun ((_, _, ps, _, _, _, ()), _, _, ()) => [okS ps]) (fun _ => (true, ())) := by
  refine fnOk_of_safe Try.func9 (by kernel_rfl) (by kernel_rfl) ?_
  rintro ⟨⟨(ck : Int), (nx : Int), (ps : Ps), (is : Is), (cs : Cs), (ws : Ws), ⟨⟩⟩, ⟨(ck' : Int), (nx' : Int), (ps' : Ps), (is' : Is), (cs' : Cs), (ws' : Ws), ⟨⟩⟩, (id : Int), ⟨⟩⟩ _ ⟨(hk : okS ps), _⟩ X hX hz
  show Safe P 9 X (Ends [tBool] (true, ())) _
  refine go hz hX tabTe_ok Try.func9 (trTe ck nx ps is cs ws ck' nx' ps' is' cs' ws' id) ⟨fun _ => ends_eq _ rfl (by kernel_rfl), fun hl => ⟨fun _ => ends_eq _ rfl (by kernel_rfl), fun _ => ?_⟩⟩
  obtain ⟨l1, l2, l3⟩ := not_large hl
  have l4 := not_large2 hl
  have r : ∀ (ck nx : Int) (ps : Ps) (is : Is) (cs : Cs) (ws : Ws), StEq ck nx ps is cs ws ck nx ps is cs ws := fun _ _ _ _ _ _ => ⟨rfl, rfl, rfl, rfl, rfl, rfl⟩
  exact ⟨hk, by omega, by omega, by omega, by omega, by omega, by omega, by omega, by omega, by omega, by omega, r _ _ _ _ _ _, yes_and rfl ⟨by omega, by omega, by omega, by omega, by omega, by omega, r _ _ _ _ _ _, yes_and rfl ⟨by omega, by omega, by omega, by omega, by omega, by omega, r _ _ _ _ _ _, yes_and rfl ⟨by omega, by omega, rfl, yes_and rfl ⟨r _ _ _ _ _ _, ends_eq _ rfl (by kernel_rfl)⟩⟩⟩⟩⟩
end Ds

namespace Ds
open Go Go.Sx Go.Proofs Lf
theorem okS_heavy {x : Ty.V tSt} (h : Ty.heavy reachBytes tSt x) : okS x.2.2.1 := by
  obtain ⟨(ck : Int), (nx : Int), (ps : Ps), (is : Is), (cs : Cs), (ws : Ws), ⟨⟩⟩ := x
  have hps : RK.heavy reachBytes (.typ cP) ps := h.2.2.1
  intro p hp
  have hpp : CL.heavy reachBytes cP p := hps.2 p hp
  have hv : CK.heavy reachBytes (.rows cV) (pV p) := hpp.2.1
  have hn : CK.heavy reachBytes (.rows cN) (pO p) := hpp.2.2.1
  have hf : CK.heavy reachBytes (.rows cF) (pF p) := hpp.2.2.2.1
  refine ⟨hv.1, hn.1, hf.1, fun x hx => ?_⟩
  have hxx : CL.heavy reachBytes cN x := hn.2 x hx
  have h1 : CK.heavy reachBytes (.rows cV) (nV x) := hxx.2.2.2.2.2.2.2.2.2.1
  have h2 : CK.heavy reachBytes .strs (nZ x) := hxx.2.2.2.2.2.2.2.2.2.2.1
  exact ⟨h1.1, h2⟩
end Ds
