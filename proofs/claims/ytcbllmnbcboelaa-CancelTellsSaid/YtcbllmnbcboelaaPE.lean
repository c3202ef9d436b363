/- Lemmas: A5, A6, A7, A8, A9, A10, A11, A12, B2, A13. -/
import Derived.Test.YtcbllmnbcboelaaPD

namespace Ds
open Go Go.Sx Go.Proofs Lf
noncomputable def cDrV (ck nx : Int) (ps : Ps) (is : Is) (cs : Cs) (ws : Ws) (r : Cs) : Cfg := ⟨sl 12 [(2, .ptr 0 0), (4, .ptr 1 0), (9, .vec 2)], [obSt ck nx ps is cs ws, obZ, .vec (.typ cC r) eC], cal Try.f83 1 5, kk 1⟩
noncomputable def cUwV (ck nx : Int) (ps : Ps) (is : Is) (cs : Cs) (ws : Ws) (m : Mp) (r : Ws) : Cfg := ⟨sl 12 [(2, .ptr 1 0), (4, .ptr 2 0), (9, .vec 3)], [.map kM m, obSt ck nx ps is cs ws, obZ, .vec (.typ cW r) eW], cal Try.f63 1 5, kk 1⟩
def pDr (l : List Int) (c : CL cC) : Bool := l.contains (lS c)
def pUw (m : Mp) (w : CL cW) : Bool := decide (cnt m (wT w) > 0)
abbrev sUw : Spec (Int × Int × Ps × Is × Cs × Ws × Mp) := ⟨fun (ck, nx, ps, is, cs, ws, _) => [avSt ck nx ps is cs ws, .mapv 0], fun (_, _, _, _, _, _, m) => [.map kM m], fun (_, _, _, _, _, ws, _) => [ws.length ≤ 1000000], fun (_, _, _, _, _, ws, m) => [.map kM m, .vec (.typ cW (delF (pUw m) ws)) eW], fun (ck, nx, ps, is, cs, _, _) => .agg [avI ck, avI nx, .s (.ro (.typ cP ps)), .s (.ro (.typ cI is)), .s (.ro (.typ cC cs)), .vec 1]⟩
theorem has_ok {Z : Glob} : FnOk P Z 108 [tNs, tInt] [tBool] (fun _ => []) (fun (l, x, ()) => ((l : List Int).contains x, ())) := by
  refine fnOk_of_safe Try.func108 (by kernel_rfl) (by kernel_rfl) ?_
  rintro ⟨(l : List Int), (x : Int), ⟨⟩⟩ ⟨(hl : l.length ≤ maxLen), _⟩ _ X hX hz
  have hl2 : l.length ≤ 9223372036854775807 := by unfold maxLen at hl; omega
  show Safe P 108 X (Ends [tBool] (l.contains x, ())) _
  have loop : ∀ (j k : Nat), k + j = l.length → (∀ i (hi : i < k) (h2 : i < l.length), l[i] ≠ x) → Safe P 108 X (Ends [tBool] (l.contains x, ())) (cHas l x (k : Int)) := by
    intro j
    induction j with
    | zero =>
      intro k hk hi
      have e : l.contains x = false := by
        rw [List.contains_eq_mem, decide_eq_false_iff_not]
        intro h
        obtain ⟨i, h1, h2⟩ := List.mem_iff_getElem.1 h
        exact hi i (by omega) h1 h2
      refine go hz hX Tab.Ok.nil Try.func108 (loopHas l x k) ⟨fun h => absurd (of_decide_eq_true h) (by omega), fun _ => ?_⟩
      rw [e]; exact ends_eq _ rfl (by kernel_rfl)
    | succ j ih =>
      intro k hk hi
      have hlt : k < l.length := by omega
      refine go hz hX Tab.Ok.nil Try.func108 (loopHas l x k) ?_
      rw [Int.toNat_natCast, getD_lt hlt]
      have next := fun h : l[k] ≠ x => ih (k + 1) (by omega) fun i h1 h2 => by
        by_cases e : i = k
        · subst e; exact h
        · exact hi i (by omega) h2
      have hit : x = l[k] → l.contains x = true := fun h => by rw [List.contains_eq_mem, decide_eq_true_iff, h]; exact List.getElem_mem hlt
      repeat' (with_reducible (first | refine h_eq ?_ | refine h_need ?_ ?_ | refine h_dec (fun _ => ?_) (fun _ => ?_) | refine h_beq (fun _ => ?_) (fun _ => ?_) | refine h_bne (fun _ => ?_) (fun _ => ?_) | refine h_tt ?_ | refine h_ff ?_ | refine h_not ?_ | refine h_ite (fun _ => ?_) (fun _ => ?_) | refine h_both (fun _ => ?_) (fun _ => ?_) | refine h_ret ?_ | refine h_at ?_))
      all_goals first | omega | exact ⟨by omega, by omega⟩ | skip
      · rename_i h
        have e1 : decide ((k : Int) ≥ 0) = true := decide_eq_true (by omega)
        rw [hit (by simpa using h), e1]; exact ends_eq _ rfl (by kernel_rfl)
      · rename_i h; exact next (fun e => by simp [e] at h)
  refine go hz hX Tab.Ok.nil Try.func108 (trHas l x) ?_
  exact loop l.length 0 (by omega) fun i hi => absurd hi (Nat.not_lt_zero _)
theorem tabDr_ok {Z : Glob} : tabDr.Ok P Z := Tab.Ok.cons has_ok.sum Tab.Ok.nil
theorem drop_ok {Z : Glob} : FnOk P Z 83 [tSt, tNs] [tSr] (fun ((_, _, _, _, cs, _, ()), _, ()) => [(cs : Cs).length ≤ 1000000]) (fun ((ck, nx, ps, is, cs, ws, ()), l, ()) => ((ck, nx, ps, is, delF (pDr l) (cs : Cs), ws, ()), ())) := by
  refine fnOk_of_safe Try.func83 (by kernel_rfl) (by kernel_rfl) ?_
  rintro ⟨⟨(ck : Int), (nx : Int), (ps : Ps), (is : Is), (cs : Cs), (ws : Ws), ⟨⟩⟩, (l : List Int), ⟨⟩⟩ _ ⟨(hl : cs.length ≤ 1000000), _⟩ X hX hz
  have t1 : ∀ x, pDr l x = true → pDr l x = true := fun _ h => h
  have t0 : ∀ x, pDr l x = false → pDr l x = false := fun _ h => h
  show Safe P 83 X (Ends [tSr] ((ck, nx, ps, is, delF (pDr l) cs, ws, ()), ())) _

  have fin : ∀ r : List (CL cC), r = delF (pDr l) cs → Safe P 83 X (Ends [tSr] ((ck, nx, ps, is, delF (pDr l) cs, ws, ()), ())) (cDrE ck nx ps is cs ws r) := by
    intro r hr
    subst hr
    exact go hz hX tabDr_ok Try.func83 (endDr ck nx ps is cs ws (delF (pDr l) cs)) (ends_eq _ rfl (by kernel_rfl))
  have loop2 : ∀ (n : Nat) (r : List (CL cC)) (i j : Nat), j + n = cs.length → DInv (pDr l) cs r i j → Safe P 83 X (Ends [tSr] ((ck, nx, ps, is, delF (pDr l) cs, ws, ()), ())) (cDr2 ck nx ps is cs ws l r (i : Int) (j : Int)) := by
    intro n
    induction n with
    | zero =>
      intro r i j hj h
      have hlen := h.len
      have hij := h.ij
      refine go hz hX tabDr_ok Try.func83 (loopDr2 ck nx ps is cs ws l r i j) ⟨fun h => absurd (of_decide_eq_true h) (by omega), fun _ => ?_⟩
      rw [Int.toNat_natCast, Int.toNat_natCast]
      refine ⟨by omega, by omega, by omega, by omega, by omega, ?_, ?_⟩
      · rw [over_length _ _ (by omega) (by simp)]; omega
      · refine cut_safe (t := 9) (id := 2) rfl rfl ?_
        have e2 : conSub (.typ cC (over r (0 + i) (r.length - i) (List.replicate (r.length - i) (CL.d cC)))) 0 (0 + (i - Int.toNat 0)) = .typ cC (delF (pDr l) cs) := by
          show Con.typ cC ((List.take (0 + (i - 0)) (over r (0 + i) (r.length - i) (List.replicate (r.length - i) (CL.d cC)))).drop 0) = _
          rw [List.drop_zero, Nat.zero_add, Nat.sub_zero, Nat.zero_add]
          unfold over
          rw [List.append_assoc, List.take_append_of_le_length (by rw [List.length_take]; omega), List.take_take, Nat.min_self, h.fin (by omega)]
        rw [e2]
        exact fin _ rfl
    | succ n ih =>
      intro r i j hj h
      have hlen := h.len
      have hij := h.ij
      have hlt : j < cs.length := by omega
      refine go hz hX tabDr_ok Try.func83 (loopDr2 ck nx ps is cs ws l r i j) ?_
      rw [el_lt (show j < r.length by omega), h.at hlt]
      have skip := fun hp => ih r i (j + 1) (by omega) (h.skip hlt hp)
      have keep := fun hp => ih (r.set i cs[j]) (i + 1) (j + 1) (by omega) (h.keep hlt hp)
      repeat' (with_reducible (first | refine h_eq ?_ | refine h_need ?_ ?_ | refine h_dec (fun _ => ?_) (fun _ => ?_) | refine h_beq (fun _ => ?_) (fun _ => ?_) | refine h_bne (fun _ => ?_) (fun _ => ?_) | refine h_tt ?_ | refine h_ff ?_ | refine h_not ?_ | refine h_ite (fun _ => ?_) (fun _ => ?_) | refine h_both (fun _ => ?_) (fun _ => ?_) | refine h_ret ?_ | refine h_at ?_))
      all_goals first | omega | exact ⟨by omega, by omega⟩ | exact skip (by assumption) | exact keep (by assumption) | exact skip (t1 _ (by assumption)) | exact keep (t0 _ (by assumption))
  have none_ : (∀ x ∈ cs, (pDr l) x = false) → Safe P 83 X (Ends [tSr] ((ck, nx, ps, is, delF (pDr l) cs, ws, ()), ())) (cDrV ck nx ps is cs ws cs) := by
    intro h
    refine vec_cut_safe (t := 9) (id := 2) rfl rfl (c' := .typ cC cs) ?_ ?_
    · show Con.typ cC ((List.take (0 + cs.length) cs).drop 0) = _
      rw [List.drop_zero, Nat.zero_add, List.take_length]
    · exact fin _ (delF_all h).symm
  have loop1 : ∀ (n i : Nat), i + n = cs.length → (∀ k (hk : k < i) (h2 : k < cs.length), (pDr l) cs[k] = false) → Safe P 83 X (Ends [tSr] ((ck, nx, ps, is, delF (pDr l) cs, ws, ()), ())) (cDr1 ck nx ps is cs ws l cs (i : Int)) := by
    intro n
    induction n with
    | zero =>
      intro i hi hb
      refine go hz hX tabDr_ok Try.func83 (loopDr1 ck nx ps is cs ws l cs i) ⟨fun h => absurd (of_decide_eq_true h) (by omega), fun _ => ?_⟩
      refine none_ fun x hx => ?_
      obtain ⟨k, hk, rfl⟩ := List.mem_iff_getElem.1 hx
      exact hb k (by omega) hk
    | succ n ih =>
      intro i hi hb
      have hlt : i < cs.length := by omega
      refine go hz hX tabDr_ok Try.func83 (loopDr1 ck nx ps is cs ws l cs i) ?_
      rw [el_lt hlt]
      have next := fun h : (pDr l) cs[i] = false => ih (i + 1) (by omega) fun k h1 h2 => by
        by_cases e : k = i
        · subst e; exact h
        · exact hb k (by omega) h2
      have hit := fun h : (pDr l) cs[i] = true => loop2 (cs.length - (i + 1)) cs i (i + 1) (by omega) (DInv.start hlt h fun k hk => hb k hk (by omega))
      repeat' (with_reducible (first | refine h_eq ?_ | refine h_need ?_ ?_ | refine h_dec (fun _ => ?_) (fun _ => ?_) | refine h_beq (fun _ => ?_) (fun _ => ?_) | refine h_bne (fun _ => ?_) (fun _ => ?_) | refine h_tt ?_ | refine h_ff ?_ | refine h_not ?_ | refine h_ite (fun _ => ?_) (fun _ => ?_) | refine h_both (fun _ => ?_) (fun _ => ?_) | refine h_ret ?_ | refine h_at ?_))
      all_goals first | omega | exact ⟨by omega, by omega⟩ | exact next (by assumption) | exact hit (by assumption) | exact hit (t1 _ (by assumption)) | exact next (t0 _ (by assumption))
  have mid : Safe P 83 X (Ends [tSr] ((ck, nx, ps, is, delF (pDr l) cs, ws, ()), ())) (cDr ck nx ps is cs ws l cs) := go hz hX tabDr_ok Try.func83 (midDr ck nx ps is cs ws l cs) (loop1 cs.length 0 (by omega) fun k hk => absurd hk (Nat.not_lt_zero _))
  refine go hz hX tabDr_ok Try.func83 (trDr ck nx ps is cs ws l) ⟨fun h => ?_, fun _ => ⟨by omega, mid⟩⟩
  have h := List.eq_nil_of_length_eq_zero h
  have e : cDr ck nx ps is cs ws l [] = cDr ck nx ps is cs ws l cs := by rw [h]
  rw [← e] at mid
  exact mid

theorem unw_ok {Z : Glob} : FnS P Z 63 sUw := by
  refine fnS_of_safe Try.func63 (by kernel_rfl) (fun x => Nat.le_of_ble_eq_true (by kernel_rfl)) ?_
  rintro ⟨(ck : Int), (nx : Int), (ps : Ps), (is : Is), (cs : Cs), (ws : Ws), (m : Mp)⟩ ⟨(hl : ws.length ≤ 1000000), _⟩ X hX hz
  have hns : ∀ x ∈ nsUw, (sUw.heap (ck, nx, ps, is, cs, ws, m)).length ≤ x.2.m := by intro y hy; simp [nsUw] at hy; rcases hy with rfl | rfl | rfl | rfl <;> exact Nat.le_refl _
  have t1 : ∀ x : CL cW, (mget m (wT x)).getD (CK.int IntKind.i64).d > 0 → pUw m x = true := fun _ h => decide_eq_true h
  have t0 : ∀ x : CL cW, ¬ (mget m (wT x)).getD (CK.int IntKind.i64).d > 0 → pUw m x = false := fun _ h => decide_eq_false h

  have fin : ∀ r : List (CL cW), r = delF (pUw m) ws → Safe P 63 X (EndS sUw (ck, nx, ps, is, cs, ws, m)) (cUwE ck nx ps is cs ws m r) := by
    intro r hr
    subst hr
    exact goS hz hX hns Tab.Ok.nil Try.func63 (endUw ck nx ps is cs ws m (delF (pUw m) ws)) (endS 1 (by kernel_rfl) (Nat.le_refl _) rfl rfl)
  have loop2 : ∀ (n : Nat) (r : List (CL cW)) (i j : Nat), j + n = ws.length → DInv (pUw m) ws r i j → Safe P 63 X (EndS sUw (ck, nx, ps, is, cs, ws, m)) (cUw2 ck nx ps is cs ws m r (i : Int) (j : Int)) := by
    intro n
    induction n with
    | zero =>
      intro r i j hj h
      have hlen := h.len
      have hij := h.ij
      refine goS hz hX hns Tab.Ok.nil Try.func63 (loopUw2 ck nx ps is cs ws m r i j) ⟨fun h => absurd (of_decide_eq_true h) (by omega), fun _ => ?_⟩
      rw [Int.toNat_natCast, Int.toNat_natCast]
      refine ⟨by omega, by omega, by omega, by omega, by omega, ?_, ?_⟩
      · rw [over_length _ _ (by omega) (by simp)]; omega
      · refine cut_safe (t := 9) (id := 3) rfl rfl ?_
        have e2 : conSub (.typ cW (over r (0 + i) (r.length - i) (List.replicate (r.length - i) (CL.d cW)))) 0 (0 + (i - Int.toNat 0)) = .typ cW (delF (pUw m) ws) := by
          show Con.typ cW ((List.take (0 + (i - 0)) (over r (0 + i) (r.length - i) (List.replicate (r.length - i) (CL.d cW)))).drop 0) = _
          rw [List.drop_zero, Nat.zero_add, Nat.sub_zero, Nat.zero_add]
          unfold over
          rw [List.append_assoc, List.take_append_of_le_length (by rw [List.length_take]; omega), List.take_take, Nat.min_self, h.fin (by omega)]
        rw [e2]
        exact fin _ rfl
    | succ n ih =>
      intro r i j hj h
      have hlen := h.len
      have hij := h.ij
      have hlt : j < ws.length := by omega
      refine goS hz hX hns Tab.Ok.nil Try.func63 (loopUw2 ck nx ps is cs ws m r i j) ?_
      rw [el_lt (show j < r.length by omega), h.at hlt]
      have skip := fun hp => ih r i (j + 1) (by omega) (h.skip hlt hp)
      have keep := fun hp => ih (r.set i ws[j]) (i + 1) (j + 1) (by omega) (h.keep hlt hp)
      repeat' (with_reducible (first | refine h_eq ?_ | refine h_need ?_ ?_ | refine h_dec (fun _ => ?_) (fun _ => ?_) | refine h_beq (fun _ => ?_) (fun _ => ?_) | refine h_bne (fun _ => ?_) (fun _ => ?_) | refine h_tt ?_ | refine h_ff ?_ | refine h_not ?_ | refine h_ite (fun _ => ?_) (fun _ => ?_) | refine h_both (fun _ => ?_) (fun _ => ?_) | refine h_ret ?_ | refine h_at ?_))
      all_goals first | omega | exact ⟨by omega, by omega⟩ | exact skip (by assumption) | exact keep (by assumption) | exact skip (t1 _ (by assumption)) | exact keep (t0 _ (by assumption))
  have none_ : (∀ x ∈ ws, (pUw m) x = false) → Safe P 63 X (EndS sUw (ck, nx, ps, is, cs, ws, m)) (cUwV ck nx ps is cs ws m ws) := by
    intro h
    refine vec_cut_safe (t := 9) (id := 3) rfl rfl (c' := .typ cW ws) ?_ ?_
    · show Con.typ cW ((List.take (0 + ws.length) ws).drop 0) = _
      rw [List.drop_zero, Nat.zero_add, List.take_length]
    · exact fin _ (delF_all h).symm
  have loop1 : ∀ (n i : Nat), i + n = ws.length → (∀ k (hk : k < i) (h2 : k < ws.length), (pUw m) ws[k] = false) → Safe P 63 X (EndS sUw (ck, nx, ps, is, cs, ws, m)) (cUw1 ck nx ps is cs ws m ws (i : Int)) := by
    intro n
    induction n with
    | zero =>
      intro i hi hb
      refine goS hz hX hns Tab.Ok.nil Try.func63 (loopUw1 ck nx ps is cs ws m ws i) ⟨fun h => absurd (of_decide_eq_true h) (by omega), fun _ => ?_⟩
      refine none_ fun x hx => ?_
      obtain ⟨k, hk, rfl⟩ := List.mem_iff_getElem.1 hx
      exact hb k (by omega) hk
    | succ n ih =>
      intro i hi hb
      have hlt : i < ws.length := by omega
      refine goS hz hX hns Tab.Ok.nil Try.func63 (loopUw1 ck nx ps is cs ws m ws i) ?_
      rw [el_lt hlt]
      have next := fun h : (pUw m) ws[i] = false => ih (i + 1) (by omega) fun k h1 h2 => by
        by_cases e : k = i
        · subst e; exact h
        · exact hb k (by omega) h2
      have hit := fun h : (pUw m) ws[i] = true => loop2 (ws.length - (i + 1)) ws i (i + 1) (by omega) (DInv.start hlt h fun k hk => hb k hk (by omega))
      repeat' (with_reducible (first | refine h_eq ?_ | refine h_need ?_ ?_ | refine h_dec (fun _ => ?_) (fun _ => ?_) | refine h_beq (fun _ => ?_) (fun _ => ?_) | refine h_bne (fun _ => ?_) (fun _ => ?_) | refine h_tt ?_ | refine h_ff ?_ | refine h_not ?_ | refine h_ite (fun _ => ?_) (fun _ => ?_) | refine h_both (fun _ => ?_) (fun _ => ?_) | refine h_ret ?_ | refine h_at ?_))
      all_goals first | omega | exact ⟨by omega, by omega⟩ | exact next (by assumption) | exact hit (by assumption) | exact hit (t1 _ (by assumption)) | exact next (t0 _ (by assumption))
  have mid : Safe P 63 X (EndS sUw (ck, nx, ps, is, cs, ws, m)) (cUw ck nx ps is cs ws m ws) := goS hz hX hns Tab.Ok.nil Try.func63 (midUw ck nx ps is cs ws m ws) (loop1 ws.length 0 (by omega) fun k hk => absurd hk (Nat.not_lt_zero _))
  refine goS hz hX hns Tab.Ok.nil Try.func63 (trUw ck nx ps is cs ws m) ⟨fun h => ?_, fun _ => ⟨by omega, mid⟩⟩
  have h := List.eq_nil_of_length_eq_zero h
  have e : cUw ck nx ps is cs ws m [] = cUw ck nx ps is cs ws m ws := by rw [h]
  rw [← e] at mid
  exact mid

end Ds

namespace Ds
open Go Go.Sx Go.Proofs Lf
/-! without -/
def mUw : List AV → RM ((Int × Int × Ps × Is × Cs × Ws × Mp) × List Nat)
  | [.agg [ck, nx, ps, is, cs, ws], .mapv id] => .look id fun o => match o, avInt .i64 ck, avInt .i64 nx, avRow (.typ cP) ps, avRow (.typ cI) is, avRow (.typ cC) cs, avRow (.typ cW) ws with
    | some (.map (.int .i64) m), some ck, some nx, some ps, some is, some cs, some ws => .ret ((ck, nx, ps, is, cs, ws, m), [id])
    | _, _, _, _, _, _, _ => .fail "no state"
  | _ => .fail "no state"
abbrev sumUw := sumS sUw mUw
abbrev sumDr := sumR [tSt, tNs] [tSr] (fun ((_, _, _, _, cs, _, ()), _, ()) => [(cs : Cs).length ≤ 1000000]) (fun ((ck, nx, ps, is, cs, ws, ()), l, ()) => ((ck, nx, ps, is, delF (pDr l) (cs : Cs), ws, ()), ()))
def tabWo : Tab := [(83, sumDr), (63, sumUw)]
abbrev fIi : FuncId := 75
abbrev fDi : FuncId := 84
abbrev fWo : FuncId := 85
abbrev inWo : List FuncId := [51, fIi, fDi, fWo]
def nsWo : List (Nat × Norm) := [(3, ⟨[], [1, 2, 4, 5, 9, 10, 11], 0, []⟩), (midKey + 8003, ⟨[(25, .typ cI [], eI)], [2, 4, 5, 25], 0, []⟩), ((fIi + 1) * 100000 + 2, ⟨[], [0, 1, 7, 8, 19, 20, 63, 65, 66], 0, []⟩), ((fDi + 1) * 100000 + 5, ⟨[], [0, 1, 5, 6, 44, 46, 47], 0, []⟩), (midKey + 8005, ⟨[], [2, 4, 5, 27], 0, []⟩)]
theorem trWo (ck nx : Int) (ps : Ps) (is : Is) (cs : Cs) (ws : Ws) (l : List Int) : run P tabWo.sum Try.f57 nsWo (start Try.f57 [avSt ck nx ps is cs ws, avL l] []) inWo =
  Tree.at (Cfg.mk (sl (32 : Nat) [((1 : Nat), AV.s (SV.ro (Con.ints IntKind.i64 l))), ((2 : Nat), AV.ptr (0 : Nat) (0 : Nat)), ((4 : Nat), AV.ptr (1 : Nat) (0 : Nat)), ((5 : Nat), AV.ptr (2 : Nat) (0 : Nat)), ((9 : Nat), AV.s (SV.ro (Con.ints IntKind.i64 l))), ((10 : Nat), AV.s (SV.int IntKind.i64 (↑l.length : Int))), ((11 : Nat), AV.s (SV.int IntKind.i64 (0 : Int)))]) [AObj.own [AV.s (SV.int IntKind.i64 ck), AV.s (SV.int IntKind.i64 nx), AV.s (SV.ro (Con.typ [CK.str, CK.rows [CK.str, CK.int IntKind.u8, CK.int IntKind.i64, CK.str], CK.rows [CK.str, CK.int IntKind.u8, CK.int IntKind.i64, CK.int IntKind.i64, CK.int IntKind.u8, CK.str, CK.str, CK.str, CK.bool, CK.rows [CK.str, CK.int IntKind.u8, CK.int IntKind.i64, CK.str], CK.strs], CK.rows [CK.int IntKind.i64, CK.int IntKind.i64, CK.str, CK.bool]] ps)), AV.s (SV.ro (Con.typ cI is)), AV.s (SV.ro (Con.typ cC cs)), AV.s (SV.ro (Con.typ cW ws))] (27 : Nat), AObj.own [AV.s (SV.int IntKind.i64 (0 : Int)), AV.s (SV.int IntKind.i64 (0 : Int)), AV.emp, AV.emp, AV.emp, AV.emp] (27 : Nat), AObj.own [AV.mapv (3 : Nat)] (97 : Nat), AObj.map (CK.int IntKind.i64) []] (hd Try.f57 (3 : Nat)) (Stk.mk none false (0 : Nat) [] (0 : Nat))) := by kernel_rfl
noncomputable def cWo0 (ck nx : Int) (ps : Ps) (is : Is) (cs : Cs) (ws : Ws) (l : List Int) (m : Mp) (i : Int) : Cfg := ⟨sl 32 [(1, avL l), (2, .ptr 0 0), (4, .ptr 1 0), (5, .ptr 2 0), (9, avL l), (10, avI (l.length : Int)), (11, avI i)], [obSt ck nx ps is cs ws, obZ, .own [.mapv 3] 97, .map kM m], hd Try.f57 3, {}⟩
theorem loopWo0 (ck nx : Int) (ps : Ps) (is : Is) (cs : Cs) (ws : Ws) (l : List Int) (m : Mp) (i : Int) : run P tabWo.sum Try.f57 nsWo (cWo0 ck nx ps is cs ws l m i) inWo =
  Tree.ite (decide (i < (↑l.length : Int))) (Tree.need ((0 : Int) ≤ i) (Tree.need (i < (↑l.length : Int)) (Tree.need (inI64 ((mget m (l.getD i.toNat (0 : Int))).getD (CK.int IntKind.i64).d + (1 : Int))) (Tree.need (inI64 (i + (1 : Int))) (Tree.at (Cfg.mk (sl (32 : Nat) [((1 : Nat), AV.s (SV.ro (Con.ints IntKind.i64 l))), ((2 : Nat), AV.ptr (0 : Nat) (0 : Nat)), ((4 : Nat), AV.ptr (1 : Nat) (0 : Nat)), ((5 : Nat), AV.ptr (2 : Nat) (0 : Nat)), ((9 : Nat), AV.s (SV.ro (Con.ints IntKind.i64 l))), ((10 : Nat), AV.s (SV.int IntKind.i64 (↑l.length : Int))), ((11 : Nat), AV.s (SV.int IntKind.i64 (i + (1 : Int))))]) [AObj.own [AV.s (SV.int IntKind.i64 ck), AV.s (SV.int IntKind.i64 nx), AV.s (SV.ro (Con.typ [CK.str, CK.rows [CK.str, CK.int IntKind.u8, CK.int IntKind.i64, CK.str], CK.rows [CK.str, CK.int IntKind.u8, CK.int IntKind.i64, CK.int IntKind.i64, CK.int IntKind.u8, CK.str, CK.str, CK.str, CK.bool, CK.rows [CK.str, CK.int IntKind.u8, CK.int IntKind.i64, CK.str], CK.strs], CK.rows [CK.int IntKind.i64, CK.int IntKind.i64, CK.str, CK.bool]] ps)), AV.s (SV.ro (Con.typ cI is)), AV.s (SV.ro (Con.typ cC cs)), AV.s (SV.ro (Con.typ cW ws))] (27 : Nat), AObj.own [AV.s (SV.int IntKind.i64 (0 : Int)), AV.s (SV.int IntKind.i64 (0 : Int)), AV.emp, AV.emp, AV.emp, AV.emp] (27 : Nat), AObj.own [AV.mapv (3 : Nat)] (97 : Nat), AObj.map (CK.int IntKind.i64) (mput m (l.getD i.toNat (0 : Int)) ((mget m (l.getD i.toNat (0 : Int))).getD (CK.int IntKind.i64).d + (1 : Int)))] (hd Try.f57 (3 : Nat)) (Stk.mk none false (0 : Nat) [] (0 : Nat)))))))) (Tree.need (List.length cs ≤ (1000000 : Nat)) (Tree.both (List.length is = (0 : Nat)) True (Tree.at (Cfg.mk (sl (32 : Nat) [((2 : Nat), AV.ptr (0 : Nat) (0 : Nat)), ((4 : Nat), AV.ptr (1 : Nat) (0 : Nat)), ((5 : Nat), AV.ptr (2 : Nat) (0 : Nat)), ((25 : Nat), AV.vec (3 : Nat))]) [AObj.own [AV.s (SV.int IntKind.i64 ck), AV.s (SV.int IntKind.i64 nx), AV.s (SV.ro (Con.typ [CK.str, CK.rows [CK.str, CK.int IntKind.u8, CK.int IntKind.i64, CK.str], CK.rows [CK.str, CK.int IntKind.u8, CK.int IntKind.i64, CK.int IntKind.i64, CK.int IntKind.u8, CK.str, CK.str, CK.str, CK.bool, CK.rows [CK.str, CK.int IntKind.u8, CK.int IntKind.i64, CK.str], CK.strs], CK.rows [CK.int IntKind.i64, CK.int IntKind.i64, CK.str, CK.bool]] ps)), AV.s (SV.ro (Con.typ cI is)), AV.s (SV.ro (Con.typ cC (delF (pDr l) cs))), AV.s (SV.ro (Con.typ cW ws))] (27 : Nat), AObj.own [AV.s (SV.int IntKind.i64 (0 : Int)), AV.s (SV.int IntKind.i64 (0 : Int)), AV.emp, AV.emp, AV.emp, AV.emp] (27 : Nat), AObj.own [AV.mapv (4 : Nat)] (97 : Nat), AObj.vec (Con.typ cI []) (43 : Nat), AObj.map (CK.int IntKind.i64) m] (cal Try.f57 (8 : Nat) (3 : Nat)) (Stk.mk none false (0 : Nat) [] (8 : Nat)))) (Tree.need (((0 : Nat) + List.length is) * (80 : Nat) ≤ (140737488355328 : Nat)) (Tree.at (Cfg.mk (sl (32 : Nat) [((2 : Nat), AV.ptr (0 : Nat) (0 : Nat)), ((4 : Nat), AV.ptr (1 : Nat) (0 : Nat)), ((5 : Nat), AV.ptr (2 : Nat) (0 : Nat)), ((25 : Nat), AV.vec (3 : Nat))]) [AObj.own [AV.s (SV.int IntKind.i64 ck), AV.s (SV.int IntKind.i64 nx), AV.s (SV.ro (Con.typ [CK.str, CK.rows [CK.str, CK.int IntKind.u8, CK.int IntKind.i64, CK.str], CK.rows [CK.str, CK.int IntKind.u8, CK.int IntKind.i64, CK.int IntKind.i64, CK.int IntKind.u8, CK.str, CK.str, CK.str, CK.bool, CK.rows [CK.str, CK.int IntKind.u8, CK.int IntKind.i64, CK.str], CK.strs], CK.rows [CK.int IntKind.i64, CK.int IntKind.i64, CK.str, CK.bool]] ps)), AV.s (SV.ro (Con.typ cI is)), AV.s (SV.ro (Con.typ cC (delF (pDr l) cs))), AV.s (SV.ro (Con.typ cW ws))] (27 : Nat), AObj.own [AV.s (SV.int IntKind.i64 (0 : Int)), AV.s (SV.int IntKind.i64 (0 : Int)), AV.emp, AV.emp, AV.emp, AV.emp] (27 : Nat), AObj.own [AV.mapv (4 : Nat)] (97 : Nat), AObj.vec (Con.typ cI ([] ++ is)) (43 : Nat), AObj.map (CK.int IntKind.i64) m] (cal Try.f57 (8 : Nat) (3 : Nat)) (Stk.mk none false (0 : Nat) [] (8 : Nat))))))) := by kernel_rfl
noncomputable def cWo (ck nx : Int) (ps : Ps) (is : Is) (cs : Cs) (ws : Ws) (m : Mp) (r : Is) : Cfg := ⟨sl 32 [(2, .ptr 0 0), (4, .ptr 1 0), (5, .ptr 2 0), (25, .vec 3)], [obSt ck nx ps is cs ws, obZ, .own [.mapv 4] 97, .vec (.typ cI r) eI, .map kM m], cal Try.f57 8 3, kk 8⟩
theorem midWo (ck nx : Int) (ps : Ps) (is : Is) (cs : Cs) (ws : Ws) (m : Mp) (r : Is) : run P tabWo.sum Try.f57 nsWo (cWo ck nx ps is cs ws m r) inWo =
  Tree.at (Cfg.mk (sl (93 : Nat) [((0 : Nat), AV.vec (0 : Nat)), ((1 : Nat), AV.fn (85 : Nat) [AV.ptr (1 : Nat) (0 : Nat)]), ((7 : Nat), AV.s (SV.int IntKind.i64 (↑(List.length r) : Int))), ((8 : Nat), AV.s (SV.int IntKind.i64 (0 : Int))), ((19 : Nat), AV.vec (0 : Nat)), ((20 : Nat), AV.fn (85 : Nat) [AV.ptr (1 : Nat) (0 : Nat)]), ((63 : Nat), AV.ptr (2 : Nat) (0 : Nat)), ((65 : Nat), AV.ptr (3 : Nat) (0 : Nat)), ((66 : Nat), AV.ptr (1 : Nat) (0 : Nat))]) [AObj.vec (Con.typ cI r) (43 : Nat), AObj.own [AV.mapv (4 : Nat)] (97 : Nat), AObj.own [AV.s (SV.int IntKind.i64 ck), AV.s (SV.int IntKind.i64 nx), AV.s (SV.ro (Con.typ [CK.str, CK.rows [CK.str, CK.int IntKind.u8, CK.int IntKind.i64, CK.str], CK.rows [CK.str, CK.int IntKind.u8, CK.int IntKind.i64, CK.int IntKind.i64, CK.int IntKind.u8, CK.str, CK.str, CK.str, CK.bool, CK.rows [CK.str, CK.int IntKind.u8, CK.int IntKind.i64, CK.str], CK.strs], CK.rows [CK.int IntKind.i64, CK.int IntKind.i64, CK.str, CK.bool]] ps)), AV.s (SV.ro (Con.typ cI is)), AV.s (SV.ro (Con.typ cC cs)), AV.s (SV.ro (Con.typ cW ws))] (27 : Nat), AObj.own [AV.s (SV.int IntKind.i64 (0 : Int)), AV.s (SV.int IntKind.i64 (0 : Int)), AV.emp, AV.emp, AV.emp, AV.emp] (27 : Nat), AObj.map (CK.int IntKind.i64) m] (hd Try.f75 (2 : Nat)) (Stk.mk (some (75 : Nat)) false (0 : Nat) [inCall Try.f84 (some (84 : Nat)) (1 : Nat) (2 : Nat) false (0 : Nat), inCall Try.f57 none (8 : Nat) (4 : Nat) false (0 : Nat)] (0 : Nat))) := by kernel_rfl
noncomputable def cWo1 (ck nx : Int) (ps : Ps) (is : Is) (cs : Cs) (ws : Ws) (m : Mp) (r : Is) (i : Int) : Cfg := ⟨sl 93 [(0, .vec 0), (1, .fn fWo [.ptr 1 0]), (7, avI (r.length : Int)), (8, avI i), (19, .vec 0), (20, .fn fWo [.ptr 1 0]), (63, .ptr 2 0), (65, .ptr 3 0), (66, .ptr 1 0)], [.vec (.typ cI r) eI, .own [.mapv 4] 97, obSt ck nx ps is cs ws, obZ, .map kM m], hd Try.f75 2, ⟨some fIi, false, 0, [inCall Try.f84 (some fDi) 1 2 false 0, inCall Try.f57 none 8 4 false 0], 0⟩⟩
theorem loopWo1 (ck nx : Int) (ps : Ps) (is : Is) (cs : Cs) (ws : Ws) (m : Mp) (r : Is) (i : Int) : run P tabWo.sum Try.f57 nsWo (cWo1 ck nx ps is cs ws m r i) inWo =
  Tree.ite (decide (i < (↑(List.length r) : Int)))
  (Tree.need ((0 : Int) ≤ i)
    (Tree.need (i < (↑(List.length r) : Int))
      (Tree.ite (decide ((mget m (iI (el r i))).getD (CK.int IntKind.i64).d > (0 : Int))) (Tree.ite (i == (-1 : Int)) (Tree.at (Cfg.mk (sl (32 : Nat) [((2 : Nat), AV.ptr (0 : Nat) (0 : Nat)), ((4 : Nat), AV.ptr (1 : Nat) (0 : Nat)), ((5 : Nat), AV.ptr (2 : Nat) (0 : Nat)), ((27 : Nat), AV.vec (3 : Nat))]) [AObj.own [AV.s (SV.int IntKind.i64 ck), AV.s (SV.int IntKind.i64 nx), AV.s (SV.ro (Con.typ [CK.str, CK.rows [CK.str, CK.int IntKind.u8, CK.int IntKind.i64, CK.str], CK.rows [CK.str, CK.int IntKind.u8, CK.int IntKind.i64, CK.int IntKind.i64, CK.int IntKind.u8, CK.str, CK.str, CK.str, CK.bool, CK.rows [CK.str, CK.int IntKind.u8, CK.int IntKind.i64, CK.str], CK.strs], CK.rows [CK.int IntKind.i64, CK.int IntKind.i64, CK.str, CK.bool]] ps)), AV.s (SV.ro (Con.typ cI is)), AV.s (SV.ro (Con.typ cC cs)), AV.s (SV.ro (Con.typ cW ws))] (27 : Nat), AObj.own [AV.s (SV.int IntKind.i64 (0 : Int)), AV.s (SV.int IntKind.i64 (0 : Int)), AV.emp, AV.emp, AV.emp, AV.emp] (27 : Nat), AObj.own [AV.mapv (4 : Nat)] (97 : Nat), AObj.vec (Con.typ cI r) (43 : Nat), AObj.map (CK.int IntKind.i64) m] (cal Try.f57 (8 : Nat) (5 : Nat)) (Stk.mk none false (0 : Nat) [] (8 : Nat)))) (Tree.need (inI64 (i + (1 : Int))) (Tree.at (Cfg.mk (sl (74 : Nat) [((0 : Nat), AV.vec (0 : Nat)), ((1 : Nat), AV.fn (85 : Nat) [AV.ptr (1 : Nat) (0 : Nat)]), ((5 : Nat), AV.s (SV.int IntKind.i64 i)), ((6 : Nat), AV.s (SV.int IntKind.i64 (i + (1 : Int)))), ((44 : Nat), AV.ptr (2 : Nat) (0 : Nat)), ((46 : Nat), AV.ptr (3 : Nat) (0 : Nat)), ((47 : Nat), AV.ptr (1 : Nat) (0 : Nat))]) [AObj.vec (Con.typ cI r) (43 : Nat), AObj.own [AV.mapv (4 : Nat)] (97 : Nat), AObj.own [AV.s (SV.int IntKind.i64 ck), AV.s (SV.int IntKind.i64 nx), AV.s (SV.ro (Con.typ [CK.str, CK.rows [CK.str, CK.int IntKind.u8, CK.int IntKind.i64, CK.str], CK.rows [CK.str, CK.int IntKind.u8, CK.int IntKind.i64, CK.int IntKind.i64, CK.int IntKind.u8, CK.str, CK.str, CK.str, CK.bool, CK.rows [CK.str, CK.int IntKind.u8, CK.int IntKind.i64, CK.str], CK.strs], CK.rows [CK.int IntKind.i64, CK.int IntKind.i64, CK.str, CK.bool]] ps)), AV.s (SV.ro (Con.typ cI is)), AV.s (SV.ro (Con.typ cC cs)), AV.s (SV.ro (Con.typ cW ws))] (27 : Nat), AObj.own [AV.s (SV.int IntKind.i64 (0 : Int)), AV.s (SV.int IntKind.i64 (0 : Int)), AV.emp, AV.emp, AV.emp, AV.emp] (27 : Nat), AObj.map (CK.int IntKind.i64) m] (hd Try.f84 (5 : Nat)) (Stk.mk (some (84 : Nat)) false (0 : Nat) [inCall Try.f57 none (8 : Nat) (4 : Nat) false (0 : Nat)] (0 : Nat)))))) (Tree.need (inI64 (i + (1 : Int))) (Tree.at (Cfg.mk (sl (93 : Nat) [((0 : Nat), AV.vec (0 : Nat)), ((1 : Nat), AV.fn (85 : Nat) [AV.ptr (1 : Nat) (0 : Nat)]), ((7 : Nat), AV.s (SV.int IntKind.i64 (↑(List.length r) : Int))), ((8 : Nat), AV.s (SV.int IntKind.i64 (i + (1 : Int)))), ((19 : Nat), AV.vec (0 : Nat)), ((20 : Nat), AV.fn (85 : Nat) [AV.ptr (1 : Nat) (0 : Nat)]), ((63 : Nat), AV.ptr (2 : Nat) (0 : Nat)), ((65 : Nat), AV.ptr (3 : Nat) (0 : Nat)), ((66 : Nat), AV.ptr (1 : Nat) (0 : Nat))]) [AObj.vec (Con.typ cI r) (43 : Nat), AObj.own [AV.mapv (4 : Nat)] (97 : Nat), AObj.own [AV.s (SV.int IntKind.i64 ck), AV.s (SV.int IntKind.i64 nx), AV.s (SV.ro (Con.typ [CK.str, CK.rows [CK.str, CK.int IntKind.u8, CK.int IntKind.i64, CK.str], CK.rows [CK.str, CK.int IntKind.u8, CK.int IntKind.i64, CK.int IntKind.i64, CK.int IntKind.u8, CK.str, CK.str, CK.str, CK.bool, CK.rows [CK.str, CK.int IntKind.u8, CK.int IntKind.i64, CK.str], CK.strs], CK.rows [CK.int IntKind.i64, CK.int IntKind.i64, CK.str, CK.bool]] ps)), AV.s (SV.ro (Con.typ cI is)), AV.s (SV.ro (Con.typ cC cs)), AV.s (SV.ro (Con.typ cW ws))] (27 : Nat), AObj.own [AV.s (SV.int IntKind.i64 (0 : Int)), AV.s (SV.int IntKind.i64 (0 : Int)), AV.emp, AV.emp, AV.emp, AV.emp] (27 : Nat), AObj.map (CK.int IntKind.i64) m] (hd Try.f75 (2 : Nat)) (Stk.mk (some (75 : Nat)) false (0 : Nat) [inCall Try.f84 (some (84 : Nat)) (1 : Nat) (2 : Nat) false (0 : Nat), inCall Try.f57 none (8 : Nat) (4 : Nat) false (0 : Nat)] (0 : Nat))))))))
  (Tree.at (Cfg.mk (sl (32 : Nat) [((2 : Nat), AV.ptr (0 : Nat) (0 : Nat)), ((4 : Nat), AV.ptr (1 : Nat) (0 : Nat)), ((5 : Nat), AV.ptr (2 : Nat) (0 : Nat)), ((27 : Nat), AV.vec (3 : Nat))]) [AObj.own [AV.s (SV.int IntKind.i64 ck), AV.s (SV.int IntKind.i64 nx), AV.s (SV.ro (Con.typ [CK.str, CK.rows [CK.str, CK.int IntKind.u8, CK.int IntKind.i64, CK.str], CK.rows [CK.str, CK.int IntKind.u8, CK.int IntKind.i64, CK.int IntKind.i64, CK.int IntKind.u8, CK.str, CK.str, CK.str, CK.bool, CK.rows [CK.str, CK.int IntKind.u8, CK.int IntKind.i64, CK.str], CK.strs], CK.rows [CK.int IntKind.i64, CK.int IntKind.i64, CK.str, CK.bool]] ps)), AV.s (SV.ro (Con.typ cI is)), AV.s (SV.ro (Con.typ cC cs)), AV.s (SV.ro (Con.typ cW ws))] (27 : Nat), AObj.own [AV.s (SV.int IntKind.i64 (0 : Int)), AV.s (SV.int IntKind.i64 (0 : Int)), AV.emp, AV.emp, AV.emp, AV.emp] (27 : Nat), AObj.own [AV.mapv (4 : Nat)] (97 : Nat), AObj.vec (Con.typ cI r) (43 : Nat), AObj.map (CK.int IntKind.i64) m] (cal Try.f57 (8 : Nat) (5 : Nat)) (Stk.mk none false (0 : Nat) [] (8 : Nat)))) := by kernel_rfl
noncomputable def cWo2 (ck nx : Int) (ps : Ps) (is : Is) (cs : Cs) (ws : Ws) (m : Mp) (r : Is) (i j : Int) : Cfg := ⟨sl 74 [(0, .vec 0), (1, .fn fWo [.ptr 1 0]), (5, avI i), (6, avI j), (44, .ptr 2 0), (46, .ptr 3 0), (47, .ptr 1 0)], [.vec (.typ cI r) eI, .own [.mapv 4] 97, obSt ck nx ps is cs ws, obZ, .map kM m], hd Try.f84 5, ⟨some fDi, false, 0, [inCall Try.f57 none 8 4 false 0], 0⟩⟩
theorem loopWo2 (ck nx : Int) (ps : Ps) (is : Is) (cs : Cs) (ws : Ws) (m : Mp) (r : Is) (i j : Int) : run P tabWo.sum Try.f57 nsWo (cWo2 ck nx ps is cs ws m r i j) inWo =
  Tree.ite (decide (j < (↑(List.length r) : Int))) (Tree.need ((0 : Int) ≤ j) (Tree.need (j < (↑(List.length r) : Int)) (Tree.ite (!decide ((mget m (iI (el r j))).getD (CK.int IntKind.i64).d > (0 : Int))) (Tree.need ((0 : Int) ≤ i) (Tree.need (i < (↑(List.length r) : Int)) (Tree.need (inI64 (i + (1 : Int))) (Tree.need (inI64 (j + (1 : Int))) (Tree.at (Cfg.mk (sl (74 : Nat) [((0 : Nat), AV.vec (0 : Nat)), ((1 : Nat), AV.fn (85 : Nat) [AV.ptr (1 : Nat) (0 : Nat)]), ((5 : Nat), AV.s (SV.int IntKind.i64 (i + (1 : Int)))), ((6 : Nat), AV.s (SV.int IntKind.i64 (j + (1 : Int)))), ((44 : Nat), AV.ptr (2 : Nat) (0 : Nat)), ((46 : Nat), AV.ptr (3 : Nat) (0 : Nat)), ((47 : Nat), AV.ptr (1 : Nat) (0 : Nat))]) [AObj.vec (Con.typ cI (List.set r i.toNat (iI (el r j), iU (el r j), iS (el r j), iP (el r j), iN (el r j), iF (el r j), iW (el r j), iC (el r j), (el r i).snd.snd.snd.snd.snd.snd.snd.snd))) (43 : Nat), AObj.own [AV.mapv (4 : Nat)] (97 : Nat), AObj.own [AV.s (SV.int IntKind.i64 ck), AV.s (SV.int IntKind.i64 nx), AV.s (SV.ro (Con.typ [CK.str, CK.rows [CK.str, CK.int IntKind.u8, CK.int IntKind.i64, CK.str], CK.rows [CK.str, CK.int IntKind.u8, CK.int IntKind.i64, CK.int IntKind.i64, CK.int IntKind.u8, CK.str, CK.str, CK.str, CK.bool, CK.rows [CK.str, CK.int IntKind.u8, CK.int IntKind.i64, CK.str], CK.strs], CK.rows [CK.int IntKind.i64, CK.int IntKind.i64, CK.str, CK.bool]] ps)), AV.s (SV.ro (Con.typ cI is)), AV.s (SV.ro (Con.typ cC cs)), AV.s (SV.ro (Con.typ cW ws))] (27 : Nat), AObj.own [AV.s (SV.int IntKind.i64 (0 : Int)), AV.s (SV.int IntKind.i64 (0 : Int)), AV.emp, AV.emp, AV.emp, AV.emp] (27 : Nat), AObj.map (CK.int IntKind.i64) m] (hd Try.f84 (5 : Nat)) (Stk.mk (some (84 : Nat)) false (0 : Nat) [inCall Try.f57 none (8 : Nat) (4 : Nat) false (0 : Nat)] (0 : Nat)))))))) (Tree.need (inI64 (j + (1 : Int))) (Tree.at (Cfg.mk (sl (74 : Nat) [((0 : Nat), AV.vec (0 : Nat)), ((1 : Nat), AV.fn (85 : Nat) [AV.ptr (1 : Nat) (0 : Nat)]), ((5 : Nat), AV.s (SV.int IntKind.i64 i)), ((6 : Nat), AV.s (SV.int IntKind.i64 (j + (1 : Int)))), ((44 : Nat), AV.ptr (2 : Nat) (0 : Nat)), ((46 : Nat), AV.ptr (3 : Nat) (0 : Nat)), ((47 : Nat), AV.ptr (1 : Nat) (0 : Nat))]) [AObj.vec (Con.typ cI r) (43 : Nat), AObj.own [AV.mapv (4 : Nat)] (97 : Nat), AObj.own [AV.s (SV.int IntKind.i64 ck), AV.s (SV.int IntKind.i64 nx), AV.s (SV.ro (Con.typ [CK.str, CK.rows [CK.str, CK.int IntKind.u8, CK.int IntKind.i64, CK.str], CK.rows [CK.str, CK.int IntKind.u8, CK.int IntKind.i64, CK.int IntKind.i64, CK.int IntKind.u8, CK.str, CK.str, CK.str, CK.bool, CK.rows [CK.str, CK.int IntKind.u8, CK.int IntKind.i64, CK.str], CK.strs], CK.rows [CK.int IntKind.i64, CK.int IntKind.i64, CK.str, CK.bool]] ps)), AV.s (SV.ro (Con.typ cI is)), AV.s (SV.ro (Con.typ cC cs)), AV.s (SV.ro (Con.typ cW ws))] (27 : Nat), AObj.own [AV.s (SV.int IntKind.i64 (0 : Int)), AV.s (SV.int IntKind.i64 (0 : Int)), AV.emp, AV.emp, AV.emp, AV.emp] (27 : Nat), AObj.map (CK.int IntKind.i64) m] (hd Try.f84 (5 : Nat)) (Stk.mk (some (84 : Nat)) false (0 : Nat) [inCall Try.f57 none (8 : Nat) (4 : Nat) false (0 : Nat)] (0 : Nat))))))))
  (Tree.need ((0 : Int) ≤ i) (Tree.need (i ≤ (↑(List.length r) : Int)) (Tree.need ((↑(0 : Nat) : Int) + (↑(List.length r) : Int) ≤ (↑(List.length r) : Int)) (Tree.need ((0 : Int) ≤ (0 : Int)) (Tree.need ((0 : Int) ≤ i) (Tree.need ((↑(0 : Nat) : Int) + i ≤ (↑(over r ((0 : Nat) + i.toNat) ((↑(List.length r) : Int).toNat - i.toNat) (List.replicate ((↑(List.length r) : Int).toNat - i.toNat) (CL.d cI))).length : Int)) (Tree.at (Cfg.mk (sl (32 : Nat) [((2 : Nat), AV.ptr (0 : Nat) (0 : Nat)), ((4 : Nat), AV.ptr (1 : Nat) (0 : Nat)), ((5 : Nat), AV.ptr (2 : Nat) (0 : Nat)), ((27 : Nat), AV.part (3 : Nat) (0 : Nat) (i.toNat - Int.toNat (0 : Int)))]) [AObj.own [AV.s (SV.int IntKind.i64 ck), AV.s (SV.int IntKind.i64 nx), AV.s (SV.ro (Con.typ [CK.str, CK.rows [CK.str, CK.int IntKind.u8, CK.int IntKind.i64, CK.str], CK.rows [CK.str, CK.int IntKind.u8, CK.int IntKind.i64, CK.int IntKind.i64, CK.int IntKind.u8, CK.str, CK.str, CK.str, CK.bool, CK.rows [CK.str, CK.int IntKind.u8, CK.int IntKind.i64, CK.str], CK.strs], CK.rows [CK.int IntKind.i64, CK.int IntKind.i64, CK.str, CK.bool]] ps)), AV.s (SV.ro (Con.typ cI is)), AV.s (SV.ro (Con.typ cC cs)), AV.s (SV.ro (Con.typ cW ws))] (27 : Nat), AObj.own [AV.s (SV.int IntKind.i64 (0 : Int)), AV.s (SV.int IntKind.i64 (0 : Int)), AV.emp, AV.emp, AV.emp, AV.emp] (27 : Nat), AObj.own [AV.mapv (4 : Nat)] (97 : Nat), AObj.vec (Con.typ cI (over r ((0 : Nat) + i.toNat) ((↑(List.length r) : Int).toNat - i.toNat) (List.replicate ((↑(List.length r) : Int).toNat - i.toNat) (CL.d cI)))) (43 : Nat), AObj.map (CK.int IntKind.i64) m] (cal Try.f57 (8 : Nat) (5 : Nat)) (Stk.mk none false (0 : Nat) [] (8 : Nat)))))))))) := by kernel_rfl
noncomputable def cWoV (ck nx : Int) (ps : Ps) (is : Is) (cs : Cs) (ws : Ws) (m : Mp) (r : Is) : Cfg := ⟨sl 32 [(2, .ptr 0 0), (4, .ptr 1 0), (5, .ptr 2 0), (27, .vec 3)], [obSt ck nx ps is cs ws, obZ, .own [.mapv 4] 97, .vec (.typ cI r) eI, .map kM m], cal Try.f57 8 5, kk 8⟩
noncomputable def cWoE (ck nx : Int) (ps : Ps) (is : Is) (cs : Cs) (ws : Ws) (m : Mp) (r : Is) : Cfg := ⟨sl 32 [(2, .ptr 0 0), (4, .ptr 1 0), (5, .ptr 2 0), (27, .s (.ro (.typ cI r)))], [obSt ck nx ps is cs ws, obZ, .own [.mapv 4] 97, .dead, .map kM m, .dead], cal Try.f57 8 5, kk 8⟩
theorem endWo (ck nx : Int) (ps : Ps) (is : Is) (cs : Cs) (ws : Ws) (m : Mp) (r : Is) : run P tabWo.sum Try.f57 nsWo (cWoE ck nx ps is cs ws m r) inWo =
  Tree.need (Slf (some [AV.agg [AV.s (SV.int IntKind.i64 ck), AV.s (SV.int IntKind.i64 nx), AV.s (SV.ro (Con.typ [CK.str, CK.rows [CK.str, CK.int IntKind.u8, CK.int IntKind.i64, CK.str], CK.rows [CK.str, CK.int IntKind.u8, CK.int IntKind.i64, CK.int IntKind.i64, CK.int IntKind.u8, CK.str, CK.str, CK.str, CK.bool, CK.rows [CK.str, CK.int IntKind.u8, CK.int IntKind.i64, CK.str], CK.strs], CK.rows [CK.int IntKind.i64, CK.int IntKind.i64, CK.str, CK.bool]] ps)), AV.s (SV.ro (Con.typ cI r)), AV.s (SV.ro (Con.typ cC cs)), AV.s (SV.ro (Con.typ cW ws))], AV.mapv (0 : Nat)])) (Tree.need (Slf (some [AObj.map (CK.int IntKind.i64) m])) (Tree.need (List.length ws ≤ (1000000 : Nat)) (Tree.ret [AObj.own [AV.s (SV.int IntKind.i64 ck), AV.s (SV.int IntKind.i64 nx), AV.s (SV.ro (Con.typ [CK.str, CK.rows [CK.str, CK.int IntKind.u8, CK.int IntKind.i64, CK.str], CK.rows [CK.str, CK.int IntKind.u8, CK.int IntKind.i64, CK.int IntKind.i64, CK.int IntKind.u8, CK.str, CK.str, CK.str, CK.bool, CK.rows [CK.str, CK.int IntKind.u8, CK.int IntKind.i64, CK.str], CK.strs], CK.rows [CK.int IntKind.i64, CK.int IntKind.i64, CK.str, CK.bool]] ps)), AV.s (SV.ro (Con.typ cI r)), AV.s (SV.ro (Con.typ cC cs)), AV.s (SV.ro (Con.typ cW ws))] (27 : Nat), AObj.own [AV.s (SV.int IntKind.i64 ck), AV.s (SV.int IntKind.i64 nx), AV.s (SV.ro (Con.typ [CK.str, CK.rows [CK.str, CK.int IntKind.u8, CK.int IntKind.i64, CK.str], CK.rows [CK.str, CK.int IntKind.u8, CK.int IntKind.i64, CK.int IntKind.i64, CK.int IntKind.u8, CK.str, CK.str, CK.str, CK.bool, CK.rows [CK.str, CK.int IntKind.u8, CK.int IntKind.i64, CK.str], CK.strs], CK.rows [CK.int IntKind.i64, CK.int IntKind.i64, CK.str, CK.bool]] ps)), AV.s (SV.ro (Con.typ cI r)), AV.s (SV.ro (Con.typ cC cs)), AV.vec (6 : Nat)] (27 : Nat), AObj.own [AV.mapv (4 : Nat)] (97 : Nat), AObj.dead, AObj.map (CK.int IntKind.i64) m, AObj.dead, AObj.vec (Con.typ cW (delF (pUw m) ws)) (93 : Nat)] (AV.agg [AV.s (SV.int IntKind.i64 ck), AV.s (SV.int IntKind.i64 nx), AV.s (SV.ro (Con.typ [CK.str, CK.rows [CK.str, CK.int IntKind.u8, CK.int IntKind.i64, CK.str], CK.rows [CK.str, CK.int IntKind.u8, CK.int IntKind.i64, CK.int IntKind.i64, CK.int IntKind.u8, CK.str, CK.str, CK.str, CK.bool, CK.rows [CK.str, CK.int IntKind.u8, CK.int IntKind.i64, CK.str], CK.strs], CK.rows [CK.int IntKind.i64, CK.int IntKind.i64, CK.str, CK.bool]] ps)), AV.s (SV.ro (Con.typ cI r)), AV.s (SV.ro (Con.typ cC cs)), AV.vec (6 : Nat)])))) := by kernel_rfl
/-! Clear's deletion of a number -/
abbrev fIn : FuncId := 73
abbrev fCl : FuncId := 62
abbrev inDi : List FuncId := [fIn, fCl]
def nsDi : List (Nat × Norm) := [((fIn + 1) * 100000 + 2, ⟨[], [0, 1, 7, 8, 19, 20], 2, []⟩), (5, ⟨[], [0, 1, 5, 6], 2, []⟩), (midKey + 12003, ⟨[], [41], 2, []⟩), (midKey + 3001, ⟨[], [13], 2, []⟩)]
theorem trDi (l : List Int) (id : Int) : run P tab0.sum Try.f61 nsDi (start Try.f61 [.vec 0, .fn fCl [.ptr 1 0]] [.vec (.ints .i64 l) 3, .own [avI id] 3]) inDi =
  Tree.at (Cfg.mk (sl (61 : Nat) [((0 : Nat), AV.vec (0 : Nat)), ((1 : Nat), AV.fn (62 : Nat) [AV.ptr (1 : Nat) (0 : Nat)]), ((7 : Nat), AV.s (SV.int IntKind.i64 (↑l.length : Int))), ((8 : Nat), AV.s (SV.int IntKind.i64 (0 : Int))), ((19 : Nat), AV.vec (0 : Nat)), ((20 : Nat), AV.fn (62 : Nat) [AV.ptr (1 : Nat) (0 : Nat)])]) [AObj.vec (Con.ints IntKind.i64 l) (3 : Nat), AObj.own [AV.s (SV.int IntKind.i64 id)] (3 : Nat)] (hd Try.f73 (2 : Nat)) (Stk.mk (some (73 : Nat)) false (0 : Nat) [inCall Try.f61 none (1 : Nat) (2 : Nat) false (0 : Nat)] (0 : Nat))) := by kernel_rfl
noncomputable def cDi1 (id : Int) (r : List Int) (i : Int) : Cfg := ⟨sl 61 [(0, .vec 0), (1, .fn fCl [.ptr 1 0]), (7, avI (r.length : Int)), (8, avI i), (19, .vec 0), (20, .fn fCl [.ptr 1 0])], [.vec (.ints .i64 r) 3, .own [avI id] 3], hd Try.f73 2, ⟨some fIn, false, 0, [inCall Try.f61 none 1 2 false 0], 0⟩⟩
theorem loopDi1 (id : Int) (r : List Int) (i : Int) : run P tab0.sum Try.f61 nsDi (cDi1 id r i) inDi =
  Tree.ite (decide (i < (↑r.length : Int))) (Tree.need ((0 : Int) ≤ i) (Tree.need (i < (↑r.length : Int)) (Tree.ite (r.getD i.toNat (0 : Int) == id) (Tree.ite (i == (-1 : Int)) (Tree.at (Cfg.mk (sl (42 : Nat) [((13 : Nat), AV.vec (0 : Nat))]) [AObj.vec (Con.ints IntKind.i64 r) (3 : Nat), AObj.own [AV.s (SV.int IntKind.i64 id)] (3 : Nat)] (cal Try.f61 (3 : Nat) (1 : Nat)) (Stk.mk none false (0 : Nat) [] (3 : Nat)))) (Tree.need (inI64 (i + (1 : Int))) (Tree.at (Cfg.mk (sl (42 : Nat) [((0 : Nat), AV.vec (0 : Nat)), ((1 : Nat), AV.fn (62 : Nat) [AV.ptr (1 : Nat) (0 : Nat)]), ((5 : Nat), AV.s (SV.int IntKind.i64 i)), ((6 : Nat), AV.s (SV.int IntKind.i64 (i + (1 : Int))))]) [AObj.vec (Con.ints IntKind.i64 r) (3 : Nat), AObj.own [AV.s (SV.int IntKind.i64 id)] (3 : Nat)] (hd Try.f61 (5 : Nat)) (Stk.mk none false (0 : Nat) [] (0 : Nat)))))) (Tree.need (inI64 (i + (1 : Int))) (Tree.at (Cfg.mk (sl (61 : Nat) [((0 : Nat), AV.vec (0 : Nat)), ((1 : Nat), AV.fn (62 : Nat) [AV.ptr (1 : Nat) (0 : Nat)]), ((7 : Nat), AV.s (SV.int IntKind.i64 (↑r.length : Int))), ((8 : Nat), AV.s (SV.int IntKind.i64 (i + (1 : Int)))), ((19 : Nat), AV.vec (0 : Nat)), ((20 : Nat), AV.fn (62 : Nat) [AV.ptr (1 : Nat) (0 : Nat)])]) [AObj.vec (Con.ints IntKind.i64 r) (3 : Nat), AObj.own [AV.s (SV.int IntKind.i64 id)] (3 : Nat)] (hd Try.f73 (2 : Nat)) (Stk.mk (some (73 : Nat)) false (0 : Nat) [inCall Try.f61 none (1 : Nat) (2 : Nat) false (0 : Nat)] (0 : Nat)))))))) (Tree.at (Cfg.mk (sl (42 : Nat) [((13 : Nat), AV.vec (0 : Nat))]) [AObj.vec (Con.ints IntKind.i64 r) (3 : Nat), AObj.own [AV.s (SV.int IntKind.i64 id)] (3 : Nat)] (cal Try.f61 (3 : Nat) (1 : Nat)) (Stk.mk none false (0 : Nat) [] (3 : Nat)))) := by kernel_rfl
noncomputable def cDi2 (id : Int) (r : List Int) (i j : Int) : Cfg := ⟨sl 42 [(0, .vec 0), (1, .fn fCl [.ptr 1 0]), (5, avI i), (6, avI j)], [.vec (.ints .i64 r) 3, .own [avI id] 3], hd Try.f61 5, {}⟩
theorem loopDi2 (id : Int) (r : List Int) (i j : Int) : run P tab0.sum Try.f61 nsDi (cDi2 id r i j) inDi =
  Tree.ite (decide (j < (↑r.length : Int))) (Tree.need ((0 : Int) ≤ j) (Tree.need (j < (↑r.length : Int)) (Tree.ite (!r.getD j.toNat (0 : Int) == id) (Tree.need ((0 : Int) ≤ i) (Tree.need (i < (↑r.length : Int)) (Tree.need (inI64 (i + (1 : Int))) (Tree.need (inI64 (j + (1 : Int))) (Tree.at (Cfg.mk (sl (42 : Nat) [((0 : Nat), AV.vec (0 : Nat)), ((1 : Nat), AV.fn (62 : Nat) [AV.ptr (1 : Nat) (0 : Nat)]), ((5 : Nat), AV.s (SV.int IntKind.i64 (i + (1 : Int)))), ((6 : Nat), AV.s (SV.int IntKind.i64 (j + (1 : Int))))]) [AObj.vec (Con.ints IntKind.i64 (r.set i.toNat (r.getD j.toNat (0 : Int)))) (3 : Nat), AObj.own [AV.s (SV.int IntKind.i64 id)] (3 : Nat)] (hd Try.f61 (5 : Nat)) (Stk.mk none false (0 : Nat) [] (0 : Nat)))))))) (Tree.need (inI64 (j + (1 : Int))) (Tree.at (Cfg.mk (sl (42 : Nat) [((0 : Nat), AV.vec (0 : Nat)), ((1 : Nat), AV.fn (62 : Nat) [AV.ptr (1 : Nat) (0 : Nat)]), ((5 : Nat), AV.s (SV.int IntKind.i64 i)), ((6 : Nat), AV.s (SV.int IntKind.i64 (j + (1 : Int))))]) [AObj.vec (Con.ints IntKind.i64 r) (3 : Nat), AObj.own [AV.s (SV.int IntKind.i64 id)] (3 : Nat)] (hd Try.f61 (5 : Nat)) (Stk.mk none false (0 : Nat) [] (0 : Nat)))))))) (Tree.need ((0 : Int) ≤ i) (Tree.need (i ≤ (↑r.length : Int)) (Tree.need ((↑(0 : Nat) : Int) + (↑r.length : Int) ≤ (↑r.length : Int)) (Tree.need ((0 : Int) ≤ (0 : Int)) (Tree.need ((0 : Int) ≤ i) (Tree.need ((↑(0 : Nat) : Int) + i ≤ (↑(over r ((0 : Nat) + i.toNat) ((↑r.length : Int).toNat - i.toNat) (List.replicate ((↑r.length : Int).toNat - i.toNat) (0 : Int))).length : Int)) (Tree.at (Cfg.mk (sl (42 : Nat) [((41 : Nat), AV.part (0 : Nat) (0 : Nat) (i.toNat - Int.toNat (0 : Int)))]) [AObj.vec (Con.ints IntKind.i64 (over r ((0 : Nat) + i.toNat) ((↑r.length : Int).toNat - i.toNat) (List.replicate ((↑r.length : Int).toNat - i.toNat) (0 : Int)))) (3 : Nat), AObj.own [AV.s (SV.int IntKind.i64 id)] (3 : Nat)] (cal Try.f61 (12 : Nat) (3 : Nat)) (Stk.mk none false (0 : Nat) [] (12 : Nat)))))))))) := by kernel_rfl
noncomputable def cDiE (id : Int) (r : List Int) : Cfg := ⟨sl 42 [(41, .vec 2)], [.dead, .own [avI id] 3, .vec (.ints .i64 r) 3], cal Try.f61 12 3, kk 12⟩
theorem endDi (id : Int) (r : List Int) : run P tab0.sum Try.f61 nsDi (cDiE id r) inDi =
  Tree.ret [AObj.dead, AObj.own [AV.s (SV.int IntKind.i64 id)] (3 : Nat), AObj.vec (Con.ints IntKind.i64 r) (3 : Nat)] (AV.vec (2 : Nat)) := by kernel_rfl
noncomputable def cDiF (id : Int) (r : List Int) : Cfg := ⟨sl 42 [(13, .vec 2)], [.dead, .own [avI id] 3, .vec (.ints .i64 r) 3], cal Try.f61 3 1, kk 3⟩
theorem endDiF (id : Int) (r : List Int) : run P tab0.sum Try.f61 nsDi (cDiF id r) inDi =
  Tree.ret [AObj.dead, AObj.own [AV.s (SV.int IntKind.i64 id)] (3 : Nat), AObj.vec (Con.ints IntKind.i64 r) (3 : Nat)] (AV.vec (2 : Nat)) := by kernel_rfl
abbrev sDi : Spec (List Int × Int) := ⟨fun _ => [.vec 0, .fn fCl [.ptr 1 0]], fun (l, id) => [.vec (.ints .i64 l) 3, .own [avI id] 3], fun (l, _) => [l.length ≤ 10000000], fun (l, id) => [.dead, .own [avI id] 3, .vec (.ints .i64 (delF (fun x => x == id) l)) 3], fun _ => .vec 2⟩
def mDi : List AV → RM ((List Int × Int) × List Nat)
  | [.vec id, .fn _ [.ptr k 0]] => .look id fun o => match o with
    | some (.vec (.ints .i64 zs) _) => .look k fun o => match o with
      | some (.own [a] _) => match avInt .i64 a with
        | some n => .ret ((zs, n), [id, k])
        | _ => .fail "no number"
      | _ => .fail "no number"
    | _ => .fail "no row"
  | _ => .fail "no row"
abbrev sumDi := sumS sDi mDi
/-! Take, Clear, Break, Gone -/
abbrev preS : AL [tSt] → List Prop := fun ((_, _, _, is, cs, ws, ()), ()) => [(is : Is).length ≤ 1000000, (cs : Cs).length ≤ 1000000, (ws : Ws).length ≤ 1000000]
def pIt (l : List Int) (x : CL cI) : Bool := l.contains (iI x)
def pWa (l : List Int) (x : CL cW) : Bool := l.contains (wT x)
abbrev wo (ck nx : Int) (ps : Ps) (is : Is) (cs : Cs) (ws : Ws) (l q : List Int) : AL [tSt] := ((ck, nx, ps, delF (pIt l) is, delF (pDr l) cs, delF (pWa q) ws, ()), ())
abbrev sumWo := sumR [tSt, tNs] [tSr] (fun (s, l, ()) => ((l : List Int).length ≤ 2000000) :: preS (s, ())) (fun ((ck, nx, ps, is, cs, ws, ()), l, ()) => wo ck nx ps is cs ws l l)
def gI (is : Is) (id : Int) : Int := iI (getI is id)
def gU (is : Is) (id : Int) : Int := iU (getI is id)
def gS (is : Is) (id : Int) : Int := iS (getI is id)
def gP (is : Is) (id : Int) : ByteArray := iP (getI is id)
def gN (is : Is) (id : Int) : Int := iN (getI is id)
def gF (is : Is) (id : Int) : Int := iF (getI is id)
def gW (is : Is) (id : Int) : Int := iW (getI is id)
def gC (is : Is) (id : Int) : ByteArray := iC (getI is id)
abbrev getT (is : Is) (id : Int) : CL cI := (gI is id, gU is id, gS is id, gP is id, gN is id, gF is id, gW is id, gC is id, ())
abbrev sumFi := sumOf [tSt, tInt] [tIt, tBool] (fun _ => []) (fun ((_, _, _, is, _, _, ()), id, ()) => (getT is id, hasI is id, ()))
abbrev sumBe := sumOf [tSt, tInt] [tNs] (fun ((_, _, _, is, _, _, ()), _, ()) => [(is : Is).length ≤ 1000000]) (fun ((_, _, _, is, _, _, ()), id, ()) => (belowF (esOf is) id, ()))
def tabTa : Tab := [(14, sumFi), (28, sumBe), (57, sumWo)]
theorem trTa (ck nx : Int) (ps : Ps) (is : Is) (cs : Cs) (ws : Ws) (id : Int) : run P tabTa.sum Try.f25 [] (start Try.f25 [avSt ck nx ps is cs ws, avI id] []) =
  Tree.ite (!hasI is id) (Tree.ret [AObj.own [AV.s (SV.int IntKind.i64 ck), AV.s (SV.int IntKind.i64 nx), AV.s (SV.ro (Con.typ [CK.str, CK.rows [CK.str, CK.int IntKind.u8, CK.int IntKind.i64, CK.str], CK.rows [CK.str, CK.int IntKind.u8, CK.int IntKind.i64, CK.int IntKind.i64, CK.int IntKind.u8, CK.str, CK.str, CK.str, CK.bool, CK.rows [CK.str, CK.int IntKind.u8, CK.int IntKind.i64, CK.str], CK.strs], CK.rows [CK.int IntKind.i64, CK.int IntKind.i64, CK.str, CK.bool]] ps)), AV.s (SV.ro (Con.typ cI is)), AV.s (SV.ro (Con.typ cC cs)), AV.s (SV.ro (Con.typ cW ws))] (27 : Nat), AObj.own [AV.s (SV.int IntKind.i64 ck), AV.s (SV.int IntKind.i64 nx), AV.s (SV.ro (Con.typ [CK.str, CK.rows [CK.str, CK.int IntKind.u8, CK.int IntKind.i64, CK.str], CK.rows [CK.str, CK.int IntKind.u8, CK.int IntKind.i64, CK.int IntKind.i64, CK.int IntKind.u8, CK.str, CK.str, CK.str, CK.bool, CK.rows [CK.str, CK.int IntKind.u8, CK.int IntKind.i64, CK.str], CK.strs], CK.rows [CK.int IntKind.i64, CK.int IntKind.i64, CK.str, CK.bool]] ps)), AV.s (SV.ro (Con.typ cI is)), AV.s (SV.ro (Con.typ cC cs)), AV.s (SV.ro (Con.typ cW ws))] (27 : Nat), AObj.own [AV.s (SV.int IntKind.i64 (gI is id)), AV.s (SV.int IntKind.i64 (gU is id)), AV.s (SV.int IntKind.u8 (gS is id)), AV.s (SV.str (gP is id)), AV.s (SV.int IntKind.i64 (gN is id)), AV.s (SV.int IntKind.i64 (gF is id)), AV.s (SV.int IntKind.u8 (gW is id)), AV.s (SV.str (gC is id))] (43 : Nat)] (AV.agg [AV.s (SV.int IntKind.i64 ck), AV.s (SV.int IntKind.i64 nx), AV.s (SV.ro (Con.typ [CK.str, CK.rows [CK.str, CK.int IntKind.u8, CK.int IntKind.i64, CK.str], CK.rows [CK.str, CK.int IntKind.u8, CK.int IntKind.i64, CK.int IntKind.i64, CK.int IntKind.u8, CK.str, CK.str, CK.str, CK.bool, CK.rows [CK.str, CK.int IntKind.u8, CK.int IntKind.i64, CK.str], CK.strs], CK.rows [CK.int IntKind.i64, CK.int IntKind.i64, CK.str, CK.bool]] ps)), AV.s (SV.ro (Con.typ cI is)), AV.s (SV.ro (Con.typ cC cs)), AV.s (SV.ro (Con.typ cW ws))]))
  (Tree.need (List.length is ≤ (1000000 : Nat)) (Tree.need (((belowF (esOf is) id).length + (1 : Nat)) * (8 : Nat) ≤ (140737488355328 : Nat)) (Tree.need ((belowF (esOf is) id ++ [id]).length ≤ (2000000 : Nat)) (Tree.need (List.length is ≤ (1000000 : Nat)) (Tree.need (List.length cs ≤ (1000000 : Nat)) (Tree.need (List.length ws ≤ (1000000 : Nat)) (Tree.ret [AObj.own [AV.s (SV.int IntKind.i64 ck), AV.s (SV.int IntKind.i64 nx), AV.s (SV.ro (Con.typ [CK.str, CK.rows [CK.str, CK.int IntKind.u8, CK.int IntKind.i64, CK.str], CK.rows [CK.str, CK.int IntKind.u8, CK.int IntKind.i64, CK.int IntKind.i64, CK.int IntKind.u8, CK.str, CK.str, CK.str, CK.bool, CK.rows [CK.str, CK.int IntKind.u8, CK.int IntKind.i64, CK.str], CK.strs], CK.rows [CK.int IntKind.i64, CK.int IntKind.i64, CK.str, CK.bool]] ps)), AV.s (SV.ro (Con.typ cI is)), AV.s (SV.ro (Con.typ cC cs)), AV.s (SV.ro (Con.typ cW ws))] (27 : Nat), AObj.own [AV.s (SV.int IntKind.i64 ck), AV.s (SV.int IntKind.i64 nx), AV.s (SV.ro (Con.typ [CK.str, CK.rows [CK.str, CK.int IntKind.u8, CK.int IntKind.i64, CK.str], CK.rows [CK.str, CK.int IntKind.u8, CK.int IntKind.i64, CK.int IntKind.i64, CK.int IntKind.u8, CK.str, CK.str, CK.str, CK.bool, CK.rows [CK.str, CK.int IntKind.u8, CK.int IntKind.i64, CK.str], CK.strs], CK.rows [CK.int IntKind.i64, CK.int IntKind.i64, CK.str, CK.bool]] ps)), AV.s (SV.ro (Con.typ cI (delF (pIt (belowF (esOf is) id ++ [id])) is))), AV.s (SV.ro (Con.typ cC (delF (pDr (belowF (esOf is) id ++ [id])) cs))), AV.s (SV.ro (Con.typ cW (delF (pWa (belowF (esOf is) id ++ [id])) ws)))] (27 : Nat), AObj.own [AV.s (SV.int IntKind.i64 (gI is id)), AV.s (SV.int IntKind.i64 (gU is id)), AV.s (SV.int IntKind.u8 (gS is id)), AV.s (SV.str (gP is id)), AV.s (SV.int IntKind.i64 (gN is id)), AV.s (SV.int IntKind.i64 (gF is id)), AV.s (SV.int IntKind.u8 (gW is id)), AV.s (SV.str (gC is id))] (43 : Nat), AObj.dead, AObj.vec (Con.ints IntKind.i64 [id]) (3 : Nat), AObj.dead] (AV.agg [AV.s (SV.int IntKind.i64 ck), AV.s (SV.int IntKind.i64 nx), AV.s (SV.ro (Con.typ [CK.str, CK.rows [CK.str, CK.int IntKind.u8, CK.int IntKind.i64, CK.str], CK.rows [CK.str, CK.int IntKind.u8, CK.int IntKind.i64, CK.int IntKind.i64, CK.int IntKind.u8, CK.str, CK.str, CK.str, CK.bool, CK.rows [CK.str, CK.int IntKind.u8, CK.int IntKind.i64, CK.str], CK.strs], CK.rows [CK.int IntKind.i64, CK.int IntKind.i64, CK.str, CK.bool]] ps)), AV.s (SV.ro (Con.typ cI (delF (pIt (belowF (esOf is) id ++ [id])) is))), AV.s (SV.ro (Con.typ cC (delF (pDr (belowF (esOf is) id ++ [id])) cs))), AV.s (SV.ro (Con.typ cW (delF (pWa (belowF (esOf is) id ++ [id])) ws)))])))))))) := by kernel_rfl
def tabCl : Tab := [(14, sumFi), (28, sumBe), (61, sumDi), (57, sumWo)]
theorem trCl (ck nx : Int) (ps : Ps) (is : Is) (cs : Cs) (ws : Ws) (id : Int) : run P tabCl.sum Try.f34 [] (start Try.f34 [avSt ck nx ps is cs ws, avI id] []) =
  Tree.ite (!hasI is id) (Tree.ret [AObj.own [AV.s (SV.int IntKind.i64 ck), AV.s (SV.int IntKind.i64 nx), AV.s (SV.ro (Con.typ [CK.str, CK.rows [CK.str, CK.int IntKind.u8, CK.int IntKind.i64, CK.str], CK.rows [CK.str, CK.int IntKind.u8, CK.int IntKind.i64, CK.int IntKind.i64, CK.int IntKind.u8, CK.str, CK.str, CK.str, CK.bool, CK.rows [CK.str, CK.int IntKind.u8, CK.int IntKind.i64, CK.str], CK.strs], CK.rows [CK.int IntKind.i64, CK.int IntKind.i64, CK.str, CK.bool]] ps)), AV.s (SV.ro (Con.typ cI is)), AV.s (SV.ro (Con.typ cC cs)), AV.s (SV.ro (Con.typ cW ws))] (27 : Nat), AObj.own [AV.s (SV.int IntKind.i64 id)] (3 : Nat), AObj.own [AV.s (SV.int IntKind.i64 ck), AV.s (SV.int IntKind.i64 nx), AV.s (SV.ro (Con.typ [CK.str, CK.rows [CK.str, CK.int IntKind.u8, CK.int IntKind.i64, CK.str], CK.rows [CK.str, CK.int IntKind.u8, CK.int IntKind.i64, CK.int IntKind.i64, CK.int IntKind.u8, CK.str, CK.str, CK.str, CK.bool, CK.rows [CK.str, CK.int IntKind.u8, CK.int IntKind.i64, CK.str], CK.strs], CK.rows [CK.int IntKind.i64, CK.int IntKind.i64, CK.str, CK.bool]] ps)), AV.s (SV.ro (Con.typ cI is)), AV.s (SV.ro (Con.typ cC cs)), AV.s (SV.ro (Con.typ cW ws))] (27 : Nat), AObj.own [AV.s (SV.int IntKind.i64 (gI is id)), AV.s (SV.int IntKind.i64 (gU is id)), AV.s (SV.int IntKind.u8 (gS is id)), AV.s (SV.str (gP is id)), AV.s (SV.int IntKind.i64 (gN is id)), AV.s (SV.int IntKind.i64 (gF is id)), AV.s (SV.int IntKind.u8 (gW is id)), AV.s (SV.str (gC is id))] (43 : Nat)] (AV.agg [AV.s (SV.int IntKind.i64 ck), AV.s (SV.int IntKind.i64 nx), AV.s (SV.ro (Con.typ [CK.str, CK.rows [CK.str, CK.int IntKind.u8, CK.int IntKind.i64, CK.str], CK.rows [CK.str, CK.int IntKind.u8, CK.int IntKind.i64, CK.int IntKind.i64, CK.int IntKind.u8, CK.str, CK.str, CK.str, CK.bool, CK.rows [CK.str, CK.int IntKind.u8, CK.int IntKind.i64, CK.str], CK.strs], CK.rows [CK.int IntKind.i64, CK.int IntKind.i64, CK.str, CK.bool]] ps)), AV.s (SV.ro (Con.typ cI is)), AV.s (SV.ro (Con.typ cC cs)), AV.s (SV.ro (Con.typ cW ws))]))
  (Tree.need (List.length is ≤ (1000000 : Nat)) (Tree.need (Slf (some [AV.vec (0 : Nat), AV.fn (62 : Nat) [AV.ptr (1 : Nat) (0 : Nat)]])) (Tree.need (Slf (some [AObj.vec (Con.ints IntKind.i64 (belowF (esOf is) id)) (3 : Nat), AObj.own [AV.s (SV.int IntKind.i64 id)] (3 : Nat)])) (Tree.need ((belowF (esOf is) id).length ≤ (10000000 : Nat)) (Tree.need ((delF (fun (x : Int) => x == id) (belowF (esOf is) id)).length ≤ (2000000 : Nat)) (Tree.need (List.length is ≤ (1000000 : Nat)) (Tree.need (List.length cs ≤ (1000000 : Nat)) (Tree.need (List.length ws ≤ (1000000 : Nat)) (Tree.ret [AObj.own [AV.s (SV.int IntKind.i64 ck), AV.s (SV.int IntKind.i64 nx), AV.s (SV.ro (Con.typ [CK.str, CK.rows [CK.str, CK.int IntKind.u8, CK.int IntKind.i64, CK.str], CK.rows [CK.str, CK.int IntKind.u8, CK.int IntKind.i64, CK.int IntKind.i64, CK.int IntKind.u8, CK.str, CK.str, CK.str, CK.bool, CK.rows [CK.str, CK.int IntKind.u8, CK.int IntKind.i64, CK.str], CK.strs], CK.rows [CK.int IntKind.i64, CK.int IntKind.i64, CK.str, CK.bool]] ps)), AV.s (SV.ro (Con.typ cI is)), AV.s (SV.ro (Con.typ cC cs)), AV.s (SV.ro (Con.typ cW ws))] (27 : Nat), AObj.own [AV.s (SV.int IntKind.i64 id)] (3 : Nat), AObj.own [AV.s (SV.int IntKind.i64 ck), AV.s (SV.int IntKind.i64 nx), AV.s (SV.ro (Con.typ [CK.str, CK.rows [CK.str, CK.int IntKind.u8, CK.int IntKind.i64, CK.str], CK.rows [CK.str, CK.int IntKind.u8, CK.int IntKind.i64, CK.int IntKind.i64, CK.int IntKind.u8, CK.str, CK.str, CK.str, CK.bool, CK.rows [CK.str, CK.int IntKind.u8, CK.int IntKind.i64, CK.str], CK.strs], CK.rows [CK.int IntKind.i64, CK.int IntKind.i64, CK.str, CK.bool]] ps)), AV.s (SV.ro (Con.typ cI (delF (pIt (delF (fun (x : Int) => x == id) (belowF (esOf is) id))) is))), AV.s (SV.ro (Con.typ cC (delF (pDr (delF (fun (x : Int) => x == id) (belowF (esOf is) id))) cs))), AV.s (SV.ro (Con.typ cW (delF (pWa (delF (fun (x : Int) => x == id) (belowF (esOf is) id))) ws)))] (27 : Nat), AObj.own [AV.s (SV.int IntKind.i64 (gI is id)), AV.s (SV.int IntKind.i64 (gU is id)), AV.s (SV.int IntKind.u8 (gS is id)), AV.s (SV.str (gP is id)), AV.s (SV.int IntKind.i64 (gN is id)), AV.s (SV.int IntKind.i64 (gF is id)), AV.s (SV.int IntKind.u8 (gW is id)), AV.s (SV.str (gC is id))] (43 : Nat), AObj.dead, AObj.dead] (AV.agg [AV.s (SV.int IntKind.i64 ck), AV.s (SV.int IntKind.i64 nx), AV.s (SV.ro (Con.typ [CK.str, CK.rows [CK.str, CK.int IntKind.u8, CK.int IntKind.i64, CK.str], CK.rows [CK.str, CK.int IntKind.u8, CK.int IntKind.i64, CK.int IntKind.i64, CK.int IntKind.u8, CK.str, CK.str, CK.str, CK.bool, CK.rows [CK.str, CK.int IntKind.u8, CK.int IntKind.i64, CK.str], CK.strs], CK.rows [CK.int IntKind.i64, CK.int IntKind.i64, CK.str, CK.bool]] ps)), AV.s (SV.ro (Con.typ cI (delF (pIt (delF (fun (x : Int) => x == id) (belowF (esOf is) id))) is))), AV.s (SV.ro (Con.typ cC (delF (pDr (delF (fun (x : Int) => x == id) (belowF (esOf is) id))) cs))), AV.s (SV.ro (Con.typ cW (delF (pWa (delF (fun (x : Int) => x == id) (belowF (esOf is) id))) ws)))])))))))))) := by kernel_rfl
abbrev eff (ck nx : Int) (ps : Ps) (is : Is) (cs : Cs) (ws : Ws) : AL [tSt] := ((ck, nx, ps, is, cs, ws, ()), ())
def takeL (is : Is) (id : Int) : List Int := if hasI is id = true then belowF (esOf is) id ++ [id] else []
def clearL (is : Is) (id : Int) : List Int := if hasI is id = true then delF (fun x => x == id) (belowF (esOf is) id) else []
def breakL (is : Is) (id : Int) : List Int := if hasI is id = true then clearL is id ++ [id] else []
abbrev sumTa := sumR [tSt, tInt] [tSr] (fun (s, _, ()) => preS (s, ())) (fun ((ck, nx, ps, is, cs, ws, ()), id, ()) => wo ck nx ps is cs ws (takeL is id) (takeL is id))
abbrev sumCl := sumR [tSt, tInt] [tSr] (fun (s, _, ()) => preS (s, ())) (fun ((ck, nx, ps, is, cs, ws, ()), id, ()) => wo ck nx ps is cs ws (clearL is id) (clearL is id))
abbrev sumBr := sumR [tSt, tInt] [tSr] (fun (s, _, ()) => preS (s, ())) (fun ((ck, nx, ps, is, cs, ws, ()), id, ()) => wo ck nx ps is cs ws (clearL is id) (breakL is id))
def tabBr : Tab := [(14, sumFi), (34, sumCl), (63, sumUw)]
theorem trBr (ck nx : Int) (ps : Ps) (is : Is) (cs : Cs) (ws : Ws) (id : Int) : run P tabBr.sum Try.f36 [] (start Try.f36 [avSt ck nx ps is cs ws, avI id] []) =
  Tree.ite (!hasI is id) (Tree.ret [AObj.own [AV.s (SV.int IntKind.i64 ck), AV.s (SV.int IntKind.i64 nx), AV.s (SV.ro (Con.typ [CK.str, CK.rows [CK.str, CK.int IntKind.u8, CK.int IntKind.i64, CK.str], CK.rows [CK.str, CK.int IntKind.u8, CK.int IntKind.i64, CK.int IntKind.i64, CK.int IntKind.u8, CK.str, CK.str, CK.str, CK.bool, CK.rows [CK.str, CK.int IntKind.u8, CK.int IntKind.i64, CK.str], CK.strs], CK.rows [CK.int IntKind.i64, CK.int IntKind.i64, CK.str, CK.bool]] ps)), AV.s (SV.ro (Con.typ cI is)), AV.s (SV.ro (Con.typ cC cs)), AV.s (SV.ro (Con.typ cW ws))] (27 : Nat), AObj.own [AV.s (SV.int IntKind.i64 ck), AV.s (SV.int IntKind.i64 nx), AV.s (SV.ro (Con.typ [CK.str, CK.rows [CK.str, CK.int IntKind.u8, CK.int IntKind.i64, CK.str], CK.rows [CK.str, CK.int IntKind.u8, CK.int IntKind.i64, CK.int IntKind.i64, CK.int IntKind.u8, CK.str, CK.str, CK.str, CK.bool, CK.rows [CK.str, CK.int IntKind.u8, CK.int IntKind.i64, CK.str], CK.strs], CK.rows [CK.int IntKind.i64, CK.int IntKind.i64, CK.str, CK.bool]] ps)), AV.s (SV.ro (Con.typ cI is)), AV.s (SV.ro (Con.typ cC cs)), AV.s (SV.ro (Con.typ cW ws))] (27 : Nat), AObj.own [AV.s (SV.int IntKind.i64 (gI is id)), AV.s (SV.int IntKind.i64 (gU is id)), AV.s (SV.int IntKind.u8 (gS is id)), AV.s (SV.str (gP is id)), AV.s (SV.int IntKind.i64 (gN is id)), AV.s (SV.int IntKind.i64 (gF is id)), AV.s (SV.int IntKind.u8 (gW is id)), AV.s (SV.str (gC is id))] (43 : Nat)] (AV.agg [AV.s (SV.int IntKind.i64 ck), AV.s (SV.int IntKind.i64 nx), AV.s (SV.ro (Con.typ [CK.str, CK.rows [CK.str, CK.int IntKind.u8, CK.int IntKind.i64, CK.str], CK.rows [CK.str, CK.int IntKind.u8, CK.int IntKind.i64, CK.int IntKind.i64, CK.int IntKind.u8, CK.str, CK.str, CK.str, CK.bool, CK.rows [CK.str, CK.int IntKind.u8, CK.int IntKind.i64, CK.str], CK.strs], CK.rows [CK.int IntKind.i64, CK.int IntKind.i64, CK.str, CK.bool]] ps)), AV.s (SV.ro (Con.typ cI is)), AV.s (SV.ro (Con.typ cC cs)), AV.s (SV.ro (Con.typ cW ws))]))
  (Tree.need (List.length is ≤ (1000000 : Nat)) (Tree.need (List.length cs ≤ (1000000 : Nat)) (Tree.need (List.length ws ≤ (1000000 : Nat)) (Tree.need (Slf (some [AV.agg [AV.s (SV.int IntKind.i64 ck), AV.s (SV.int IntKind.i64 nx), AV.s (SV.ro (Con.typ [CK.str, CK.rows [CK.str, CK.int IntKind.u8, CK.int IntKind.i64, CK.str], CK.rows [CK.str, CK.int IntKind.u8, CK.int IntKind.i64, CK.int IntKind.i64, CK.int IntKind.u8, CK.str, CK.str, CK.str, CK.bool, CK.rows [CK.str, CK.int IntKind.u8, CK.int IntKind.i64, CK.str], CK.strs], CK.rows [CK.int IntKind.i64, CK.int IntKind.i64, CK.str, CK.bool]] ps)), AV.s (SV.ro (Con.typ cI (delF (pIt (clearL is id)) is))), AV.s (SV.ro (Con.typ cC (delF (pDr (clearL is id)) cs))), AV.s (SV.ro (Con.typ cW (delF (pWa (clearL is id)) ws)))], AV.mapv (0 : Nat)])) (Tree.need (Slf (some [AObj.map (CK.int IntKind.i64) (mput [] id (1 : Int))])) (Tree.need ((delF (pWa (clearL is id)) ws).length ≤ (1000000 : Nat)) (Tree.ret [AObj.own [AV.s (SV.int IntKind.i64 ck), AV.s (SV.int IntKind.i64 nx), AV.s (SV.ro (Con.typ [CK.str, CK.rows [CK.str, CK.int IntKind.u8, CK.int IntKind.i64, CK.str], CK.rows [CK.str, CK.int IntKind.u8, CK.int IntKind.i64, CK.int IntKind.i64, CK.int IntKind.u8, CK.str, CK.str, CK.str, CK.bool, CK.rows [CK.str, CK.int IntKind.u8, CK.int IntKind.i64, CK.str], CK.strs], CK.rows [CK.int IntKind.i64, CK.int IntKind.i64, CK.str, CK.bool]] ps)), AV.s (SV.ro (Con.typ cI is)), AV.s (SV.ro (Con.typ cC cs)), AV.s (SV.ro (Con.typ cW ws))] (27 : Nat), AObj.own [AV.s (SV.int IntKind.i64 ck), AV.s (SV.int IntKind.i64 nx), AV.s (SV.ro (Con.typ [CK.str, CK.rows [CK.str, CK.int IntKind.u8, CK.int IntKind.i64, CK.str], CK.rows [CK.str, CK.int IntKind.u8, CK.int IntKind.i64, CK.int IntKind.i64, CK.int IntKind.u8, CK.str, CK.str, CK.str, CK.bool, CK.rows [CK.str, CK.int IntKind.u8, CK.int IntKind.i64, CK.str], CK.strs], CK.rows [CK.int IntKind.i64, CK.int IntKind.i64, CK.str, CK.bool]] ps)), AV.s (SV.ro (Con.typ cI (delF (pIt (clearL is id)) is))), AV.s (SV.ro (Con.typ cC (delF (pDr (clearL is id)) cs))), AV.vec (4 : Nat)] (27 : Nat), AObj.own [AV.s (SV.int IntKind.i64 (gI is id)), AV.s (SV.int IntKind.i64 (gU is id)), AV.s (SV.int IntKind.u8 (gS is id)), AV.s (SV.str (gP is id)), AV.s (SV.int IntKind.i64 (gN is id)), AV.s (SV.int IntKind.i64 (gF is id)), AV.s (SV.int IntKind.u8 (gW is id)), AV.s (SV.str (gC is id))] (43 : Nat), AObj.map (CK.int IntKind.i64) (mput [] id (1 : Int)), AObj.vec (Con.typ cW (delF (pUw (mput [] id (1 : Int))) (delF (pWa (clearL is id)) ws))) (93 : Nat)] (AV.agg [AV.s (SV.int IntKind.i64 ck), AV.s (SV.int IntKind.i64 nx), AV.s (SV.ro (Con.typ [CK.str, CK.rows [CK.str, CK.int IntKind.u8, CK.int IntKind.i64, CK.str], CK.rows [CK.str, CK.int IntKind.u8, CK.int IntKind.i64, CK.int IntKind.i64, CK.int IntKind.u8, CK.str, CK.str, CK.str, CK.bool, CK.rows [CK.str, CK.int IntKind.u8, CK.int IntKind.i64, CK.str], CK.strs], CK.rows [CK.int IntKind.i64, CK.int IntKind.i64, CK.str, CK.bool]] ps)), AV.s (SV.ro (Con.typ cI (delF (pIt (clearL is id)) is))), AV.s (SV.ro (Con.typ cC (delF (pDr (clearL is id)) cs))), AV.vec (4 : Nat)])))))))) := by kernel_rfl
def tabGo : Tab := [(14, sumFi), (59, sumSort), (60, sumCm)]
def nsGo : List (Nat × Norm) := [(3, ⟨[(5, .ints .i64 [], 3)], [3, 5, 11, 12, 13], 0, []⟩)]
theorem trGo (ck nx : Int) (ps : Ps) (is : Is) (cs : Cs) (ws : Ws) (ck' nx' : Int) (ps' : Ps) (is' : Is) (cs' : Cs) (ws' : Ws) : run P tabGo.sum Try.f27 nsGo (start Try.f27 [avSt ck nx ps is cs ws, avSt ck' nx' ps' is' cs' ws'] []) =
  Tree.at (Cfg.mk (sl (36 : Nat) [((3 : Nat), AV.ptr (0 : Nat) (0 : Nat)), ((5 : Nat), AV.vec (1 : Nat)), ((11 : Nat), AV.s (SV.ro (Con.typ cI is))), ((12 : Nat), AV.s (SV.int IntKind.i64 (↑(List.length is) : Int))), ((13 : Nat), AV.s (SV.int IntKind.i64 (0 : Int)))]) [AObj.own [AV.s (SV.int IntKind.i64 ck'), AV.s (SV.int IntKind.i64 nx'), AV.s (SV.ro (Con.typ [CK.str, CK.rows [CK.str, CK.int IntKind.u8, CK.int IntKind.i64, CK.str], CK.rows [CK.str, CK.int IntKind.u8, CK.int IntKind.i64, CK.int IntKind.i64, CK.int IntKind.u8, CK.str, CK.str, CK.str, CK.bool, CK.rows [CK.str, CK.int IntKind.u8, CK.int IntKind.i64, CK.str], CK.strs], CK.rows [CK.int IntKind.i64, CK.int IntKind.i64, CK.str, CK.bool]] ps')), AV.s (SV.ro (Con.typ cI is')), AV.s (SV.ro (Con.typ cC cs')), AV.s (SV.ro (Con.typ cW ws'))] (27 : Nat), AObj.vec (Con.ints IntKind.i64 []) (3 : Nat)] (hd Try.f27 (3 : Nat)) (Stk.mk none false (0 : Nat) [] (0 : Nat))) := by kernel_rfl
noncomputable def cGo (is : Is) (ck' nx' : Int) (ps' : Ps) (is' : Is) (cs' : Cs) (ws' : Ws) (acc : List Int) (i : Int) : Cfg := ⟨sl 36 [(3, .ptr 0 0), (5, .vec 1), (11, .s (.ro (.typ cI is))), (12, avI (is.length : Int)), (13, avI i)], [obSt ck' nx' ps' is' cs' ws', .vec (.ints .i64 acc) 3], hd Try.f27 3, {}⟩
theorem loopGo (is : Is) (ck' nx' : Int) (ps' : Ps) (is' : Is) (cs' : Cs) (ws' : Ws) (acc : List Int) (i : Int) : run P tabGo.sum Try.f27 nsGo (cGo is ck' nx' ps' is' cs' ws' acc i) =
  Tree.ite (decide (i < (↑(List.length is) : Int))) (Tree.need ((0 : Int) ≤ i) (Tree.need (i < (↑(List.length is) : Int)) (Tree.ite (!hasI is' (iI (el is i))) (Tree.need ((acc.length + (1 : Nat)) * (8 : Nat) ≤ (140737488355328 : Nat)) (Tree.need (inI64 (i + (1 : Int))) (Tree.at (Cfg.mk (sl (36 : Nat) [((3 : Nat), AV.ptr (0 : Nat) (0 : Nat)), ((5 : Nat), AV.vec (1 : Nat)), ((11 : Nat), AV.s (SV.ro (Con.typ cI is))), ((12 : Nat), AV.s (SV.int IntKind.i64 (↑(List.length is) : Int))), ((13 : Nat), AV.s (SV.int IntKind.i64 (i + (1 : Int))))]) [AObj.own [AV.s (SV.int IntKind.i64 ck'), AV.s (SV.int IntKind.i64 nx'), AV.s (SV.ro (Con.typ [CK.str, CK.rows [CK.str, CK.int IntKind.u8, CK.int IntKind.i64, CK.str], CK.rows [CK.str, CK.int IntKind.u8, CK.int IntKind.i64, CK.int IntKind.i64, CK.int IntKind.u8, CK.str, CK.str, CK.str, CK.bool, CK.rows [CK.str, CK.int IntKind.u8, CK.int IntKind.i64, CK.str], CK.strs], CK.rows [CK.int IntKind.i64, CK.int IntKind.i64, CK.str, CK.bool]] ps')), AV.s (SV.ro (Con.typ cI is')), AV.s (SV.ro (Con.typ cC cs')), AV.s (SV.ro (Con.typ cW ws'))] (27 : Nat), AObj.vec (Con.ints IntKind.i64 (acc ++ [iI (el is i)])) (3 : Nat)] (hd Try.f27 (3 : Nat)) (Stk.mk none false (0 : Nat) [] (0 : Nat)))))) (Tree.need (inI64 (i + (1 : Int))) (Tree.at (Cfg.mk (sl (36 : Nat) [((3 : Nat), AV.ptr (0 : Nat) (0 : Nat)), ((5 : Nat), AV.vec (1 : Nat)), ((11 : Nat), AV.s (SV.ro (Con.typ cI is))), ((12 : Nat), AV.s (SV.int IntKind.i64 (↑(List.length is) : Int))), ((13 : Nat), AV.s (SV.int IntKind.i64 (i + (1 : Int))))]) [AObj.own [AV.s (SV.int IntKind.i64 ck'), AV.s (SV.int IntKind.i64 nx'), AV.s (SV.ro (Con.typ [CK.str, CK.rows [CK.str, CK.int IntKind.u8, CK.int IntKind.i64, CK.str], CK.rows [CK.str, CK.int IntKind.u8, CK.int IntKind.i64, CK.int IntKind.i64, CK.int IntKind.u8, CK.str, CK.str, CK.str, CK.bool, CK.rows [CK.str, CK.int IntKind.u8, CK.int IntKind.i64, CK.str], CK.strs], CK.rows [CK.int IntKind.i64, CK.int IntKind.i64, CK.str, CK.bool]] ps')), AV.s (SV.ro (Con.typ cI is')), AV.s (SV.ro (Con.typ cC cs')), AV.s (SV.ro (Con.typ cW ws'))] (27 : Nat), AObj.vec (Con.ints IntKind.i64 acc) (3 : Nat)] (hd Try.f27 (3 : Nat)) (Stk.mk none false (0 : Nat) [] (0 : Nat)))))))) (Tree.need (Slf (some [AV.vec (0 : Nat)])) (Tree.need (Slf (some [AObj.vec (Con.ints IntKind.i64 acc) (3 : Nat)])) (Tree.need (acc.length ≤ (1000000 : Nat)) (Tree.need (Slf (some [AV.vec (0 : Nat)])) (Tree.need (Slf (some [AObj.vec (Con.ints IntKind.i64 (srtZ acc)) (3 : Nat)])) (Tree.need ((srtZ acc).length ≤ (1000000 : Nat)) (Tree.ret [AObj.own [AV.s (SV.int IntKind.i64 ck'), AV.s (SV.int IntKind.i64 nx'), AV.s (SV.ro (Con.typ [CK.str, CK.rows [CK.str, CK.int IntKind.u8, CK.int IntKind.i64, CK.str], CK.rows [CK.str, CK.int IntKind.u8, CK.int IntKind.i64, CK.int IntKind.i64, CK.int IntKind.u8, CK.str, CK.str, CK.str, CK.bool, CK.rows [CK.str, CK.int IntKind.u8, CK.int IntKind.i64, CK.str], CK.strs], CK.rows [CK.int IntKind.i64, CK.int IntKind.i64, CK.str, CK.bool]] ps')), AV.s (SV.ro (Con.typ cI is')), AV.s (SV.ro (Con.typ cC cs')), AV.s (SV.ro (Con.typ cW ws'))] (27 : Nat), AObj.dead, AObj.vec (Con.ints IntKind.i64 (cmpF (srtZ acc))) (3 : Nat)] (AV.vec (2 : Nat))))))))) := by kernel_rfl
end Ds

namespace Ds
open Go Go.Sx Go.Proofs Lf
theorem frz_safe {X : Ctx} {K : List AObj → AV → Prop} {f : FuncId} {tmps : List AV} {L : List AObj} {todo : List Item} {stk : Stk} (id : Nat) {c : Cfg}
    (e : (⟨(frzSt ⟨tmps, L⟩ id).tmps, (frzSt ⟨tmps, L⟩ id).H, todo, stk⟩ : Cfg) = c) (h : Safe P f X K c) : Safe P f X K ⟨tmps, L, todo, stk⟩ := by
  subst e
  intro G E ρ a w hG1 hG2 hr b t fs hw
  exact h G E ρ a w hG1 hG2 (hr.frz1 id) b t fs hw
theorem delF_len {α : Type} (p : α → Bool) (l : List α) : (delF p l).length ≤ l.length := List.length_filter_le _ _
theorem delF_congr {α : Type} {p q : α → Bool} (h : ∀ x, p x = q x) (l : List α) : delF p l = delF q l := by
  unfold delF
  rw [show p = q from funext h]
/-- what was counted -/
def Cnts (m : Mp) (l : List Int) : Prop := ∀ k, cnt m k = (l.count k : Int)
theorem cnts_put {m : Mp} {l : List Int} {k : Int} (h : Cnts m l) : Cnts (mput m k (cnt m k + 1)) (l ++ [k]) := by
  intro x
  unfold cnt at *
  rw [mget_put']
  by_cases hx : x = k
  · subst hx
    rw [if_pos rfl]
    have := h x
    unfold cnt at this
    show (mget m x).getD 0 + 1 = _
    rw [this, List.count_append]
    simp
  · rw [if_neg hx]
    have := h x
    unfold cnt at this
    rw [this, List.count_append, List.count_singleton]
    have : (k == x) = false := by simpa using Ne.symm hx
    rw [this]
    simp
theorem cnts_in {m : Mp} {l : List Int} (h : Cnts m l) (k : Int) : decide (cnt m k > 0) = l.contains k := by
  rw [h k, List.contains_eq_mem]
  congr 1
  rw [eq_iff_iff]
  rw [← List.count_pos_iff]
  omega
theorem cnts_one (id : Int) : Cnts (mput [] id 1) [id] := by
  intro x
  unfold cnt
  rw [mget_put', List.count_singleton]
  by_cases hx : x = id
  · subst hx; simp
  · rw [if_neg hx]
    have : (id == x) = false := by simpa using Ne.symm hx
    rw [this]; rfl
theorem tabWo_ok {Z : Glob} : tabWo.Ok P Z := Tab.Ok.cons drop_ok.sumR (Tab.Ok.cons (unw_ok.sum mUw) Tab.Ok.nil)
def pIm (m : Mp) (x : CL cI) : Bool := decide (cnt m (iI x) > 0)
theorem without_ok {Z : Glob} : FnOk P Z 57 [tSt, tNs] [tSr] (fun (s, l, ()) => ((l : List Int).length ≤ 2000000) :: preS (s, ())) (fun ((ck, nx, ps, is, cs, ws, ()), l, ()) => wo ck nx ps is cs ws l l) := by
  refine fnOk_of_safe Try.func57 (by kernel_rfl) (by kernel_rfl) ?_
  rintro ⟨⟨(ck : Int), (nx : Int), (ps : Ps), (is : Is), (cs : Cs), (ws : Ws), ⟨⟩⟩, (l : List Int), ⟨⟩⟩ _ ⟨(hl : l.length ≤ 2000000), (hi : is.length ≤ 1000000), (hc : cs.length ≤ 1000000), (hw : ws.length ≤ 1000000), _⟩ X hX hz
  show Safe P 57 X (Ends [tSr] (wo ck nx ps is cs ws l l)) _
  have rest : ∀ m : Mp, Cnts m l → Safe P 57 X (Ends [tSr] (wo ck nx ps is cs ws l l)) (cWo ck nx ps is (delF (pDr l) cs) ws m is) := by
    intro m hm
    have t1 : ∀ x : CL cI, (mget m (iI x)).getD (CK.int IntKind.i64).d > 0 → pIm m x = true := fun _ h => decide_eq_true h
    have t0 : ∀ x : CL cI, ¬ (mget m (iI x)).getD (CK.int IntKind.i64).d > 0 → pIm m x = false := fun _ h => decide_eq_false h
    have ei : delF (pIm m) is = delF (pIt l) is := delF_congr (fun x => cnts_in hm (iI x)) is
    have ew : delF (pUw m) ws = delF (pWa l) ws := delF_congr (fun x => cnts_in hm (wT x)) ws

    have fin : ∀ r : List (CL cI), r = delF (pIm m) is → Safe P 57 X (Ends [tSr] (wo ck nx ps is cs ws l l)) (cWoE ck nx ps is (delF (pDr l) cs) ws m r) := by
      intro r hr
      subst hr
      refine go hz hX tabWo_ok Try.func57 (endWo ck nx ps is (delF (pDr l) cs) ws m (delF (pIm m) is)) ⟨rfl, rfl, hw, ?_⟩
      rw [ei, ew]
      exact ends_eq _ rfl (by kernel_rfl)
    have loop2 : ∀ (n : Nat) (r : List (CL cI)) (i j : Nat), j + n = is.length → DInv (pIm m) is r i j → Safe P 57 X (Ends [tSr] (wo ck nx ps is cs ws l l)) (cWo2 ck nx ps is (delF (pDr l) cs) ws m r (i : Int) (j : Int)) := by
      intro n
      induction n with
      | zero =>
        intro r i j hj h
        have hlen := h.len
        have hij := h.ij
        refine go hz hX tabWo_ok Try.func57 (loopWo2 ck nx ps is (delF (pDr l) cs) ws m r i j) ⟨fun h => absurd (of_decide_eq_true h) (by omega), fun _ => ?_⟩
        rw [Int.toNat_natCast, Int.toNat_natCast]
        refine ⟨by omega, by omega, by omega, by omega, by omega, ?_, ?_⟩
        · rw [over_length _ _ (by omega) (by simp)]; omega
        · refine cut_safe (t := 27) (id := 3) rfl rfl ?_
          have e2 : conSub (.typ cI (over r (0 + i) (r.length - i) (List.replicate (r.length - i) (CL.d cI)))) 0 (0 + (i - Int.toNat 0)) = .typ cI (delF (pIm m) is) := by
            show Con.typ cI ((List.take (0 + (i - 0)) (over r (0 + i) (r.length - i) (List.replicate (r.length - i) (CL.d cI)))).drop 0) = _
            rw [List.drop_zero, Nat.zero_add, Nat.sub_zero, Nat.zero_add]
            unfold over
            rw [List.append_assoc, List.take_append_of_le_length (by rw [List.length_take]; omega), List.take_take, Nat.min_self, h.fin (by omega)]
          rw [e2]
          refine frz_safe 5 (c := cWoE ck nx ps is (delF (pDr l) cs) ws m (delF (pIm m) is)) (by kernel_rfl) ?_
          exact fin _ rfl
      | succ n ih =>
        intro r i j hj h
        have hlen := h.len
        have hij := h.ij
        have hlt : j < is.length := by omega
        refine go hz hX tabWo_ok Try.func57 (loopWo2 ck nx ps is (delF (pDr l) cs) ws m r i j) ?_
        rw [el_lt (show j < r.length by omega), h.at hlt]
        have skip := fun hp => ih r i (j + 1) (by omega) (h.skip hlt hp)
        have keep := fun hp => ih (r.set i is[j]) (i + 1) (j + 1) (by omega) (h.keep hlt hp)
        repeat' (with_reducible (first | refine h_eq ?_ | refine h_need ?_ ?_ | refine h_dec (fun _ => ?_) (fun _ => ?_) | refine h_beq (fun _ => ?_) (fun _ => ?_) | refine h_bne (fun _ => ?_) (fun _ => ?_) | refine h_tt ?_ | refine h_ff ?_ | refine h_not ?_ | refine h_ite (fun _ => ?_) (fun _ => ?_) | refine h_both (fun _ => ?_) (fun _ => ?_) | refine h_ret ?_ | refine h_at ?_))
        all_goals first | omega | exact ⟨by omega, by omega⟩ | exact skip (by assumption) | exact keep (by assumption) | exact skip (t1 _ (by assumption)) | exact keep (t0 _ (by assumption))
    have none_ : (∀ x ∈ is, (pIm m) x = false) → Safe P 57 X (Ends [tSr] (wo ck nx ps is cs ws l l)) (cWoV ck nx ps is (delF (pDr l) cs) ws m is) := by
      intro h
      refine vec_cut_safe (t := 27) (id := 3) rfl rfl (c' := .typ cI is) ?_ ?_
      · show Con.typ cI ((List.take (0 + is.length) is).drop 0) = _
        rw [List.drop_zero, Nat.zero_add, List.take_length]
      · refine frz_safe 5 (c := cWoE ck nx ps is (delF (pDr l) cs) ws m is) (by kernel_rfl) ?_
        exact fin _ (delF_all h).symm
    have loop1 : ∀ (n i : Nat), i + n = is.length → (∀ k (hk : k < i) (h2 : k < is.length), (pIm m) is[k] = false) → Safe P 57 X (Ends [tSr] (wo ck nx ps is cs ws l l)) (cWo1 ck nx ps is (delF (pDr l) cs) ws m is (i : Int)) := by
      intro n
      induction n with
      | zero =>
        intro i hi hb
        refine go hz hX tabWo_ok Try.func57 (loopWo1 ck nx ps is (delF (pDr l) cs) ws m is i) ⟨fun h => absurd (of_decide_eq_true h) (by omega), fun _ => ?_⟩
        refine none_ fun x hx => ?_
        obtain ⟨k, hk, rfl⟩ := List.mem_iff_getElem.1 hx
        exact hb k (by omega) hk
      | succ n ih =>
        intro i hi hb
        have hlt : i < is.length := by omega
        refine go hz hX tabWo_ok Try.func57 (loopWo1 ck nx ps is (delF (pDr l) cs) ws m is i) ?_
        rw [el_lt hlt]
        have next := fun h : (pIm m) is[i] = false => ih (i + 1) (by omega) fun k h1 h2 => by
          by_cases e : k = i
          · subst e; exact h
          · exact hb k (by omega) h2
        have hit := fun h : (pIm m) is[i] = true => loop2 (is.length - (i + 1)) is i (i + 1) (by omega) (DInv.start hlt h fun k hk => hb k hk (by omega))
        repeat' (with_reducible (first | refine h_eq ?_ | refine h_need ?_ ?_ | refine h_dec (fun _ => ?_) (fun _ => ?_) | refine h_beq (fun _ => ?_) (fun _ => ?_) | refine h_bne (fun _ => ?_) (fun _ => ?_) | refine h_tt ?_ | refine h_ff ?_ | refine h_not ?_ | refine h_ite (fun _ => ?_) (fun _ => ?_) | refine h_both (fun _ => ?_) (fun _ => ?_) | refine h_ret ?_ | refine h_at ?_))
        all_goals first | omega | exact ⟨by omega, by omega⟩ | exact next (by assumption) | exact hit (by assumption) | exact hit (t1 _ (by assumption)) | exact next (t0 _ (by assumption))
    exact go hz hX tabWo_ok Try.func57 (midWo ck nx ps is (delF (pDr l) cs) ws m is) (loop1 is.length 0 (by omega) fun k hk => absurd hk (Nat.not_lt_zero _))

  have loop : ∀ (n k : Nat) (m : Mp), k + n = l.length → Cnts m (l.take k) → Safe P 57 X (Ends [tSr] (wo ck nx ps is cs ws l l)) (cWo0 ck nx ps is cs ws l m (k : Int)) := by
    intro n
    induction n with
    | zero =>
      intro k m hk hm
      rw [List.take_of_length_le (by omega)] at hm
      have mid := rest m hm
      refine go hz hX tabWo_ok Try.func57 (loopWo0 ck nx ps is cs ws l m k) ⟨fun h => absurd (of_decide_eq_true h) (by omega), fun _ => ⟨hc, fun h => ?_, fun _ => ⟨by omega, mid⟩⟩⟩
      have h := List.eq_nil_of_length_eq_zero h
      have e : cWo ck nx ps is (delF (pDr l) cs) ws m [] = cWo ck nx ps is (delF (pDr l) cs) ws m is := by rw [h]
      rw [← e] at mid
      exact mid
    | succ n ih =>
      intro k m hk hm
      have hlt : k < l.length := by omega
      refine go hz hX tabWo_ok Try.func57 (loopWo0 ck nx ps is cs ws l m k) ?_
      rw [Int.toNat_natCast, getD_lt hlt]
      have hc1 := hm l[k]
      have hc2 := List.count_le_length (l := l.take k) (a := l[k])
      rw [List.length_take] at hc2
      have hcn : (mget m l[k]).getD (CK.int IntKind.i64).d = cnt m l[k] := rfl
      rw [hcn]
      have := ih (k + 1) (mput m l[k] (cnt m l[k] + 1)) (by omega) (by
        rw [List.take_add_one, List.getElem?_eq_getElem hlt]
        exact cnts_put hm)
      refine ⟨fun _ => ⟨by omega, by omega, ⟨by omega, by omega⟩, ⟨by omega, by omega⟩, this⟩, fun h => absurd (of_decide_eq_false h) (by omega)⟩
  refine go hz hX tabWo_ok Try.func57 (trWo ck nx ps is cs ws l) ?_
  exact loop l.length 0 [] (by omega) (fun _ => rfl)
theorem di_ok {Z : Glob} : FnS P Z 61 sDi := by
  refine fnS_of_safe Try.func61 (by kernel_rfl) (fun x => Nat.le_of_ble_eq_true (by kernel_rfl)) ?_
  rintro ⟨(l : List Int), (id : Int)⟩ ⟨(hl : l.length ≤ 10000000), _⟩ X hX hz
  have hns : ∀ x ∈ nsDi, (sDi.heap (l, id)).length ≤ x.2.m := by intro y hy; simp [nsDi] at hy; rcases hy with rfl | rfl | rfl | rfl <;> exact Nat.le_refl _
  have t1 : ∀ x : Int, x = id → (fun x => x == id) x = true := fun x h => by simpa using h
  have t0 : ∀ x : Int, ¬ x = id → (fun x => x == id) x = false := fun x h => by simpa using h

  have fin : ∀ r : List Int, r = delF (fun x => x == id) l → Safe P 61 X (EndS sDi (l, id)) (cDiE id r) := by
    intro r hr
    subst hr
    exact goS hz hX hns Tab.Ok.nil Try.func61 (endDi id _) (endS 2 (by kernel_rfl) (Nat.le_refl _) rfl rfl)
  have finF : ∀ r : List Int, r = delF (fun x => x == id) l → Safe P 61 X (EndS sDi (l, id)) (cDiF id r) := by
    intro r hr
    subst hr
    exact goS hz hX hns Tab.Ok.nil Try.func61 (endDiF id _) (endS 2 (by kernel_rfl) (Nat.le_refl _) rfl rfl)
  have loop2 : ∀ (n : Nat) (r : List Int) (i j : Nat), j + n = l.length → DInv (fun x => x == id) l r i j → Safe P 61 X (EndS sDi (l, id)) (cDi2 id r (i : Int) (j : Int)) := by
    intro n
    induction n with
    | zero =>
      intro r i j hj h
      have hlen := h.len
      have hij := h.ij
      refine goS hz hX hns Tab.Ok.nil Try.func61 (loopDi2 id r i j) ⟨fun h => absurd (of_decide_eq_true h) (by omega), fun _ => ?_⟩
      rw [Int.toNat_natCast, Int.toNat_natCast]
      refine ⟨by omega, by omega, by omega, by omega, by omega, ?_, ?_⟩
      · rw [over_length _ _ (by omega) (by simp)]; omega
      · refine cut_safe (t := 41) (id := 0) rfl rfl ?_
        have e2 : conSub (.ints .i64 (over r (0 + i) (r.length - i) (List.replicate (r.length - i) 0))) 0 (0 + (i - Int.toNat 0)) = .ints .i64 (delF (fun x => x == id) l) := by
          show Con.ints .i64 ((List.take (0 + (i - 0)) (over r (0 + i) (r.length - i) (List.replicate (r.length - i) 0))).drop 0) = _
          rw [List.drop_zero, Nat.zero_add, Nat.sub_zero, Nat.zero_add]
          unfold over
          rw [List.append_assoc, List.take_append_of_le_length (by rw [List.length_take]; omega), List.take_take, Nat.min_self, h.fin (by omega)]
        rw [e2]
        exact fin _ rfl
    | succ n ih =>
      intro r i j hj h
      have hlen := h.len
      have hij := h.ij
      have hlt : j < l.length := by omega
      refine goS hz hX hns Tab.Ok.nil Try.func61 (loopDi2 id r i j) ?_
      rw [Int.toNat_natCast, Int.toNat_natCast, getD_lt (show j < r.length by omega), h.at hlt]
      have skip := fun hp => ih r i (j + 1) (by omega) (h.skip hlt hp)
      have keep := fun hp => ih (r.set i l[j]) (i + 1) (j + 1) (by omega) (h.keep hlt hp)
      repeat' (with_reducible (first | refine h_eq ?_ | refine h_need ?_ ?_ | refine h_dec (fun _ => ?_) (fun _ => ?_) | refine h_beq (fun _ => ?_) (fun _ => ?_) | refine h_bne (fun _ => ?_) (fun _ => ?_) | refine h_tt ?_ | refine h_ff ?_ | refine h_not ?_ | refine h_ite (fun _ => ?_) (fun _ => ?_) | refine h_both (fun _ => ?_) (fun _ => ?_) | refine h_ret ?_ | refine h_at ?_))
      all_goals first | omega | exact ⟨by omega, by omega⟩ | exact skip (by assumption) | exact keep (by assumption) | exact skip (t1 _ (by assumption)) | exact keep (t0 _ (by assumption))
  have none_ : (∀ x ∈ l, (fun x => x == id) x = false) → Safe P 61 X (EndS sDi (l, id)) (⟨sl 42 [(13, .vec 0)], [.vec (.ints .i64 l) 3, .own [avI id] 3], cal Try.f61 3 1, kk 3⟩ : Cfg) := by
    intro h
    refine vec_cut_safe (t := 13) (id := 0) rfl rfl (c' := .ints .i64 l) ?_ ?_
    · show Con.ints .i64 ((List.take (0 + l.length) l).drop 0) = _
      rw [List.drop_zero, Nat.zero_add, List.take_length]
    · exact finF _ (delF_all h).symm
  have loop1 : ∀ (n i : Nat), i + n = l.length → (∀ k (hk : k < i) (h2 : k < l.length), (fun x => x == id) l[k] = false) → Safe P 61 X (EndS sDi (l, id)) (cDi1 id l (i : Int)) := by
    intro n
    induction n with
    | zero =>
      intro i hi hb
      refine goS hz hX hns Tab.Ok.nil Try.func61 (loopDi1 id l i) ⟨fun h => absurd (of_decide_eq_true h) (by omega), fun _ => ?_⟩
      refine none_ fun x hx => ?_
      obtain ⟨k, hk, rfl⟩ := List.mem_iff_getElem.1 hx
      exact hb k (by omega) hk
    | succ n ih =>
      intro i hi hb
      have hlt : i < l.length := by omega
      refine goS hz hX hns Tab.Ok.nil Try.func61 (loopDi1 id l i) ?_
      rw [Int.toNat_natCast, getD_lt hlt]
      have next := fun h : (fun x => x == id) l[i] = false => ih (i + 1) (by omega) fun k h1 h2 => by
        by_cases e : k = i
        · subst e; exact h
        · exact hb k (by omega) h2
      have hit := fun h : (fun x => x == id) l[i] = true => loop2 (l.length - (i + 1)) l i (i + 1) (by omega) (DInv.start hlt h fun k hk => hb k hk (by omega))
      repeat' (with_reducible (first | refine h_eq ?_ | refine h_need ?_ ?_ | refine h_dec (fun _ => ?_) (fun _ => ?_) | refine h_beq (fun _ => ?_) (fun _ => ?_) | refine h_bne (fun _ => ?_) (fun _ => ?_) | refine h_tt ?_ | refine h_ff ?_ | refine h_not ?_ | refine h_ite (fun _ => ?_) (fun _ => ?_) | refine h_both (fun _ => ?_) (fun _ => ?_) | refine h_ret ?_ | refine h_at ?_))
      all_goals first | omega | exact ⟨by omega, by omega⟩ | exact next (by assumption) | exact hit (by assumption) | exact hit (t1 _ (by assumption)) | exact next (t0 _ (by assumption))
  exact goS hz hX hns Tab.Ok.nil Try.func61 (trDi l id) (loop1 l.length 0 (by omega) fun k hk => absurd hk (Nat.not_lt_zero _))

theorem tabTa_ok {Z : Glob} : tabTa.Ok P Z := Tab.Ok.cons find_ok.sum (Tab.Ok.cons below_ok.sum (Tab.Ok.cons without_ok.sumR Tab.Ok.nil))
theorem tabCl_ok {Z : Glob} : tabCl.Ok P Z := Tab.Ok.cons find_ok.sum (Tab.Ok.cons below_ok.sum (Tab.Ok.cons (di_ok.sum mDi) (Tab.Ok.cons without_ok.sumR Tab.Ok.nil)))
theorem below_le (es : Es) (id : Int) : (belowF es id).length ≤ es.length := by
  have h : (belowF es id).length ≤ (es.map (·.1)).length := nodup_len (rises_nodup (below_lt es id)) fun x hx => by
    obtain ⟨h1, h2⟩ := mem_below.1 hx
    have key : ∀ a b : Int, Reach es a b → b ∈ es.map (·.1) := fun a b h => by
      cases h with
      | kid h => exact List.mem_map.2 ⟨_, (mem_kids.1 h).1, rfl⟩
      | more _ h => exact List.mem_map.2 ⟨_, (mem_kids.1 h).1, rfl⟩
    exact key _ _ h2
  simpa using h
theorem wo_nil (ck nx : Int) (ps : Ps) (is : Is) (cs : Cs) (ws : Ws) : wo ck nx ps is cs ws [] [] = eff ck nx ps is cs ws := by
  show ((ck, nx, ps, delF (pIt []) is, delF (pDr []) cs, delF (pWa []) ws, ()), ()) = _
  rw [delF_all (p := pIt []) fun _ _ => rfl, delF_all (p := pDr []) fun _ _ => rfl, delF_all (p := pWa []) fun _ _ => rfl]
theorem take_ok {Z : Glob} : FnOk P Z 25 [tSt, tInt] [tSr] (fun (s, _, ()) => preS (s, ())) (fun ((ck, nx, ps, is, cs, ws, ()), id, ()) => wo ck nx ps is cs ws (takeL is id) (takeL is id)) := by
  refine fnOk_of_safe Try.func25 (by kernel_rfl) (by kernel_rfl) ?_
  rintro ⟨⟨(ck : Int), (nx : Int), (ps : Ps), (is : Is), (cs : Cs), (ws : Ws), ⟨⟩⟩, (id : Int), ⟨⟩⟩ _ ⟨(hi : is.length ≤ 1000000), (hc : cs.length ≤ 1000000), (hw : ws.length ≤ 1000000), _⟩ X hX hz
  show Safe P 25 X (Ends [tSr] (wo ck nx ps is cs ws (takeL is id) (takeL is id))) _
  refine go hz hX tabTa_ok Try.func25 (trTa ck nx ps is cs ws id) ?_
  have hb := below_le (esOf is) id
  have hb2 : (esOf is).length = is.length := List.length_map _
  unfold takeL
  cases hasI is id with
  | false =>
    rw [if_neg (by simp), wo_nil]
    refine ⟨fun _ => ends_eq _ rfl (by kernel_rfl), fun h => absurd h (by simp)⟩
  | true =>
    rw [if_pos rfl]
    refine ⟨fun h => absurd h (by simp), fun _ => ⟨by omega, by omega, ?_⟩⟩
    have : (belowF (esOf is) id ++ [id]).length ≤ 2000000 := by simp; omega
    generalize belowF (esOf is) id ++ [id] = q at *
    first | exact ends_eq _ rfl (by kernel_rfl) | exact ⟨this, hi, hc, hw, ends_eq _ rfl (by kernel_rfl)⟩
theorem clear_ok {Z : Glob} : FnOk P Z 34 [tSt, tInt] [tSr] (fun (s, _, ()) => preS (s, ())) (fun ((ck, nx, ps, is, cs, ws, ()), id, ()) => wo ck nx ps is cs ws (clearL is id) (clearL is id)) := by
  refine fnOk_of_safe Try.func34 (by kernel_rfl) (by kernel_rfl) ?_
  rintro ⟨⟨(ck : Int), (nx : Int), (ps : Ps), (is : Is), (cs : Cs), (ws : Ws), ⟨⟩⟩, (id : Int), ⟨⟩⟩ _ ⟨(hi : is.length ≤ 1000000), (hc : cs.length ≤ 1000000), (hw : ws.length ≤ 1000000), _⟩ X hX hz
  show Safe P 34 X (Ends [tSr] (wo ck nx ps is cs ws (clearL is id) (clearL is id))) _
  refine go hz hX tabCl_ok Try.func34 (trCl ck nx ps is cs ws id) ?_
  have hb := below_le (esOf is) id
  have hb2 : (esOf is).length = is.length := List.length_map _
  unfold clearL
  cases hasI is id with
  | false =>
    rw [if_neg (by simp), wo_nil]
    refine ⟨fun _ => ends_eq _ rfl (by kernel_rfl), fun h => absurd h (by simp)⟩
  | true =>
    rw [if_pos rfl]
    have h4 := delF_len (fun x => x == id) (belowF (esOf is) id)
    refine ⟨fun h => absurd h (by simp), fun _ => ⟨hi, rfl, rfl, by omega, ?_⟩⟩
    have : (delF (fun x => x == id) (belowF (esOf is) id)).length ≤ 2000000 := by omega
    generalize delF (fun x => x == id) (belowF (esOf is) id) = q at *
    first | exact ends_eq _ rfl (by kernel_rfl) | exact ⟨this, hi, hc, hw, ends_eq _ rfl (by kernel_rfl)⟩
theorem tabBr_ok {Z : Glob} : tabBr.Ok P Z := Tab.Ok.cons find_ok.sum (Tab.Ok.cons clear_ok.sumR (Tab.Ok.cons (unw_ok.sum mUw) Tab.Ok.nil))
theorem delF_app {α : Type} (p q r : α → Bool) (h : ∀ x, r x = (p x || q x)) (l : List α) : delF q (delF p l) = delF r l := by
  unfold delF
  rw [List.filter_filter]
  congr 1
  funext x
  rw [h x]
  cases p x <;> cases q x <;> rfl
theorem break_ok {Z : Glob} : FnOk P Z 36 [tSt, tInt] [tSr] (fun (s, _, ()) => preS (s, ())) (fun ((ck, nx, ps, is, cs, ws, ()), id, ()) => wo ck nx ps is cs ws (clearL is id) (breakL is id)) := by
  refine fnOk_of_safe Try.func36 (by kernel_rfl) (by kernel_rfl) ?_
  rintro ⟨⟨(ck : Int), (nx : Int), (ps : Ps), (is : Is), (cs : Cs), (ws : Ws), ⟨⟩⟩, (id : Int), ⟨⟩⟩ _ ⟨(hi : is.length ≤ 1000000), (hc : cs.length ≤ 1000000), (hw : ws.length ≤ 1000000), _⟩ X hX hz
  show Safe P 36 X (Ends [tSr] (wo ck nx ps is cs ws (clearL is id) (breakL is id))) _
  refine go hz hX tabBr_ok Try.func36 (trBr ck nx ps is cs ws id) ?_
  have e : delF (pUw (mput [] id 1)) (delF (pWa (clearL is id)) ws) = delF (pWa (clearL is id ++ [id])) ws := by
    refine delF_app _ _ _ (fun x => ?_) ws
    show List.contains (clearL is id ++ [id]) (wT x) = ((clearL is id).contains (wT x) || decide (cnt (mput [] id 1) (wT x) > 0))
    rw [cnts_in (cnts_one id) (wT x)]
    simp only [List.contains_eq_mem, List.mem_append, Bool.decide_or]
  rw [e]
  have hd := delF_len (pWa (clearL is id)) ws
  cases hh : hasI is id with
  | false =>
    have e1 : clearL is id = [] := by unfold clearL; rw [hh]; rfl
    have e2 : breakL is id = [] := by unfold breakL; rw [hh]; rfl
    rw [e1, e2, wo_nil]
    refine ⟨fun _ => ends_eq _ rfl (by kernel_rfl), fun h => absurd h (by simp)⟩
  | true =>
    have e2 : breakL is id = clearL is id ++ [id] := by unfold breakL; rw [hh]; rfl
    rw [e2]
    generalize clearL is id = q at *
    refine ⟨fun h => absurd h (by simp), fun _ => ⟨hi, hc, hw, rfl, rfl, by omega, ends_eq _ rfl (by kernel_rfl)⟩⟩
def goneF (is is' : Is) : List Int := setS ((is.map fun x : CL cI => iI x).filter fun x => !hasI is' x)
theorem tabGo_ok {Z : Glob} : tabGo.Ok P Z := Tab.Ok.cons find_ok.sum (Tab.Ok.cons (sort_ok.sum mSort) (Tab.Ok.cons (compact_ok.sum mSort) Tab.Ok.nil))
theorem gone_ok {Z : Glob} : FnOk P Z 27 [tSt, tSt] [tNs] (fun ((_, _, _, is, _, _, ()), _, ()) => [(is : Is).length ≤ 1000000]) (fun ((_, _, _, is, _, _, ()), (_, _, _, is', _, _, ()), ()) => (goneF is is', ())) := by
  refine fnOk_of_safe Try.func27 (by kernel_rfl) (by kernel_rfl) ?_
  rintro ⟨⟨(ck : Int), (nx : Int), (ps : Ps), (is : Is), (cs : Cs), (ws : Ws), ⟨⟩⟩, ⟨(ck' : Int), (nx' : Int), (ps' : Ps), (is' : Is), (cs' : Cs), (ws' : Ws), ⟨⟩⟩, ⟨⟩⟩ _ ⟨(hi : is.length ≤ 1000000), _⟩ X hX hz
  show Safe P 27 X (Ends [tNs] (goneF is is', ())) _
  have loop : ∀ (j k : Nat) (acc : List Int), k + j = is.length → acc.length ≤ k → acc = ((is.take k).map fun x : CL cI => iI x).filter (fun x => !hasI is' x) → Safe P 27 X (Ends [tNs] (goneF is is', ())) (cGo is ck' nx' ps' is' cs' ws' acc (k : Int)) := by
    intro j
    induction j with
    | zero =>
      intro k acc hk ha he
      rw [List.take_of_length_le (by omega)] at he
      refine go hz hX tabGo_ok Try.func27 (loopGo is ck' nx' ps' is' cs' ws' acc k) ⟨fun h => absurd (of_decide_eq_true h) (by omega), fun _ => ⟨rfl, rfl, by omega, rfl, rfl, by rw [srtZ_len]; omega, ?_⟩⟩
      rw [srt_set, he]
      exact ends_eq _ rfl (by kernel_rfl)
    | succ j ih =>
      intro k acc hk ha he
      have hlt : k < is.length := by omega
      refine go hz hX tabGo_ok Try.func27 (loopGo is ck' nx' ps' is' cs' ws' acc k) ?_
      rw [el_lt hlt]
      have st : ((is.take (k + 1)).map fun x : CL cI => iI x).filter (fun x => !hasI is' x) = acc ++ (if hasI is' (iI is[k]) = true then [] else [iI is[k]]) := by
        rw [List.take_add_one, List.getElem?_eq_getElem hlt, List.map_append, List.filter_append, he]
        congr 1
        cases h : hasI is' (iI is[k]) <;> simp [h]
      have yes : hasI is' (iI is[k]) = false → Safe P 27 X (Ends [tNs] (goneF is is', ())) (cGo is ck' nx' ps' is' cs' ws' (acc ++ [iI is[k]]) ((k : Int) + 1)) := fun h => ih (k + 1) _ (by omega) (by simp; omega) (by rw [st, h]; rfl)
      have no : hasI is' (iI is[k]) = true → Safe P 27 X (Ends [tNs] (goneF is is', ())) (cGo is ck' nx' ps' is' cs' ws' acc ((k : Int) + 1)) := fun h => ih (k + 1) _ (by omega) (by omega) (by rw [st, h]; simp)
      repeat' (with_reducible (first | refine h_eq ?_ | refine h_need ?_ ?_ | refine h_dec (fun _ => ?_) (fun _ => ?_) | refine h_beq (fun _ => ?_) (fun _ => ?_) | refine h_bne (fun _ => ?_) (fun _ => ?_) | refine h_tt ?_ | refine h_ff ?_ | refine h_not ?_ | refine h_ite (fun _ => ?_) (fun _ => ?_) | refine h_both (fun _ => ?_) (fun _ => ?_) | refine h_ret ?_ | refine h_at ?_))
      all_goals first | omega | exact ⟨by omega, by omega⟩ | exact yes (by assumption) | exact no (by assumption) | skip
  refine go hz hX tabGo_ok Try.func27 (trGo ck nx ps is cs ws ck' nx' ps' is' cs' ws') ?_
  exact loop is.length 0 [] (by omega) (by simp) (by simp)
end Ds

namespace Ds
open Go Go.Sx Go.Proofs Lf
abbrev vN (x : CL cV) : ByteArray := x.1
abbrev vK (x : CL cV) : Int := x.2.1
abbrev vI (x : CL cV) : Int := x.2.2.1
abbrev vT (x : CL cV) : ByteArray := x.2.2.2.1
abbrev nN (x : CL cN) : ByteArray := x.1
abbrev nK (x : CL cN) : Int := x.2.1
abbrev nI (x : CL cN) : Int := x.2.2.1
abbrev nO (x : CL cN) : Int := x.2.2.2.1
abbrev nE (x : CL cN) : Int := x.2.2.2.2.1
abbrev nY (x : CL cN) : ByteArray := x.2.2.2.2.2.1
abbrev nT (x : CL cN) : ByteArray := x.2.2.2.2.2.2.1
abbrev nS (x : CL cN) : ByteArray := x.2.2.2.2.2.2.2.1
abbrev nB (x : CL cN) : Bool := x.2.2.2.2.2.2.2.2.1
abbrev nV (x : CL cN) : List (CL cV) := x.2.2.2.2.2.2.2.2.2.1
abbrev nZ (x : CL cN) : List ByteArray := x.2.2.2.2.2.2.2.2.2.2.1
abbrev fA (x : CL cF) : Int := x.1
abbrev fB (x : CL cF) : Int := x.2.1
abbrev fC (x : CL cF) : ByteArray := x.2.2.1
abbrev fD (x : CL cF) : Bool := x.2.2.2.1
abbrev pN (x : CL cP) : ByteArray := x.1
abbrev pV (x : CL cP) : List (CL cV) := x.2.1
abbrev pO (x : CL cP) : List (CL cN) := x.2.2.1
abbrev pF (x : CL cP) : List (CL cF) := x.2.2.2.1
abbrev eV : TypeId := 114
abbrev eN : TypeId := 37
abbrev eF : TypeId := 119
abbrev tVs : Ty := .b (.row (.typ cV) eV)
abbrev tTx : Ty := .b (.row .strs 9)
abbrev tPr : Ty := .st [.str, .row (.typ cV) eV, .row (.typ cN) eN, .row (.typ cF) eF]
abbrev avVs (l : List (CL cV)) : AV := .s (.ro (.typ cV l))
abbrev avTx (l : List ByteArray) : AV := .s (.ro (.strs l))
abbrev avPr (a : ByteArray) (vs : List (CL cV)) (ns : List (CL cN)) (fs : List (CL cF)) : AV := .agg [.s (.str a), .s (.ro (.typ cV vs)), .s (.ro (.typ cN ns)), .s (.ro (.typ cF fs))]
abbrev obPr (a : ByteArray) (vs : List (CL cV)) (ns : List (CL cN)) (fs : List (CL cF)) : AObj := .own [.s (.str a), .s (.ro (.typ cV vs)), .s (.ro (.typ cN ns)), .s (.ro (.typ cF fs))] eP
def StEq (ck nx : Int) (ps : Ps) (is : Is) (cs : Cs) (ws : Ws) (ck' nx' : Int) (ps' : Ps) (is' : Is) (cs' : Cs) (ws' : Ws) : Prop := ck = ck' ∧ nx = nx' ∧ ps = ps' ∧ is = is' ∧ cs = cs' ∧ ws = ws'
abbrev preSa : AL [tSt, tSt] → List Prop := fun ((ck, nx, ps, is, cs, ws, ()), (ck', nx', ps', is', cs', ws', ()), ()) => [StEq ck nx ps is cs ws ck' nx' ps' is' cs' ws']
/-! the same, of the same -/
def nsVs : List (Nat × Norm) := [(4, ⟨[], [0, 1, 5], 0, []⟩)]
theorem trVs (l : List (CL cV)) : run P tab0.sum Try.f86 nsVs (start Try.f86 [avVs l, avVs l] []) =
  Tree.ite ((↑l.length : Int) != (↑l.length : Int)) (Tree.ret [] (AV.s (SV.blit false))) (Tree.at (Cfg.mk (sl (26 : Nat) [((0 : Nat), AV.s (SV.ro (Con.typ cV l))), ((1 : Nat), AV.s (SV.ro (Con.typ cV l))), ((5 : Nat), AV.s (SV.int IntKind.i64 (0 : Int)))]) [] (hd Try.f86 (4 : Nat)) (Stk.mk none false (0 : Nat) [] (0 : Nat)))) := by kernel_rfl
noncomputable def cVs (l : List (CL cV)) (i : Int) : Cfg := ⟨sl 26 [(0, avVs l), (1, avVs l), (5, avI i)], [], hd Try.f86 4, {}⟩
theorem loopVs (l : List (CL cV)) (i : Int) : run P tab0.sum Try.f86 nsVs (cVs l i) =
  Tree.ite (decide (i < (↑l.length : Int))) (Tree.need ((0 : Int) ≤ i) (Tree.need (i < (↑l.length : Int)) (Tree.need ((0 : Int) ≤ i) (Tree.need (i < (↑l.length : Int)) (Tree.ite (!(decide (vN (el l i) = vN (el l i)) && (vK (el l i) == vK (el l i) && (vI (el l i) == vI (el l i) && (decide (vT (el l i) = vT (el l i)) && true)) && true))) (Tree.ret [] (AV.s (SV.blit false))) (Tree.need (inI64 (i + (1 : Int))) (Tree.at (Cfg.mk (sl (26 : Nat) [((0 : Nat), AV.s (SV.ro (Con.typ cV l))), ((1 : Nat), AV.s (SV.ro (Con.typ cV l))), ((5 : Nat), AV.s (SV.int IntKind.i64 (i + (1 : Int))))]) [] (hd Try.f86 (4 : Nat)) (Stk.mk none false (0 : Nat) [] (0 : Nat)))))))))) (Tree.ret [] (AV.s (SV.blit true))) := by kernel_rfl
theorem trTx (l : List ByteArray) : run P tab0.sum Try.f87 nsVs (start Try.f87 [avTx l, avTx l] []) =
  Tree.ite ((↑l.length : Int) != (↑l.length : Int)) (Tree.ret [] (AV.s (SV.blit false))) (Tree.at (Cfg.mk (sl (26 : Nat) [((0 : Nat), AV.s (SV.ro (Con.strs l))), ((1 : Nat), AV.s (SV.ro (Con.strs l))), ((5 : Nat), AV.s (SV.int IntKind.i64 (0 : Int)))]) [] (hd Try.f87 (4 : Nat)) (Stk.mk none false (0 : Nat) [] (0 : Nat)))) := by kernel_rfl
noncomputable def cTx (l : List ByteArray) (i : Int) : Cfg := ⟨sl 26 [(0, avTx l), (1, avTx l), (5, avI i)], [], hd Try.f87 4, {}⟩
theorem loopTx (l : List ByteArray) (i : Int) : run P tab0.sum Try.f87 nsVs (cTx l i) =
  Tree.ite (decide (i < (↑l.length : Int))) (Tree.need ((0 : Int) ≤ i) (Tree.need (i < (↑l.length : Int)) (Tree.need ((0 : Int) ≤ i) (Tree.need (i < (↑l.length : Int)) (Tree.ite (!decide (l.getD i.toNat ByteArray.empty = l.getD i.toNat ByteArray.empty)) (Tree.ret [] (AV.s (SV.blit false))) (Tree.need (inI64 (i + (1 : Int))) (Tree.at (Cfg.mk (sl (26 : Nat) [((0 : Nat), AV.s (SV.ro (Con.strs l))), ((1 : Nat), AV.s (SV.ro (Con.strs l))), ((5 : Nat), AV.s (SV.int IntKind.i64 (i + (1 : Int))))]) [] (hd Try.f87 (4 : Nat)) (Stk.mk none false (0 : Nat) [] (0 : Nat)))))))))) (Tree.ret [] (AV.s (SV.blit true))) := by kernel_rfl
abbrev sumVs := sumOf [tVs, tVs] [tBool] (fun (a, b, ()) => [(a : List (CL cV)) = b]) (fun _ => (true, ()))
abbrev sumTx := sumOf [tTx, tTx] [tBool] (fun (a, b, ()) => [(a : List ByteArray) = b]) (fun _ => (true, ()))
def tabPr : Tab := [(86, sumVs), (87, sumTx)]
def nsPr : List (Nat × Norm) := [(4, ⟨[], [2, 3, 5], 0, []⟩), (10, ⟨[], [2, 3, 8], 0, []⟩)]
theorem trPr (a : ByteArray) (vs : List (CL cV)) (ns : List (CL cN)) (fs : List (CL cF)) : run P tabPr.sum Try.f58 nsPr (start Try.f58 [avPr a vs ns fs, avPr a vs ns fs] []) =
  Tree.ite (!decide (a = a)) (Tree.ret [AObj.own [AV.s (SV.str a), AV.s (SV.ro (Con.typ cV vs)), AV.s (SV.ro (Con.typ cN ns)), AV.s (SV.ro (Con.typ cF fs))] (34 : Nat), AObj.own [AV.s (SV.str a), AV.s (SV.ro (Con.typ cV vs)), AV.s (SV.ro (Con.typ cN ns)), AV.s (SV.ro (Con.typ cF fs))] (34 : Nat)] (AV.s (SV.blit false))) (Tree.need (vs = vs) (Tree.ite false (Tree.ret [AObj.own [AV.s (SV.str a), AV.s (SV.ro (Con.typ cV vs)), AV.s (SV.ro (Con.typ cN ns)), AV.s (SV.ro (Con.typ cF fs))] (34 : Nat), AObj.own [AV.s (SV.str a), AV.s (SV.ro (Con.typ cV vs)), AV.s (SV.ro (Con.typ cN ns)), AV.s (SV.ro (Con.typ cF fs))] (34 : Nat)] (AV.s (SV.blit false))) (Tree.ite ((↑ns.length : Int) != (↑ns.length : Int)) (Tree.ret [AObj.own [AV.s (SV.str a), AV.s (SV.ro (Con.typ cV vs)), AV.s (SV.ro (Con.typ cN ns)), AV.s (SV.ro (Con.typ cF fs))] (34 : Nat), AObj.own [AV.s (SV.str a), AV.s (SV.ro (Con.typ cV vs)), AV.s (SV.ro (Con.typ cN ns)), AV.s (SV.ro (Con.typ cF fs))] (34 : Nat)] (AV.s (SV.blit false))) (Tree.ite ((↑fs.length : Int) != (↑fs.length : Int)) (Tree.ret [AObj.own [AV.s (SV.str a), AV.s (SV.ro (Con.typ cV vs)), AV.s (SV.ro (Con.typ cN ns)), AV.s (SV.ro (Con.typ cF fs))] (34 : Nat), AObj.own [AV.s (SV.str a), AV.s (SV.ro (Con.typ cV vs)), AV.s (SV.ro (Con.typ cN ns)), AV.s (SV.ro (Con.typ cF fs))] (34 : Nat)] (AV.s (SV.blit false))) (Tree.at (Cfg.mk (sl (152 : Nat) [((2 : Nat), AV.ptr (0 : Nat) (0 : Nat)), ((3 : Nat), AV.ptr (1 : Nat) (0 : Nat)), ((5 : Nat), AV.s (SV.int IntKind.i64 (0 : Int)))]) [AObj.own [AV.s (SV.str a), AV.s (SV.ro (Con.typ cV vs)), AV.s (SV.ro (Con.typ cN ns)), AV.s (SV.ro (Con.typ cF fs))] (34 : Nat), AObj.own [AV.s (SV.str a), AV.s (SV.ro (Con.typ cV vs)), AV.s (SV.ro (Con.typ cN ns)), AV.s (SV.ro (Con.typ cF fs))] (34 : Nat)] (hd Try.f58 (4 : Nat)) (Stk.mk none false (0 : Nat) [] (0 : Nat)))))))) := by kernel_rfl
noncomputable def cPr (a : ByteArray) (vs : List (CL cV)) (ns : List (CL cN)) (fs : List (CL cF)) (i : Int) : Cfg := ⟨sl 152 [(2, .ptr 0 0), (3, .ptr 1 0), (5, avI i)], [obPr a vs ns fs, obPr a vs ns fs], hd Try.f58 4, {}⟩
theorem loopPr (a : ByteArray) (vs : List (CL cV)) (ns : List (CL cN)) (fs : List (CL cF)) (i : Int) : run P tabPr.sum Try.f58 nsPr (cPr a vs ns fs i) =
  Tree.ite (decide (i < (↑ns.length : Int)))
  (Tree.need ((0 : Int) ≤ i)
    (Tree.need (i < (↑ns.length : Int))
      (Tree.need ((0 : Int) ≤ i)
        (Tree.need (i < (↑ns.length : Int))
          (Tree.ite (!decide (nN (el ns i) = nN (el ns i))) (Tree.ret [AObj.own [AV.s (SV.str a), AV.s (SV.ro (Con.typ cV vs)), AV.s (SV.ro (Con.typ cN ns)), AV.s (SV.ro (Con.typ cF fs))] (34 : Nat), AObj.own [AV.s (SV.str a), AV.s (SV.ro (Con.typ cV vs)), AV.s (SV.ro (Con.typ cN ns)), AV.s (SV.ro (Con.typ cF fs))] (34 : Nat), AObj.own [AV.s (SV.str (nN (el ns i))), AV.s (SV.int IntKind.u8 (nK (el ns i))), AV.s (SV.int IntKind.i64 (nI (el ns i))), AV.s (SV.int IntKind.i64 (nO (el ns i))), AV.s (SV.int IntKind.u8 (nE (el ns i))), AV.s (SV.str (nY (el ns i))), AV.s (SV.str (nT (el ns i))), AV.s (SV.str (nS (el ns i))), AV.s (SV.bool (nB (el ns i))), AV.s (SV.ro (Con.typ cV (nV (el ns i)))), AV.s (SV.ro (Con.strs (nZ (el ns i))))] (37 : Nat), AObj.own [AV.s (SV.str (nN (el ns i))), AV.s (SV.int IntKind.u8 (nK (el ns i))), AV.s (SV.int IntKind.i64 (nI (el ns i))), AV.s (SV.int IntKind.i64 (nO (el ns i))), AV.s (SV.int IntKind.u8 (nE (el ns i))), AV.s (SV.str (nY (el ns i))), AV.s (SV.str (nT (el ns i))), AV.s (SV.str (nS (el ns i))), AV.s (SV.bool (nB (el ns i))), AV.s (SV.ro (Con.typ cV (nV (el ns i)))), AV.s (SV.ro (Con.strs (nZ (el ns i))))] (37 : Nat)] (AV.s (SV.blit false)))
            (Tree.ite (nK (el ns i) != nK (el ns i)) (Tree.ret [AObj.own [AV.s (SV.str a), AV.s (SV.ro (Con.typ cV vs)), AV.s (SV.ro (Con.typ cN ns)), AV.s (SV.ro (Con.typ cF fs))] (34 : Nat), AObj.own [AV.s (SV.str a), AV.s (SV.ro (Con.typ cV vs)), AV.s (SV.ro (Con.typ cN ns)), AV.s (SV.ro (Con.typ cF fs))] (34 : Nat), AObj.own [AV.s (SV.str (nN (el ns i))), AV.s (SV.int IntKind.u8 (nK (el ns i))), AV.s (SV.int IntKind.i64 (nI (el ns i))), AV.s (SV.int IntKind.i64 (nO (el ns i))), AV.s (SV.int IntKind.u8 (nE (el ns i))), AV.s (SV.str (nY (el ns i))), AV.s (SV.str (nT (el ns i))), AV.s (SV.str (nS (el ns i))), AV.s (SV.bool (nB (el ns i))), AV.s (SV.ro (Con.typ cV (nV (el ns i)))), AV.s (SV.ro (Con.strs (nZ (el ns i))))] (37 : Nat), AObj.own [AV.s (SV.str (nN (el ns i))), AV.s (SV.int IntKind.u8 (nK (el ns i))), AV.s (SV.int IntKind.i64 (nI (el ns i))), AV.s (SV.int IntKind.i64 (nO (el ns i))), AV.s (SV.int IntKind.u8 (nE (el ns i))), AV.s (SV.str (nY (el ns i))), AV.s (SV.str (nT (el ns i))), AV.s (SV.str (nS (el ns i))), AV.s (SV.bool (nB (el ns i))), AV.s (SV.ro (Con.typ cV (nV (el ns i)))), AV.s (SV.ro (Con.strs (nZ (el ns i))))] (37 : Nat)] (AV.s (SV.blit false)))
              (Tree.ite (nI (el ns i) != nI (el ns i)) (Tree.ret [AObj.own [AV.s (SV.str a), AV.s (SV.ro (Con.typ cV vs)), AV.s (SV.ro (Con.typ cN ns)), AV.s (SV.ro (Con.typ cF fs))] (34 : Nat), AObj.own [AV.s (SV.str a), AV.s (SV.ro (Con.typ cV vs)), AV.s (SV.ro (Con.typ cN ns)), AV.s (SV.ro (Con.typ cF fs))] (34 : Nat), AObj.own [AV.s (SV.str (nN (el ns i))), AV.s (SV.int IntKind.u8 (nK (el ns i))), AV.s (SV.int IntKind.i64 (nI (el ns i))), AV.s (SV.int IntKind.i64 (nO (el ns i))), AV.s (SV.int IntKind.u8 (nE (el ns i))), AV.s (SV.str (nY (el ns i))), AV.s (SV.str (nT (el ns i))), AV.s (SV.str (nS (el ns i))), AV.s (SV.bool (nB (el ns i))), AV.s (SV.ro (Con.typ cV (nV (el ns i)))), AV.s (SV.ro (Con.strs (nZ (el ns i))))] (37 : Nat), AObj.own [AV.s (SV.str (nN (el ns i))), AV.s (SV.int IntKind.u8 (nK (el ns i))), AV.s (SV.int IntKind.i64 (nI (el ns i))), AV.s (SV.int IntKind.i64 (nO (el ns i))), AV.s (SV.int IntKind.u8 (nE (el ns i))), AV.s (SV.str (nY (el ns i))), AV.s (SV.str (nT (el ns i))), AV.s (SV.str (nS (el ns i))), AV.s (SV.bool (nB (el ns i))), AV.s (SV.ro (Con.typ cV (nV (el ns i)))), AV.s (SV.ro (Con.strs (nZ (el ns i))))] (37 : Nat)] (AV.s (SV.blit false)))
                (Tree.ite (nO (el ns i) != nO (el ns i)) (Tree.ret [AObj.own [AV.s (SV.str a), AV.s (SV.ro (Con.typ cV vs)), AV.s (SV.ro (Con.typ cN ns)), AV.s (SV.ro (Con.typ cF fs))] (34 : Nat), AObj.own [AV.s (SV.str a), AV.s (SV.ro (Con.typ cV vs)), AV.s (SV.ro (Con.typ cN ns)), AV.s (SV.ro (Con.typ cF fs))] (34 : Nat), AObj.own [AV.s (SV.str (nN (el ns i))), AV.s (SV.int IntKind.u8 (nK (el ns i))), AV.s (SV.int IntKind.i64 (nI (el ns i))), AV.s (SV.int IntKind.i64 (nO (el ns i))), AV.s (SV.int IntKind.u8 (nE (el ns i))), AV.s (SV.str (nY (el ns i))), AV.s (SV.str (nT (el ns i))), AV.s (SV.str (nS (el ns i))), AV.s (SV.bool (nB (el ns i))), AV.s (SV.ro (Con.typ cV (nV (el ns i)))), AV.s (SV.ro (Con.strs (nZ (el ns i))))] (37 : Nat), AObj.own [AV.s (SV.str (nN (el ns i))), AV.s (SV.int IntKind.u8 (nK (el ns i))), AV.s (SV.int IntKind.i64 (nI (el ns i))), AV.s (SV.int IntKind.i64 (nO (el ns i))), AV.s (SV.int IntKind.u8 (nE (el ns i))), AV.s (SV.str (nY (el ns i))), AV.s (SV.str (nT (el ns i))), AV.s (SV.str (nS (el ns i))), AV.s (SV.bool (nB (el ns i))), AV.s (SV.ro (Con.typ cV (nV (el ns i)))), AV.s (SV.ro (Con.strs (nZ (el ns i))))] (37 : Nat)] (AV.s (SV.blit false)))
                  (Tree.ite (nE (el ns i) != nE (el ns i)) (Tree.ret [AObj.own [AV.s (SV.str a), AV.s (SV.ro (Con.typ cV vs)), AV.s (SV.ro (Con.typ cN ns)), AV.s (SV.ro (Con.typ cF fs))] (34 : Nat), AObj.own [AV.s (SV.str a), AV.s (SV.ro (Con.typ cV vs)), AV.s (SV.ro (Con.typ cN ns)), AV.s (SV.ro (Con.typ cF fs))] (34 : Nat), AObj.own [AV.s (SV.str (nN (el ns i))), AV.s (SV.int IntKind.u8 (nK (el ns i))), AV.s (SV.int IntKind.i64 (nI (el ns i))), AV.s (SV.int IntKind.i64 (nO (el ns i))), AV.s (SV.int IntKind.u8 (nE (el ns i))), AV.s (SV.str (nY (el ns i))), AV.s (SV.str (nT (el ns i))), AV.s (SV.str (nS (el ns i))), AV.s (SV.bool (nB (el ns i))), AV.s (SV.ro (Con.typ cV (nV (el ns i)))), AV.s (SV.ro (Con.strs (nZ (el ns i))))] (37 : Nat), AObj.own [AV.s (SV.str (nN (el ns i))), AV.s (SV.int IntKind.u8 (nK (el ns i))), AV.s (SV.int IntKind.i64 (nI (el ns i))), AV.s (SV.int IntKind.i64 (nO (el ns i))), AV.s (SV.int IntKind.u8 (nE (el ns i))), AV.s (SV.str (nY (el ns i))), AV.s (SV.str (nT (el ns i))), AV.s (SV.str (nS (el ns i))), AV.s (SV.bool (nB (el ns i))), AV.s (SV.ro (Con.typ cV (nV (el ns i)))), AV.s (SV.ro (Con.strs (nZ (el ns i))))] (37 : Nat)] (AV.s (SV.blit false)))
                    (Tree.ite (!decide (nY (el ns i) = nY (el ns i))) (Tree.ret [AObj.own [AV.s (SV.str a), AV.s (SV.ro (Con.typ cV vs)), AV.s (SV.ro (Con.typ cN ns)), AV.s (SV.ro (Con.typ cF fs))] (34 : Nat), AObj.own [AV.s (SV.str a), AV.s (SV.ro (Con.typ cV vs)), AV.s (SV.ro (Con.typ cN ns)), AV.s (SV.ro (Con.typ cF fs))] (34 : Nat), AObj.own [AV.s (SV.str (nN (el ns i))), AV.s (SV.int IntKind.u8 (nK (el ns i))), AV.s (SV.int IntKind.i64 (nI (el ns i))), AV.s (SV.int IntKind.i64 (nO (el ns i))), AV.s (SV.int IntKind.u8 (nE (el ns i))), AV.s (SV.str (nY (el ns i))), AV.s (SV.str (nT (el ns i))), AV.s (SV.str (nS (el ns i))), AV.s (SV.bool (nB (el ns i))), AV.s (SV.ro (Con.typ cV (nV (el ns i)))), AV.s (SV.ro (Con.strs (nZ (el ns i))))] (37 : Nat), AObj.own [AV.s (SV.str (nN (el ns i))), AV.s (SV.int IntKind.u8 (nK (el ns i))), AV.s (SV.int IntKind.i64 (nI (el ns i))), AV.s (SV.int IntKind.i64 (nO (el ns i))), AV.s (SV.int IntKind.u8 (nE (el ns i))), AV.s (SV.str (nY (el ns i))), AV.s (SV.str (nT (el ns i))), AV.s (SV.str (nS (el ns i))), AV.s (SV.bool (nB (el ns i))), AV.s (SV.ro (Con.typ cV (nV (el ns i)))), AV.s (SV.ro (Con.strs (nZ (el ns i))))] (37 : Nat)] (AV.s (SV.blit false)))
                      (Tree.ite (!decide (nT (el ns i) = nT (el ns i))) (Tree.ret [AObj.own [AV.s (SV.str a), AV.s (SV.ro (Con.typ cV vs)), AV.s (SV.ro (Con.typ cN ns)), AV.s (SV.ro (Con.typ cF fs))] (34 : Nat), AObj.own [AV.s (SV.str a), AV.s (SV.ro (Con.typ cV vs)), AV.s (SV.ro (Con.typ cN ns)), AV.s (SV.ro (Con.typ cF fs))] (34 : Nat), AObj.own [AV.s (SV.str (nN (el ns i))), AV.s (SV.int IntKind.u8 (nK (el ns i))), AV.s (SV.int IntKind.i64 (nI (el ns i))), AV.s (SV.int IntKind.i64 (nO (el ns i))), AV.s (SV.int IntKind.u8 (nE (el ns i))), AV.s (SV.str (nY (el ns i))), AV.s (SV.str (nT (el ns i))), AV.s (SV.str (nS (el ns i))), AV.s (SV.bool (nB (el ns i))), AV.s (SV.ro (Con.typ cV (nV (el ns i)))), AV.s (SV.ro (Con.strs (nZ (el ns i))))] (37 : Nat), AObj.own [AV.s (SV.str (nN (el ns i))), AV.s (SV.int IntKind.u8 (nK (el ns i))), AV.s (SV.int IntKind.i64 (nI (el ns i))), AV.s (SV.int IntKind.i64 (nO (el ns i))), AV.s (SV.int IntKind.u8 (nE (el ns i))), AV.s (SV.str (nY (el ns i))), AV.s (SV.str (nT (el ns i))), AV.s (SV.str (nS (el ns i))), AV.s (SV.bool (nB (el ns i))), AV.s (SV.ro (Con.typ cV (nV (el ns i)))), AV.s (SV.ro (Con.strs (nZ (el ns i))))] (37 : Nat)] (AV.s (SV.blit false)))
                        (Tree.ite (!decide (nS (el ns i) = nS (el ns i))) (Tree.ret [AObj.own [AV.s (SV.str a), AV.s (SV.ro (Con.typ cV vs)), AV.s (SV.ro (Con.typ cN ns)), AV.s (SV.ro (Con.typ cF fs))] (34 : Nat), AObj.own [AV.s (SV.str a), AV.s (SV.ro (Con.typ cV vs)), AV.s (SV.ro (Con.typ cN ns)), AV.s (SV.ro (Con.typ cF fs))] (34 : Nat), AObj.own [AV.s (SV.str (nN (el ns i))), AV.s (SV.int IntKind.u8 (nK (el ns i))), AV.s (SV.int IntKind.i64 (nI (el ns i))), AV.s (SV.int IntKind.i64 (nO (el ns i))), AV.s (SV.int IntKind.u8 (nE (el ns i))), AV.s (SV.str (nY (el ns i))), AV.s (SV.str (nT (el ns i))), AV.s (SV.str (nS (el ns i))), AV.s (SV.bool (nB (el ns i))), AV.s (SV.ro (Con.typ cV (nV (el ns i)))), AV.s (SV.ro (Con.strs (nZ (el ns i))))] (37 : Nat), AObj.own [AV.s (SV.str (nN (el ns i))), AV.s (SV.int IntKind.u8 (nK (el ns i))), AV.s (SV.int IntKind.i64 (nI (el ns i))), AV.s (SV.int IntKind.i64 (nO (el ns i))), AV.s (SV.int IntKind.u8 (nE (el ns i))), AV.s (SV.str (nY (el ns i))), AV.s (SV.str (nT (el ns i))), AV.s (SV.str (nS (el ns i))), AV.s (SV.bool (nB (el ns i))), AV.s (SV.ro (Con.typ cV (nV (el ns i)))), AV.s (SV.ro (Con.strs (nZ (el ns i))))] (37 : Nat)] (AV.s (SV.blit false)))
                          (Tree.ite (!nB (el ns i) == nB (el ns i)) (Tree.ret [AObj.own [AV.s (SV.str a), AV.s (SV.ro (Con.typ cV vs)), AV.s (SV.ro (Con.typ cN ns)), AV.s (SV.ro (Con.typ cF fs))] (34 : Nat), AObj.own [AV.s (SV.str a), AV.s (SV.ro (Con.typ cV vs)), AV.s (SV.ro (Con.typ cN ns)), AV.s (SV.ro (Con.typ cF fs))] (34 : Nat), AObj.own [AV.s (SV.str (nN (el ns i))), AV.s (SV.int IntKind.u8 (nK (el ns i))), AV.s (SV.int IntKind.i64 (nI (el ns i))), AV.s (SV.int IntKind.i64 (nO (el ns i))), AV.s (SV.int IntKind.u8 (nE (el ns i))), AV.s (SV.str (nY (el ns i))), AV.s (SV.str (nT (el ns i))), AV.s (SV.str (nS (el ns i))), AV.s (SV.bool (nB (el ns i))), AV.s (SV.ro (Con.typ cV (nV (el ns i)))), AV.s (SV.ro (Con.strs (nZ (el ns i))))] (37 : Nat), AObj.own [AV.s (SV.str (nN (el ns i))), AV.s (SV.int IntKind.u8 (nK (el ns i))), AV.s (SV.int IntKind.i64 (nI (el ns i))), AV.s (SV.int IntKind.i64 (nO (el ns i))), AV.s (SV.int IntKind.u8 (nE (el ns i))), AV.s (SV.str (nY (el ns i))), AV.s (SV.str (nT (el ns i))), AV.s (SV.str (nS (el ns i))), AV.s (SV.bool (nB (el ns i))), AV.s (SV.ro (Con.typ cV (nV (el ns i)))), AV.s (SV.ro (Con.strs (nZ (el ns i))))] (37 : Nat)] (AV.s (SV.blit false)))
                            (Tree.need (nV (el ns i) = nV (el ns i)) (Tree.ite false (Tree.ret [AObj.own [AV.s (SV.str a), AV.s (SV.ro (Con.typ cV vs)), AV.s (SV.ro (Con.typ cN ns)), AV.s (SV.ro (Con.typ cF fs))] (34 : Nat), AObj.own [AV.s (SV.str a), AV.s (SV.ro (Con.typ cV vs)), AV.s (SV.ro (Con.typ cN ns)), AV.s (SV.ro (Con.typ cF fs))] (34 : Nat), AObj.own [AV.s (SV.str (nN (el ns i))), AV.s (SV.int IntKind.u8 (nK (el ns i))), AV.s (SV.int IntKind.i64 (nI (el ns i))), AV.s (SV.int IntKind.i64 (nO (el ns i))), AV.s (SV.int IntKind.u8 (nE (el ns i))), AV.s (SV.str (nY (el ns i))), AV.s (SV.str (nT (el ns i))), AV.s (SV.str (nS (el ns i))), AV.s (SV.bool (nB (el ns i))), AV.s (SV.ro (Con.typ cV (nV (el ns i)))), AV.s (SV.ro (Con.strs (nZ (el ns i))))] (37 : Nat), AObj.own [AV.s (SV.str (nN (el ns i))), AV.s (SV.int IntKind.u8 (nK (el ns i))), AV.s (SV.int IntKind.i64 (nI (el ns i))), AV.s (SV.int IntKind.i64 (nO (el ns i))), AV.s (SV.int IntKind.u8 (nE (el ns i))), AV.s (SV.str (nY (el ns i))), AV.s (SV.str (nT (el ns i))), AV.s (SV.str (nS (el ns i))), AV.s (SV.bool (nB (el ns i))), AV.s (SV.ro (Con.typ cV (nV (el ns i)))), AV.s (SV.ro (Con.strs (nZ (el ns i))))] (37 : Nat)] (AV.s (SV.blit false))) (Tree.need (nZ (el ns i) = nZ (el ns i)) (Tree.ite false (Tree.ret [AObj.own [AV.s (SV.str a), AV.s (SV.ro (Con.typ cV vs)), AV.s (SV.ro (Con.typ cN ns)), AV.s (SV.ro (Con.typ cF fs))] (34 : Nat), AObj.own [AV.s (SV.str a), AV.s (SV.ro (Con.typ cV vs)), AV.s (SV.ro (Con.typ cN ns)), AV.s (SV.ro (Con.typ cF fs))] (34 : Nat), AObj.own [AV.s (SV.str (nN (el ns i))), AV.s (SV.int IntKind.u8 (nK (el ns i))), AV.s (SV.int IntKind.i64 (nI (el ns i))), AV.s (SV.int IntKind.i64 (nO (el ns i))), AV.s (SV.int IntKind.u8 (nE (el ns i))), AV.s (SV.str (nY (el ns i))), AV.s (SV.str (nT (el ns i))), AV.s (SV.str (nS (el ns i))), AV.s (SV.bool (nB (el ns i))), AV.s (SV.ro (Con.typ cV (nV (el ns i)))), AV.s (SV.ro (Con.strs (nZ (el ns i))))] (37 : Nat), AObj.own [AV.s (SV.str (nN (el ns i))), AV.s (SV.int IntKind.u8 (nK (el ns i))), AV.s (SV.int IntKind.i64 (nI (el ns i))), AV.s (SV.int IntKind.i64 (nO (el ns i))), AV.s (SV.int IntKind.u8 (nE (el ns i))), AV.s (SV.str (nY (el ns i))), AV.s (SV.str (nT (el ns i))), AV.s (SV.str (nS (el ns i))), AV.s (SV.bool (nB (el ns i))), AV.s (SV.ro (Con.typ cV (nV (el ns i)))), AV.s (SV.ro (Con.strs (nZ (el ns i))))] (37 : Nat)] (AV.s (SV.blit false))) (Tree.need (inI64 (i + (1 : Int))) (Tree.at (Cfg.mk (sl (152 : Nat) [((2 : Nat), AV.ptr (0 : Nat) (0 : Nat)), ((3 : Nat), AV.ptr (1 : Nat) (0 : Nat)), ((5 : Nat), AV.s (SV.int IntKind.i64 (i + (1 : Int))))]) [AObj.own [AV.s (SV.str a), AV.s (SV.ro (Con.typ cV vs)), AV.s (SV.ro (Con.typ cN ns)), AV.s (SV.ro (Con.typ cF fs))] (34 : Nat), AObj.own [AV.s (SV.str a), AV.s (SV.ro (Con.typ cV vs)), AV.s (SV.ro (Con.typ cN ns)), AV.s (SV.ro (Con.typ cF fs))] (34 : Nat)] (hd Try.f58 (4 : Nat)) (Stk.mk none false (0 : Nat) [] (0 : Nat))))))))))))))))))))))
  (Tree.at (Cfg.mk (sl (152 : Nat) [((2 : Nat), AV.ptr (0 : Nat) (0 : Nat)), ((3 : Nat), AV.ptr (1 : Nat) (0 : Nat)), ((8 : Nat), AV.s (SV.int IntKind.i64 (0 : Int)))]) [AObj.own [AV.s (SV.str a), AV.s (SV.ro (Con.typ cV vs)), AV.s (SV.ro (Con.typ cN ns)), AV.s (SV.ro (Con.typ cF fs))] (34 : Nat), AObj.own [AV.s (SV.str a), AV.s (SV.ro (Con.typ cV vs)), AV.s (SV.ro (Con.typ cN ns)), AV.s (SV.ro (Con.typ cF fs))] (34 : Nat)] (hd Try.f58 (10 : Nat)) (Stk.mk none false (0 : Nat) [] (0 : Nat)))) := by kernel_rfl
noncomputable def cPr2 (a : ByteArray) (vs : List (CL cV)) (ns : List (CL cN)) (fs : List (CL cF)) (i : Int) : Cfg := ⟨sl 152 [(2, .ptr 0 0), (3, .ptr 1 0), (8, avI i)], [obPr a vs ns fs, obPr a vs ns fs], hd Try.f58 10, {}⟩
theorem loopPr2 (a : ByteArray) (vs : List (CL cV)) (ns : List (CL cN)) (fs : List (CL cF)) (i : Int) : run P tabPr.sum Try.f58 nsPr (cPr2 a vs ns fs i) =
  Tree.ite (decide (i < (↑fs.length : Int))) (Tree.need ((0 : Int) ≤ i) (Tree.need (i < (↑fs.length : Int)) (Tree.need ((0 : Int) ≤ i) (Tree.need (i < (↑fs.length : Int)) (Tree.ite (!(fA (el fs i) == fA (el fs i) && (fB (el fs i) == fB (el fs i) && (decide (fC (el fs i) = fC (el fs i)) && (fD (el fs i) == fD (el fs i) && true))))) (Tree.ret [AObj.own [AV.s (SV.str a), AV.s (SV.ro (Con.typ cV vs)), AV.s (SV.ro (Con.typ cN ns)), AV.s (SV.ro (Con.typ cF fs))] (34 : Nat), AObj.own [AV.s (SV.str a), AV.s (SV.ro (Con.typ cV vs)), AV.s (SV.ro (Con.typ cN ns)), AV.s (SV.ro (Con.typ cF fs))] (34 : Nat)] (AV.s (SV.blit false))) (Tree.need (inI64 (i + (1 : Int))) (Tree.at (Cfg.mk (sl (152 : Nat) [((2 : Nat), AV.ptr (0 : Nat) (0 : Nat)), ((3 : Nat), AV.ptr (1 : Nat) (0 : Nat)), ((8 : Nat), AV.s (SV.int IntKind.i64 (i + (1 : Int))))]) [AObj.own [AV.s (SV.str a), AV.s (SV.ro (Con.typ cV vs)), AV.s (SV.ro (Con.typ cN ns)), AV.s (SV.ro (Con.typ cF fs))] (34 : Nat), AObj.own [AV.s (SV.str a), AV.s (SV.ro (Con.typ cV vs)), AV.s (SV.ro (Con.typ cN ns)), AV.s (SV.ro (Con.typ cF fs))] (34 : Nat)] (hd Try.f58 (10 : Nat)) (Stk.mk none false (0 : Nat) [] (0 : Nat)))))))))) (Tree.ret [AObj.own [AV.s (SV.str a), AV.s (SV.ro (Con.typ cV vs)), AV.s (SV.ro (Con.typ cN ns)), AV.s (SV.ro (Con.typ cF fs))] (34 : Nat), AObj.own [AV.s (SV.str a), AV.s (SV.ro (Con.typ cV vs)), AV.s (SV.ro (Con.typ cN ns)), AV.s (SV.ro (Con.typ cF fs))] (34 : Nat)] (AV.s (SV.blit true))) := by kernel_rfl
abbrev sumPr := sumOf [tPr, tPr] [tBool] (fun (a, b, ()) => [a = b]) (fun _ => (true, ()))
def tabSa : Tab := [(58, sumPr)]
def nsSa : List (Nat × Norm) := [(4, ⟨[], [2, 3, 5], 0, []⟩), (9, ⟨[], [2, 3, 6], 0, []⟩), (14, ⟨[], [2, 3, 7], 0, []⟩), (19, ⟨[], [2, 3, 8], 0, []⟩)]
theorem trSa (ck nx : Int) (ps : Ps) (is : Is) (cs : Cs) (ws : Ws) : run P tabSa.sum Try.f26 nsSa (start Try.f26 [avSt ck nx ps is cs ws, avSt ck nx ps is cs ws] []) =
  Tree.ite (ck != ck) (Tree.ret [AObj.own [AV.s (SV.int IntKind.i64 ck), AV.s (SV.int IntKind.i64 nx), AV.s (SV.ro (Con.typ cP ps)), AV.s (SV.ro (Con.typ cI is)), AV.s (SV.ro (Con.typ cC cs)), AV.s (SV.ro (Con.typ cW ws))] (27 : Nat), AObj.own [AV.s (SV.int IntKind.i64 ck), AV.s (SV.int IntKind.i64 nx), AV.s (SV.ro (Con.typ cP ps)), AV.s (SV.ro (Con.typ cI is)), AV.s (SV.ro (Con.typ cC cs)), AV.s (SV.ro (Con.typ cW ws))] (27 : Nat)] (AV.s (SV.blit false))) (Tree.ite (nx != nx) (Tree.ret [AObj.own [AV.s (SV.int IntKind.i64 ck), AV.s (SV.int IntKind.i64 nx), AV.s (SV.ro (Con.typ cP ps)), AV.s (SV.ro (Con.typ cI is)), AV.s (SV.ro (Con.typ cC cs)), AV.s (SV.ro (Con.typ cW ws))] (27 : Nat), AObj.own [AV.s (SV.int IntKind.i64 ck), AV.s (SV.int IntKind.i64 nx), AV.s (SV.ro (Con.typ cP ps)), AV.s (SV.ro (Con.typ cI is)), AV.s (SV.ro (Con.typ cC cs)), AV.s (SV.ro (Con.typ cW ws))] (27 : Nat)] (AV.s (SV.blit false))) (Tree.ite ((↑(List.length ps) : Int) != (↑(List.length ps) : Int)) (Tree.ret [AObj.own [AV.s (SV.int IntKind.i64 ck), AV.s (SV.int IntKind.i64 nx), AV.s (SV.ro (Con.typ cP ps)), AV.s (SV.ro (Con.typ cI is)), AV.s (SV.ro (Con.typ cC cs)), AV.s (SV.ro (Con.typ cW ws))] (27 : Nat), AObj.own [AV.s (SV.int IntKind.i64 ck), AV.s (SV.int IntKind.i64 nx), AV.s (SV.ro (Con.typ cP ps)), AV.s (SV.ro (Con.typ cI is)), AV.s (SV.ro (Con.typ cC cs)), AV.s (SV.ro (Con.typ cW ws))] (27 : Nat)] (AV.s (SV.blit false))) (Tree.ite ((↑(List.length is) : Int) != (↑(List.length is) : Int)) (Tree.ret [AObj.own [AV.s (SV.int IntKind.i64 ck), AV.s (SV.int IntKind.i64 nx), AV.s (SV.ro (Con.typ cP ps)), AV.s (SV.ro (Con.typ cI is)), AV.s (SV.ro (Con.typ cC cs)), AV.s (SV.ro (Con.typ cW ws))] (27 : Nat), AObj.own [AV.s (SV.int IntKind.i64 ck), AV.s (SV.int IntKind.i64 nx), AV.s (SV.ro (Con.typ cP ps)), AV.s (SV.ro (Con.typ cI is)), AV.s (SV.ro (Con.typ cC cs)), AV.s (SV.ro (Con.typ cW ws))] (27 : Nat)] (AV.s (SV.blit false))) (Tree.ite ((↑(List.length cs) : Int) != (↑(List.length cs) : Int)) (Tree.ret [AObj.own [AV.s (SV.int IntKind.i64 ck), AV.s (SV.int IntKind.i64 nx), AV.s (SV.ro (Con.typ cP ps)), AV.s (SV.ro (Con.typ cI is)), AV.s (SV.ro (Con.typ cC cs)), AV.s (SV.ro (Con.typ cW ws))] (27 : Nat), AObj.own [AV.s (SV.int IntKind.i64 ck), AV.s (SV.int IntKind.i64 nx), AV.s (SV.ro (Con.typ cP ps)), AV.s (SV.ro (Con.typ cI is)), AV.s (SV.ro (Con.typ cC cs)), AV.s (SV.ro (Con.typ cW ws))] (27 : Nat)] (AV.s (SV.blit false))) (Tree.ite ((↑(List.length ws) : Int) != (↑(List.length ws) : Int)) (Tree.ret [AObj.own [AV.s (SV.int IntKind.i64 ck), AV.s (SV.int IntKind.i64 nx), AV.s (SV.ro (Con.typ cP ps)), AV.s (SV.ro (Con.typ cI is)), AV.s (SV.ro (Con.typ cC cs)), AV.s (SV.ro (Con.typ cW ws))] (27 : Nat), AObj.own [AV.s (SV.int IntKind.i64 ck), AV.s (SV.int IntKind.i64 nx), AV.s (SV.ro (Con.typ cP ps)), AV.s (SV.ro (Con.typ cI is)), AV.s (SV.ro (Con.typ cC cs)), AV.s (SV.ro (Con.typ cW ws))] (27 : Nat)] (AV.s (SV.blit false))) (Tree.at (Cfg.mk (sl (130 : Nat) [((2 : Nat), AV.ptr (0 : Nat) (0 : Nat)), ((3 : Nat), AV.ptr (1 : Nat) (0 : Nat)), ((5 : Nat), AV.s (SV.int IntKind.i64 (0 : Int)))]) [AObj.own [AV.s (SV.int IntKind.i64 ck), AV.s (SV.int IntKind.i64 nx), AV.s (SV.ro (Con.typ cP ps)), AV.s (SV.ro (Con.typ cI is)), AV.s (SV.ro (Con.typ cC cs)), AV.s (SV.ro (Con.typ cW ws))] (27 : Nat), AObj.own [AV.s (SV.int IntKind.i64 ck), AV.s (SV.int IntKind.i64 nx), AV.s (SV.ro (Con.typ cP ps)), AV.s (SV.ro (Con.typ cI is)), AV.s (SV.ro (Con.typ cC cs)), AV.s (SV.ro (Con.typ cW ws))] (27 : Nat)] (hd Try.f26 (4 : Nat)) (Stk.mk none false (0 : Nat) [] (0 : Nat))))))))) := by kernel_rfl
noncomputable def cSa (ck nx : Int) (ps : Ps) (is : Is) (cs : Cs) (ws : Ws) (k r : Nat) (i : Int) : Cfg := ⟨sl 130 [(2, .ptr 0 0), (3, .ptr 1 0), (k, avI i)], [obSt ck nx ps is cs ws, obSt ck nx ps is cs ws], hd Try.f26 r, {}⟩
theorem loopSa1 (ck nx : Int) (ps : Ps) (is : Is) (cs : Cs) (ws : Ws) (i : Int) : run P tabSa.sum Try.f26 nsSa (cSa ck nx ps is cs ws 5 4 i) =
  Tree.ite (decide (i < (↑(List.length ps) : Int))) (Tree.need ((0 : Int) ≤ i) (Tree.need (i < (↑(List.length ps) : Int)) (Tree.need ((0 : Int) ≤ i) (Tree.need (i < (↑(List.length ps) : Int)) (Tree.need ((pN (el ps i), pV (el ps i), pO (el ps i), pF (el ps i), ()) = (pN (el ps i), pV (el ps i), pO (el ps i), pF (el ps i), ())) (Tree.ite false (Tree.ret [AObj.own [AV.s (SV.int IntKind.i64 ck), AV.s (SV.int IntKind.i64 nx), AV.s (SV.ro (Con.typ cP ps)), AV.s (SV.ro (Con.typ cI is)), AV.s (SV.ro (Con.typ cC cs)), AV.s (SV.ro (Con.typ cW ws))] (27 : Nat), AObj.own [AV.s (SV.int IntKind.i64 ck), AV.s (SV.int IntKind.i64 nx), AV.s (SV.ro (Con.typ cP ps)), AV.s (SV.ro (Con.typ cI is)), AV.s (SV.ro (Con.typ cC cs)), AV.s (SV.ro (Con.typ cW ws))] (27 : Nat)] (AV.s (SV.blit false))) (Tree.need (inI64 (i + (1 : Int))) (Tree.at (Cfg.mk (sl (130 : Nat) [((2 : Nat), AV.ptr (0 : Nat) (0 : Nat)), ((3 : Nat), AV.ptr (1 : Nat) (0 : Nat)), ((5 : Nat), AV.s (SV.int IntKind.i64 (i + (1 : Int))))]) [AObj.own [AV.s (SV.int IntKind.i64 ck), AV.s (SV.int IntKind.i64 nx), AV.s (SV.ro (Con.typ cP ps)), AV.s (SV.ro (Con.typ cI is)), AV.s (SV.ro (Con.typ cC cs)), AV.s (SV.ro (Con.typ cW ws))] (27 : Nat), AObj.own [AV.s (SV.int IntKind.i64 ck), AV.s (SV.int IntKind.i64 nx), AV.s (SV.ro (Con.typ cP ps)), AV.s (SV.ro (Con.typ cI is)), AV.s (SV.ro (Con.typ cC cs)), AV.s (SV.ro (Con.typ cW ws))] (27 : Nat)] (hd Try.f26 (4 : Nat)) (Stk.mk none false (0 : Nat) [] (0 : Nat))))))))))) (Tree.at (Cfg.mk (sl (130 : Nat) [((2 : Nat), AV.ptr (0 : Nat) (0 : Nat)), ((3 : Nat), AV.ptr (1 : Nat) (0 : Nat)), ((6 : Nat), AV.s (SV.int IntKind.i64 (0 : Int)))]) [AObj.own [AV.s (SV.int IntKind.i64 ck), AV.s (SV.int IntKind.i64 nx), AV.s (SV.ro (Con.typ cP ps)), AV.s (SV.ro (Con.typ cI is)), AV.s (SV.ro (Con.typ cC cs)), AV.s (SV.ro (Con.typ cW ws))] (27 : Nat), AObj.own [AV.s (SV.int IntKind.i64 ck), AV.s (SV.int IntKind.i64 nx), AV.s (SV.ro (Con.typ cP ps)), AV.s (SV.ro (Con.typ cI is)), AV.s (SV.ro (Con.typ cC cs)), AV.s (SV.ro (Con.typ cW ws))] (27 : Nat)] (hd Try.f26 (9 : Nat)) (Stk.mk none false (0 : Nat) [] (0 : Nat)))) := by kernel_rfl
theorem loopSa2 (ck nx : Int) (ps : Ps) (is : Is) (cs : Cs) (ws : Ws) (i : Int) : run P tabSa.sum Try.f26 nsSa (cSa ck nx ps is cs ws 6 9 i) =
  Tree.ite (decide (i < (↑(List.length is) : Int))) (Tree.need ((0 : Int) ≤ i) (Tree.need (i < (↑(List.length is) : Int)) (Tree.need ((0 : Int) ≤ i) (Tree.need (i < (↑(List.length is) : Int)) (Tree.ite (!(iI (el is i) == iI (el is i) && (iU (el is i) == iU (el is i) && (iS (el is i) == iS (el is i) && (decide (iP (el is i) = iP (el is i)) && (iN (el is i) == iN (el is i) && (iF (el is i) == iF (el is i) && (iW (el is i) == iW (el is i) && (decide (iC (el is i) = iC (el is i)) && true))))))))) (Tree.ret [AObj.own [AV.s (SV.int IntKind.i64 ck), AV.s (SV.int IntKind.i64 nx), AV.s (SV.ro (Con.typ cP ps)), AV.s (SV.ro (Con.typ cI is)), AV.s (SV.ro (Con.typ cC cs)), AV.s (SV.ro (Con.typ cW ws))] (27 : Nat), AObj.own [AV.s (SV.int IntKind.i64 ck), AV.s (SV.int IntKind.i64 nx), AV.s (SV.ro (Con.typ cP ps)), AV.s (SV.ro (Con.typ cI is)), AV.s (SV.ro (Con.typ cC cs)), AV.s (SV.ro (Con.typ cW ws))] (27 : Nat)] (AV.s (SV.blit false))) (Tree.need (inI64 (i + (1 : Int))) (Tree.at (Cfg.mk (sl (130 : Nat) [((2 : Nat), AV.ptr (0 : Nat) (0 : Nat)), ((3 : Nat), AV.ptr (1 : Nat) (0 : Nat)), ((6 : Nat), AV.s (SV.int IntKind.i64 (i + (1 : Int))))]) [AObj.own [AV.s (SV.int IntKind.i64 ck), AV.s (SV.int IntKind.i64 nx), AV.s (SV.ro (Con.typ cP ps)), AV.s (SV.ro (Con.typ cI is)), AV.s (SV.ro (Con.typ cC cs)), AV.s (SV.ro (Con.typ cW ws))] (27 : Nat), AObj.own [AV.s (SV.int IntKind.i64 ck), AV.s (SV.int IntKind.i64 nx), AV.s (SV.ro (Con.typ cP ps)), AV.s (SV.ro (Con.typ cI is)), AV.s (SV.ro (Con.typ cC cs)), AV.s (SV.ro (Con.typ cW ws))] (27 : Nat)] (hd Try.f26 (9 : Nat)) (Stk.mk none false (0 : Nat) [] (0 : Nat)))))))))) (Tree.at (Cfg.mk (sl (130 : Nat) [((2 : Nat), AV.ptr (0 : Nat) (0 : Nat)), ((3 : Nat), AV.ptr (1 : Nat) (0 : Nat)), ((7 : Nat), AV.s (SV.int IntKind.i64 (0 : Int)))]) [AObj.own [AV.s (SV.int IntKind.i64 ck), AV.s (SV.int IntKind.i64 nx), AV.s (SV.ro (Con.typ cP ps)), AV.s (SV.ro (Con.typ cI is)), AV.s (SV.ro (Con.typ cC cs)), AV.s (SV.ro (Con.typ cW ws))] (27 : Nat), AObj.own [AV.s (SV.int IntKind.i64 ck), AV.s (SV.int IntKind.i64 nx), AV.s (SV.ro (Con.typ cP ps)), AV.s (SV.ro (Con.typ cI is)), AV.s (SV.ro (Con.typ cC cs)), AV.s (SV.ro (Con.typ cW ws))] (27 : Nat)] (hd Try.f26 (14 : Nat)) (Stk.mk none false (0 : Nat) [] (0 : Nat)))) := by kernel_rfl
theorem loopSa3 (ck nx : Int) (ps : Ps) (is : Is) (cs : Cs) (ws : Ws) (i : Int) : run P tabSa.sum Try.f26 nsSa (cSa ck nx ps is cs ws 7 14 i) =
  Tree.ite (decide (i < (↑(List.length cs) : Int))) (Tree.need ((0 : Int) ≤ i) (Tree.need (i < (↑(List.length cs) : Int)) (Tree.need ((0 : Int) ≤ i) (Tree.need (i < (↑(List.length cs) : Int)) (Tree.ite (!(lS (el cs i) == lS (el cs i) && (decide (lN (el cs i) = lN (el cs i)) && (lK (el cs i) == lK (el cs i) && (lV (el cs i) == lV (el cs i) && (decide (lT (el cs i) = lT (el cs i)) && true)) && true)))) (Tree.ret [AObj.own [AV.s (SV.int IntKind.i64 ck), AV.s (SV.int IntKind.i64 nx), AV.s (SV.ro (Con.typ cP ps)), AV.s (SV.ro (Con.typ cI is)), AV.s (SV.ro (Con.typ cC cs)), AV.s (SV.ro (Con.typ cW ws))] (27 : Nat), AObj.own [AV.s (SV.int IntKind.i64 ck), AV.s (SV.int IntKind.i64 nx), AV.s (SV.ro (Con.typ cP ps)), AV.s (SV.ro (Con.typ cI is)), AV.s (SV.ro (Con.typ cC cs)), AV.s (SV.ro (Con.typ cW ws))] (27 : Nat)] (AV.s (SV.blit false))) (Tree.need (inI64 (i + (1 : Int))) (Tree.at (Cfg.mk (sl (130 : Nat) [((2 : Nat), AV.ptr (0 : Nat) (0 : Nat)), ((3 : Nat), AV.ptr (1 : Nat) (0 : Nat)), ((7 : Nat), AV.s (SV.int IntKind.i64 (i + (1 : Int))))]) [AObj.own [AV.s (SV.int IntKind.i64 ck), AV.s (SV.int IntKind.i64 nx), AV.s (SV.ro (Con.typ cP ps)), AV.s (SV.ro (Con.typ cI is)), AV.s (SV.ro (Con.typ cC cs)), AV.s (SV.ro (Con.typ cW ws))] (27 : Nat), AObj.own [AV.s (SV.int IntKind.i64 ck), AV.s (SV.int IntKind.i64 nx), AV.s (SV.ro (Con.typ cP ps)), AV.s (SV.ro (Con.typ cI is)), AV.s (SV.ro (Con.typ cC cs)), AV.s (SV.ro (Con.typ cW ws))] (27 : Nat)] (hd Try.f26 (14 : Nat)) (Stk.mk none false (0 : Nat) [] (0 : Nat)))))))))) (Tree.at (Cfg.mk (sl (130 : Nat) [((2 : Nat), AV.ptr (0 : Nat) (0 : Nat)), ((3 : Nat), AV.ptr (1 : Nat) (0 : Nat)), ((8 : Nat), AV.s (SV.int IntKind.i64 (0 : Int)))]) [AObj.own [AV.s (SV.int IntKind.i64 ck), AV.s (SV.int IntKind.i64 nx), AV.s (SV.ro (Con.typ cP ps)), AV.s (SV.ro (Con.typ cI is)), AV.s (SV.ro (Con.typ cC cs)), AV.s (SV.ro (Con.typ cW ws))] (27 : Nat), AObj.own [AV.s (SV.int IntKind.i64 ck), AV.s (SV.int IntKind.i64 nx), AV.s (SV.ro (Con.typ cP ps)), AV.s (SV.ro (Con.typ cI is)), AV.s (SV.ro (Con.typ cC cs)), AV.s (SV.ro (Con.typ cW ws))] (27 : Nat)] (hd Try.f26 (19 : Nat)) (Stk.mk none false (0 : Nat) [] (0 : Nat)))) := by kernel_rfl
theorem loopSa4 (ck nx : Int) (ps : Ps) (is : Is) (cs : Cs) (ws : Ws) (i : Int) : run P tabSa.sum Try.f26 nsSa (cSa ck nx ps is cs ws 8 19 i) =
  Tree.ite (decide (i < (↑(List.length ws) : Int))) (Tree.need ((0 : Int) ≤ i) (Tree.need (i < (↑(List.length ws) : Int)) (Tree.need ((0 : Int) ≤ i) (Tree.need (i < (↑(List.length ws) : Int)) (Tree.ite (!(wI (el ws i) == wI (el ws i) && (wT (el ws i) == wT (el ws i) && (wN (el ws i) == wN (el ws i) && (wE (el ws i) == wE (el ws i) && (decide (wK (el ws i) = wK (el ws i)) && (wD (el ws i) == wD (el ws i) && (wA (el ws i) == wA (el ws i) && true)))))))) (Tree.ret [AObj.own [AV.s (SV.int IntKind.i64 ck), AV.s (SV.int IntKind.i64 nx), AV.s (SV.ro (Con.typ cP ps)), AV.s (SV.ro (Con.typ cI is)), AV.s (SV.ro (Con.typ cC cs)), AV.s (SV.ro (Con.typ cW ws))] (27 : Nat), AObj.own [AV.s (SV.int IntKind.i64 ck), AV.s (SV.int IntKind.i64 nx), AV.s (SV.ro (Con.typ cP ps)), AV.s (SV.ro (Con.typ cI is)), AV.s (SV.ro (Con.typ cC cs)), AV.s (SV.ro (Con.typ cW ws))] (27 : Nat)] (AV.s (SV.blit false))) (Tree.need (inI64 (i + (1 : Int))) (Tree.at (Cfg.mk (sl (130 : Nat) [((2 : Nat), AV.ptr (0 : Nat) (0 : Nat)), ((3 : Nat), AV.ptr (1 : Nat) (0 : Nat)), ((8 : Nat), AV.s (SV.int IntKind.i64 (i + (1 : Int))))]) [AObj.own [AV.s (SV.int IntKind.i64 ck), AV.s (SV.int IntKind.i64 nx), AV.s (SV.ro (Con.typ cP ps)), AV.s (SV.ro (Con.typ cI is)), AV.s (SV.ro (Con.typ cC cs)), AV.s (SV.ro (Con.typ cW ws))] (27 : Nat), AObj.own [AV.s (SV.int IntKind.i64 ck), AV.s (SV.int IntKind.i64 nx), AV.s (SV.ro (Con.typ cP ps)), AV.s (SV.ro (Con.typ cI is)), AV.s (SV.ro (Con.typ cC cs)), AV.s (SV.ro (Con.typ cW ws))] (27 : Nat)] (hd Try.f26 (19 : Nat)) (Stk.mk none false (0 : Nat) [] (0 : Nat)))))))))) (Tree.ret [AObj.own [AV.s (SV.int IntKind.i64 ck), AV.s (SV.int IntKind.i64 nx), AV.s (SV.ro (Con.typ cP ps)), AV.s (SV.ro (Con.typ cI is)), AV.s (SV.ro (Con.typ cC cs)), AV.s (SV.ro (Con.typ cW ws))] (27 : Nat), AObj.own [AV.s (SV.int IntKind.i64 ck), AV.s (SV.int IntKind.i64 nx), AV.s (SV.ro (Con.typ cP ps)), AV.s (SV.ro (Con.typ cI is)), AV.s (SV.ro (Con.typ cC cs)), AV.s (SV.ro (Con.typ cW ws))] (27 : Nat)] (AV.s (SV.blit true))) := by kernel_rfl
end Ds

namespace Ds
open Go Go.Sx Go.Proofs Lf
def nsIn : List (Nat × Norm) := [(2, ⟨[], [0, 1, 5], 0, []⟩)]
theorem trIn (l : List Int) (x : Int) : run P tab0.sum Try.f30 nsIn (start Try.f30 [avL l, avI x] []) =
  Tree.at (Cfg.mk (sl (18 : Nat) [((0 : Nat), AV.s (SV.ro (Con.ints IntKind.i64 l))), ((1 : Nat), AV.s (SV.int IntKind.i64 x)), ((5 : Nat), AV.s (SV.int IntKind.i64 (0 : Int)))]) [] (hd Try.f30 (2 : Nat)) (Stk.mk none false (0 : Nat) [] (0 : Nat))) := by kernel_rfl
noncomputable def cIn (l : List Int) (x i : Int) : Cfg := ⟨sl 18 [(0, avL l), (1, avI x), (5, avI i)], [], hd Try.f30 2, {}⟩
theorem loopIn (l : List Int) (x i : Int) : run P tab0.sum Try.f30 nsIn (cIn l x i) =
  Tree.ite (decide (i < (↑l.length : Int))) (Tree.need ((0 : Int) ≤ i) (Tree.need (i < (↑l.length : Int)) (Tree.ite (l.getD i.toNat (0 : Int) == x) (Tree.ret [] (AV.s (SV.blit true))) (Tree.need (inI64 (i + (1 : Int))) (Tree.at (Cfg.mk (sl (18 : Nat) [((0 : Nat), AV.s (SV.ro (Con.ints IntKind.i64 l))), ((1 : Nat), AV.s (SV.int IntKind.i64 x)), ((5 : Nat), AV.s (SV.int IntKind.i64 (i + (1 : Int))))]) [] (hd Try.f30 (2 : Nat)) (Stk.mk none false (0 : Nat) [] (0 : Nat)))))))) (Tree.ret [] (AV.s (SV.blit false))) := by kernel_rfl
theorem trEq (a b : List Int) : run P tab0.sum Try.f37 nsVs (start Try.f37 [avL a, avL b] []) =
  Tree.ite ((↑a.length : Int) != (↑b.length : Int)) (Tree.ret [] (AV.s (SV.blit false))) (Tree.at (Cfg.mk (sl (26 : Nat) [((0 : Nat), AV.s (SV.ro (Con.ints IntKind.i64 a))), ((1 : Nat), AV.s (SV.ro (Con.ints IntKind.i64 b))), ((5 : Nat), AV.s (SV.int IntKind.i64 (0 : Int)))]) [] (hd Try.f37 (4 : Nat)) (Stk.mk none false (0 : Nat) [] (0 : Nat)))) := by kernel_rfl
noncomputable def cEq (a b : List Int) (i : Int) : Cfg := ⟨sl 26 [(0, avL a), (1, avL b), (5, avI i)], [], hd Try.f37 4, {}⟩
theorem loopEq (a b : List Int) (i : Int) : run P tab0.sum Try.f37 nsVs (cEq a b i) =
  Tree.ite (decide (i < (↑a.length : Int))) (Tree.need ((0 : Int) ≤ i) (Tree.need (i < (↑a.length : Int)) (Tree.need ((0 : Int) ≤ i) (Tree.need (i < (↑b.length : Int)) (Tree.ite (a.getD i.toNat (0 : Int) != b.getD i.toNat (0 : Int)) (Tree.ret [] (AV.s (SV.blit false))) (Tree.need (inI64 (i + (1 : Int))) (Tree.at (Cfg.mk (sl (26 : Nat) [((0 : Nat), AV.s (SV.ro (Con.ints IntKind.i64 a))), ((1 : Nat), AV.s (SV.ro (Con.ints IntKind.i64 b))), ((5 : Nat), AV.s (SV.int IntKind.i64 (i + (1 : Int))))]) [] (hd Try.f37 (4 : Nat)) (Stk.mk none false (0 : Nat) [] (0 : Nat)))))))))) (Tree.ret [] (AV.s (SV.blit true))) := by kernel_rfl
def nsLe : List (Nat × Norm) := [(4, ⟨[], [1, 2, 5], 0, []⟩)]
theorem trLe (ck nx : Int) (ps : Ps) (is : Is) (cs : Cs) (ws : Ws) (l : List Int) : run P tab0.sum Try.f35 nsLe (start Try.f35 [avSt ck nx ps is cs ws, avL l] []) =
  Tree.ite ((↑(List.length is) : Int) != (↑l.length : Int)) (Tree.ret [AObj.own [AV.s (SV.int IntKind.i64 ck), AV.s (SV.int IntKind.i64 nx), AV.s (SV.ro (Con.typ cP ps)), AV.s (SV.ro (Con.typ cI is)), AV.s (SV.ro (Con.typ cC cs)), AV.s (SV.ro (Con.typ cW ws))] (27 : Nat)] (AV.s (SV.blit false))) (Tree.ite ((↑(List.length cs) : Int) != (↑l.length : Int)) (Tree.ret [AObj.own [AV.s (SV.int IntKind.i64 ck), AV.s (SV.int IntKind.i64 nx), AV.s (SV.ro (Con.typ cP ps)), AV.s (SV.ro (Con.typ cI is)), AV.s (SV.ro (Con.typ cC cs)), AV.s (SV.ro (Con.typ cW ws))] (27 : Nat)] (AV.s (SV.blit false))) (Tree.ite (ck != (7 : Int)) (Tree.ret [AObj.own [AV.s (SV.int IntKind.i64 ck), AV.s (SV.int IntKind.i64 nx), AV.s (SV.ro (Con.typ cP ps)), AV.s (SV.ro (Con.typ cI is)), AV.s (SV.ro (Con.typ cC cs)), AV.s (SV.ro (Con.typ cW ws))] (27 : Nat)] (AV.s (SV.blit false))) (Tree.ite (nx != (9 : Int)) (Tree.ret [AObj.own [AV.s (SV.int IntKind.i64 ck), AV.s (SV.int IntKind.i64 nx), AV.s (SV.ro (Con.typ cP ps)), AV.s (SV.ro (Con.typ cI is)), AV.s (SV.ro (Con.typ cC cs)), AV.s (SV.ro (Con.typ cW ws))] (27 : Nat)] (AV.s (SV.blit false))) (Tree.at (Cfg.mk (sl (60 : Nat) [((1 : Nat), AV.s (SV.ro (Con.ints IntKind.i64 l))), ((2 : Nat), AV.ptr (0 : Nat) (0 : Nat)), ((5 : Nat), AV.s (SV.int IntKind.i64 (0 : Int)))]) [AObj.own [AV.s (SV.int IntKind.i64 ck), AV.s (SV.int IntKind.i64 nx), AV.s (SV.ro (Con.typ cP ps)), AV.s (SV.ro (Con.typ cI is)), AV.s (SV.ro (Con.typ cC cs)), AV.s (SV.ro (Con.typ cW ws))] (27 : Nat)] (hd Try.f35 (4 : Nat)) (Stk.mk none false (0 : Nat) [] (0 : Nat))))))) := by kernel_rfl
noncomputable def cLe (ck nx : Int) (ps : Ps) (is : Is) (cs : Cs) (ws : Ws) (l : List Int) (i : Int) : Cfg := ⟨sl 60 [(1, avL l), (2, .ptr 0 0), (5, avI i)], [obSt ck nx ps is cs ws], hd Try.f35 4, {}⟩
theorem loopLe (ck nx : Int) (ps : Ps) (is : Is) (cs : Cs) (ws : Ws) (l : List Int) (i : Int) : run P tab0.sum Try.f35 nsLe (cLe ck nx ps is cs ws l i) =
  Tree.ite (decide (i < (↑l.length : Int))) (Tree.need ((0 : Int) ≤ i) (Tree.need (i < (↑(List.length is) : Int)) (Tree.need ((0 : Int) ≤ i) (Tree.need (i < (↑l.length : Int)) (Tree.ite (iI (el is i) != l.getD i.toNat (0 : Int)) (Tree.ret [AObj.own [AV.s (SV.int IntKind.i64 ck), AV.s (SV.int IntKind.i64 nx), AV.s (SV.ro (Con.typ cP ps)), AV.s (SV.ro (Con.typ cI is)), AV.s (SV.ro (Con.typ cC cs)), AV.s (SV.ro (Con.typ cW ws))] (27 : Nat)] (AV.s (SV.blit false))) (Tree.need ((0 : Int) ≤ i) (Tree.need (i < (↑(List.length cs) : Int)) (Tree.need ((0 : Int) ≤ i) (Tree.need (i < (↑l.length : Int)) (Tree.ite (lS (el cs i) != l.getD i.toNat (0 : Int)) (Tree.ret [AObj.own [AV.s (SV.int IntKind.i64 ck), AV.s (SV.int IntKind.i64 nx), AV.s (SV.ro (Con.typ cP ps)), AV.s (SV.ro (Con.typ cI is)), AV.s (SV.ro (Con.typ cC cs)), AV.s (SV.ro (Con.typ cW ws))] (27 : Nat)] (AV.s (SV.blit false))) (Tree.need (inI64 (i + (1 : Int))) (Tree.at (Cfg.mk (sl (60 : Nat) [((1 : Nat), AV.s (SV.ro (Con.ints IntKind.i64 l))), ((2 : Nat), AV.ptr (0 : Nat) (0 : Nat)), ((5 : Nat), AV.s (SV.int IntKind.i64 (i + (1 : Int))))]) [AObj.own [AV.s (SV.int IntKind.i64 ck), AV.s (SV.int IntKind.i64 nx), AV.s (SV.ro (Con.typ cP ps)), AV.s (SV.ro (Con.typ cI is)), AV.s (SV.ro (Con.typ cC cs)), AV.s (SV.ro (Con.typ cW ws))] (27 : Nat)] (hd Try.f35 (4 : Nat)) (Stk.mk none false (0 : Nat) [] (0 : Nat))))))))))))))) (Tree.ret [AObj.own [AV.s (SV.int IntKind.i64 ck), AV.s (SV.int IntKind.i64 nx), AV.s (SV.ro (Con.typ cP ps)), AV.s (SV.ro (Con.typ cI is)), AV.s (SV.ro (Con.typ cC cs)), AV.s (SV.ro (Con.typ cW ws))] (27 : Nat)] (AV.s (SV.blit true))) := by kernel_rfl
theorem trWd (ck nx : Int) (ps : Ps) (is : Is) (cs : Cs) (ws : Ws) (l : List Int) : run P tab0.sum Try.f33 nsLe (start Try.f33 [avSt ck nx ps is cs ws, avL l] []) =
  Tree.ite ((↑(List.length ws) : Int) != (↑l.length : Int)) (Tree.ret [AObj.own [AV.s (SV.int IntKind.i64 ck), AV.s (SV.int IntKind.i64 nx), AV.s (SV.ro (Con.typ cP ps)), AV.s (SV.ro (Con.typ cI is)), AV.s (SV.ro (Con.typ cC cs)), AV.s (SV.ro (Con.typ cW ws))] (27 : Nat)] (AV.s (SV.blit false))) (Tree.at (Cfg.mk (sl (29 : Nat) [((1 : Nat), AV.s (SV.ro (Con.ints IntKind.i64 l))), ((2 : Nat), AV.ptr (0 : Nat) (0 : Nat)), ((5 : Nat), AV.s (SV.int IntKind.i64 (0 : Int)))]) [AObj.own [AV.s (SV.int IntKind.i64 ck), AV.s (SV.int IntKind.i64 nx), AV.s (SV.ro (Con.typ cP ps)), AV.s (SV.ro (Con.typ cI is)), AV.s (SV.ro (Con.typ cC cs)), AV.s (SV.ro (Con.typ cW ws))] (27 : Nat)] (hd Try.f33 (4 : Nat)) (Stk.mk none false (0 : Nat) [] (0 : Nat)))) := by kernel_rfl
noncomputable def cWd (ck nx : Int) (ps : Ps) (is : Is) (cs : Cs) (ws : Ws) (l : List Int) (i : Int) : Cfg := ⟨sl 29 [(1, avL l), (2, .ptr 0 0), (5, avI i)], [obSt ck nx ps is cs ws], hd Try.f33 4, {}⟩
theorem loopWd (ck nx : Int) (ps : Ps) (is : Is) (cs : Cs) (ws : Ws) (l : List Int) (i : Int) : run P tab0.sum Try.f33 nsLe (cWd ck nx ps is cs ws l i) =
  Tree.ite (decide (i < (↑l.length : Int))) (Tree.need ((0 : Int) ≤ i) (Tree.need (i < (↑(List.length ws) : Int)) (Tree.need ((0 : Int) ≤ i) (Tree.need (i < (↑l.length : Int)) (Tree.ite (wT (el ws i) != l.getD i.toNat (0 : Int)) (Tree.ret [AObj.own [AV.s (SV.int IntKind.i64 ck), AV.s (SV.int IntKind.i64 nx), AV.s (SV.ro (Con.typ cP ps)), AV.s (SV.ro (Con.typ cI is)), AV.s (SV.ro (Con.typ cC cs)), AV.s (SV.ro (Con.typ cW ws))] (27 : Nat)] (AV.s (SV.blit false))) (Tree.need (inI64 (i + (1 : Int))) (Tree.at (Cfg.mk (sl (29 : Nat) [((1 : Nat), AV.s (SV.ro (Con.ints IntKind.i64 l))), ((2 : Nat), AV.ptr (0 : Nat) (0 : Nat)), ((5 : Nat), AV.s (SV.int IntKind.i64 (i + (1 : Int))))]) [AObj.own [AV.s (SV.int IntKind.i64 ck), AV.s (SV.int IntKind.i64 nx), AV.s (SV.ro (Con.typ cP ps)), AV.s (SV.ro (Con.typ cI is)), AV.s (SV.ro (Con.typ cC cs)), AV.s (SV.ro (Con.typ cW ws))] (27 : Nat)] (hd Try.f33 (4 : Nat)) (Stk.mk none false (0 : Nat) [] (0 : Nat)))))))))) (Tree.ret [AObj.own [AV.s (SV.int IntKind.i64 ck), AV.s (SV.int IntKind.i64 nx), AV.s (SV.ro (Con.typ cP ps)), AV.s (SV.ro (Con.typ cI is)), AV.s (SV.ro (Con.typ cC cs)), AV.s (SV.ro (Con.typ cW ws))] (27 : Nat)] (AV.s (SV.blit true))) := by kernel_rfl
theorem trLg (ck nx : Int) (ps : Ps) (is : Is) (cs : Cs) (ws : Ws) : run P tab0.sum Try.f24 [] (start Try.f24 [avSt ck nx ps is cs ws] []) =
  Tree.ite (decide ((↑(List.length is) : Int) > (170 : Int))) (Tree.ret [AObj.own [AV.s (SV.int IntKind.i64 ck), AV.s (SV.int IntKind.i64 nx), AV.s (SV.ro (Con.typ cP ps)), AV.s (SV.ro (Con.typ cI is)), AV.s (SV.ro (Con.typ cC cs)), AV.s (SV.ro (Con.typ cW ws))] (27 : Nat)] (AV.s (SV.blit true))) (Tree.ite (decide ((↑(List.length cs) : Int) > (300 : Int))) (Tree.ret [AObj.own [AV.s (SV.int IntKind.i64 ck), AV.s (SV.int IntKind.i64 nx), AV.s (SV.ro (Con.typ cP ps)), AV.s (SV.ro (Con.typ cI is)), AV.s (SV.ro (Con.typ cC cs)), AV.s (SV.ro (Con.typ cW ws))] (27 : Nat)] (AV.s (SV.blit true))) (Tree.ite (decide ((↑(List.length ws) : Int) > (300 : Int))) (Tree.ret [AObj.own [AV.s (SV.int IntKind.i64 ck), AV.s (SV.int IntKind.i64 nx), AV.s (SV.ro (Con.typ cP ps)), AV.s (SV.ro (Con.typ cI is)), AV.s (SV.ro (Con.typ cC cs)), AV.s (SV.ro (Con.typ cW ws))] (27 : Nat)] (AV.s (SV.blit true))) (Tree.ret [AObj.own [AV.s (SV.int IntKind.i64 ck), AV.s (SV.int IntKind.i64 nx), AV.s (SV.ro (Con.typ cP ps)), AV.s (SV.ro (Con.typ cI is)), AV.s (SV.ro (Con.typ cC cs)), AV.s (SV.ro (Con.typ cW ws))] (27 : Nat)] (AV.s (SV.bool (decide ((↑(List.length ps) : Int) > (12 : Int)))))))) := by kernel_rfl
def nsTo : List (Nat × Norm) := [(unrollKey + 3, ⟨[], [], 0, []⟩)]
theorem trTo  : run P tab0.sum Try.f32 nsTo (start Try.f32 [] []) =
  Tree.need ((1 : Nat) * (56 : Nat) ≤ (140737488355328 : Nat))
  (Tree.need ((1 : Nat) * (64 : Nat) ≤ (140737488355328 : Nat))
    (Tree.need (((1 : Nat) + (1 : Nat)) * (56 : Nat) ≤ (140737488355328 : Nat)) (Tree.need (((1 : Nat) + (1 : Nat)) * (64 : Nat) ≤ (140737488355328 : Nat)) (Tree.need (((2 : Nat) + (1 : Nat)) * (56 : Nat) ≤ (140737488355328 : Nat)) (Tree.need (((2 : Nat) + (1 : Nat)) * (64 : Nat) ≤ (140737488355328 : Nat)) (Tree.need (((3 : Nat) + (1 : Nat)) * (56 : Nat) ≤ (140737488355328 : Nat)) (Tree.need (((3 : Nat) + (1 : Nat)) * (64 : Nat) ≤ (140737488355328 : Nat)) (Tree.need (((4 : Nat) + (1 : Nat)) * (56 : Nat) ≤ (140737488355328 : Nat)) (Tree.need (((4 : Nat) + (1 : Nat)) * (64 : Nat) ≤ (140737488355328 : Nat)) (Tree.ret [AObj.own [AV.s (SV.ilit IntKind.i64 (7 : Int)), AV.s (SV.ilit IntKind.i64 (9 : Int)), AV.emp, AV.vec (1 : Nat), AV.vec (20 : Nat), AV.vec (22 : Nat)] (27 : Nat), AObj.vec (Con.typ cI [((1 : Int), (0 : Int), (1 : Int), ByteArray.empty, (-1 : Int), (0 : Int), (0 : Int), ByteArray.empty, ()), ((2 : Int), (1 : Int), (2 : Int), ByteArray.empty, (0 : Int), (0 : Int), (0 : Int), ByteArray.empty, ()), ((3 : Int), (2 : Int), (1 : Int), ByteArray.empty, (0 : Int), (0 : Int), (0 : Int), ByteArray.empty, ()), ((4 : Int), (3 : Int), (2 : Int), ByteArray.empty, (0 : Int), (0 : Int), (0 : Int), ByteArray.empty, ()), ((5 : Int), (1 : Int), (2 : Int), ByteArray.empty, (0 : Int), (0 : Int), (0 : Int), ByteArray.empty, ())]) (43 : Nat), AObj.own [AV.s (SV.ilit IntKind.i64 (7 : Int)), AV.s (SV.ilit IntKind.i64 (9 : Int)), AV.emp, AV.vec (1 : Nat), AV.vec (20 : Nat), AV.vec (22 : Nat)] (27 : Nat), AObj.vec (Con.typ cC [((1 : Int), ByteArray.mk #[(120 : UInt8)], (0 : Int), (0 : Int), ByteArray.empty, ())]) (90 : Nat), AObj.dead, AObj.vec (Con.typ cW [((11 : Int), (1 : Int), (0 : Int), (0 : Int), ByteArray.empty, (0 : Int), false, ())]) (93 : Nat), AObj.dead, AObj.vec (Con.typ cC [((2 : Int), ByteArray.mk #[(120 : UInt8)], (0 : Int), (0 : Int), ByteArray.empty, ())]) (90 : Nat), AObj.dead, AObj.vec (Con.typ cW [((12 : Int), (2 : Int), (0 : Int), (0 : Int), ByteArray.empty, (0 : Int), false, ())]) (93 : Nat), AObj.dead, AObj.vec (Con.typ cC [((3 : Int), ByteArray.mk #[(120 : UInt8)], (0 : Int), (0 : Int), ByteArray.empty, ())]) (90 : Nat), AObj.dead, AObj.vec (Con.typ cW [((13 : Int), (3 : Int), (0 : Int), (0 : Int), ByteArray.empty, (0 : Int), false, ())]) (93 : Nat), AObj.dead, AObj.vec (Con.typ cC [((4 : Int), ByteArray.mk #[(120 : UInt8)], (0 : Int), (0 : Int), ByteArray.empty, ())]) (90 : Nat), AObj.dead, AObj.vec (Con.typ cW [((14 : Int), (4 : Int), (0 : Int), (0 : Int), ByteArray.empty, (0 : Int), false, ())]) (93 : Nat), AObj.dead, AObj.vec (Con.typ cC [((5 : Int), ByteArray.mk #[(120 : UInt8)], (0 : Int), (0 : Int), ByteArray.empty, ())]) (90 : Nat), AObj.vec (Con.typ cC ([((1 : Int), ByteArray.mk #[(120 : UInt8)], (0 : Int), (0 : Int), ByteArray.empty, ())] ++ [((2 : Int), ByteArray.mk #[(120 : UInt8)], (0 : Int), (0 : Int), ByteArray.empty, ())] ++ [((3 : Int), ByteArray.mk #[(120 : UInt8)], (0 : Int), (0 : Int), ByteArray.empty, ())] ++ [((4 : Int), ByteArray.mk #[(120 : UInt8)], (0 : Int), (0 : Int), ByteArray.empty, ())] ++ [((5 : Int), ByteArray.mk #[(120 : UInt8)], (0 : Int), (0 : Int), ByteArray.empty, ())])) (90 : Nat), AObj.vec (Con.typ cW [((15 : Int), (5 : Int), (0 : Int), (0 : Int), ByteArray.empty, (0 : Int), false, ())]) (93 : Nat), AObj.vec (Con.typ cW ([((11 : Int), (1 : Int), (0 : Int), (0 : Int), ByteArray.empty, (0 : Int), false, ())] ++ [((12 : Int), (2 : Int), (0 : Int), (0 : Int), ByteArray.empty, (0 : Int), false, ())] ++ [((13 : Int), (3 : Int), (0 : Int), (0 : Int), ByteArray.empty, (0 : Int), false, ())] ++ [((14 : Int), (4 : Int), (0 : Int), (0 : Int), ByteArray.empty, (0 : Int), false, ())] ++ [((15 : Int), (5 : Int), (0 : Int), (0 : Int), ByteArray.empty, (0 : Int), false, ())])) (93 : Nat)] (AV.agg [AV.s (SV.ilit IntKind.i64 (7 : Int)), AV.s (SV.ilit IntKind.i64 (9 : Int)), AV.emp, AV.vec (1 : Nat), AV.vec (20 : Nat), AV.vec (22 : Nat)]))))))))))) := by kernel_rfl
theorem vars_ok {Z : Glob} : FnOk P Z 86 [tVs, tVs] [tBool] (fun (a, b, ()) => [(a : List (CL cV)) = b]) (fun _ => (true, ())) := by
  refine fnOk_of_safe Try.func86 (by kernel_rfl) (by kernel_rfl) ?_
  rintro ⟨(l : List (CL cV)), (l2 : List (CL cV)), ⟨⟩⟩ ⟨(hl : l.length ≤ maxLen), _⟩ ⟨(rfl : l = l2), _⟩ X hX hz
  have hl2 : l.length ≤ 9223372036854775807 := by unfold maxLen at hl; omega
  show Safe P 86 X (Ends [tBool] (true, ())) _
  have loop : ∀ (n k : Nat), k + n = l.length → Safe P 86 X (Ends [tBool] (true, ())) (cVs l (k : Int)) := by
    intro n
    induction n with
    | zero => exact fun k hk => go hz hX Tab.Ok.nil Try.func86 (loopVs l k) (no_and (decide_eq_false (by omega)) (ends_eq _ rfl (by kernel_rfl)))
    | succ n ih => exact fun k hk => go hz hX Tab.Ok.nil Try.func86 (loopVs l k) (yes_and (decide_eq_true (by omega)) ⟨by omega, by omega, by omega, by omega, no_and (by simp) ⟨⟨by omega, by omega⟩, ih (k + 1) (by omega)⟩⟩)
  exact go hz hX Tab.Ok.nil Try.func86 (trVs l) (no_and (by simp) (loop l.length 0 (by omega)))
theorem texts_ok {Z : Glob} : FnOk P Z 87 [tTx, tTx] [tBool] (fun (a, b, ()) => [(a : List ByteArray) = b]) (fun _ => (true, ())) := by
  refine fnOk_of_safe Try.func87 (by kernel_rfl) (by kernel_rfl) ?_
  rintro ⟨(l : List ByteArray), (l2 : List ByteArray), ⟨⟩⟩ ⟨(hl : l.length ≤ maxLen), _⟩ ⟨(rfl : l = l2), _⟩ X hX hz
  have hl2 : l.length ≤ 9223372036854775807 := by unfold maxLen at hl; omega
  show Safe P 87 X (Ends [tBool] (true, ())) _
  have loop : ∀ (n k : Nat), k + n = l.length → Safe P 87 X (Ends [tBool] (true, ())) (cTx l (k : Int)) := by
    intro n
    induction n with
    | zero => exact fun k hk => go hz hX Tab.Ok.nil Try.func87 (loopTx l k) (no_and (decide_eq_false (by omega)) (ends_eq _ rfl (by kernel_rfl)))
    | succ n ih => exact fun k hk => go hz hX Tab.Ok.nil Try.func87 (loopTx l k) (yes_and (decide_eq_true (by omega)) ⟨by omega, by omega, by omega, by omega, no_and (by simp) ⟨⟨by omega, by omega⟩, ih (k + 1) (by omega)⟩⟩)
  exact go hz hX Tab.Ok.nil Try.func87 (trTx l) (no_and (by simp) (loop l.length 0 (by omega)))
theorem tabPr_ok {Z : Glob} : tabPr.Ok P Z := Tab.Ok.cons vars_ok.sum (Tab.Ok.cons texts_ok.sum Tab.Ok.nil)
theorem proc_ok {Z : Glob} : FnOk P Z 58 [tPr, tPr] [tBool] (fun (a, b, ()) => [a = b]) (fun _ => (true, ())) := by
  refine fnOk_of_safe Try.func58 (by kernel_rfl) (by kernel_rfl) ?_
  rintro ⟨⟨(a : ByteArray), (vs : List (CL cV)), (ns : List (CL cN)), (fs : List (CL cF)), ⟨⟩⟩, p2, ⟨⟩⟩ ⟨⟨_, _, (hn : ns.length ≤ maxLen), (hf : fs.length ≤ maxLen), _⟩, _⟩ ⟨rfl, _⟩ X hX hz
  have hn2 : ns.length ≤ 9223372036854775807 := by unfold maxLen at hn; omega
  have hf2 : fs.length ≤ 9223372036854775807 := by unfold maxLen at hf; omega
  show Safe P 58 X (Ends [tBool] (true, ())) _
  have loop2 : ∀ (n k : Nat), k + n = fs.length → Safe P 58 X (Ends [tBool] (true, ())) (cPr2 a vs ns fs (k : Int)) := by
    intro n
    induction n with
    | zero => exact fun k hk => go hz hX tabPr_ok Try.func58 (loopPr2 a vs ns fs k) (no_and (decide_eq_false (by omega)) (ends_eq _ rfl (by kernel_rfl)))
    | succ n ih => exact fun k hk => go hz hX tabPr_ok Try.func58 (loopPr2 a vs ns fs k) (yes_and (decide_eq_true (by omega)) ⟨by omega, by omega, by omega, by omega, no_and (by simp) ⟨⟨by omega, by omega⟩, ih (k + 1) (by omega)⟩⟩)
  have loop : ∀ (n k : Nat), k + n = ns.length → Safe P 58 X (Ends [tBool] (true, ())) (cPr a vs ns fs (k : Int)) := by
    intro n
    induction n with
    | zero => exact fun k hk => go hz hX tabPr_ok Try.func58 (loopPr a vs ns fs k) (no_and (decide_eq_false (by omega)) (loop2 fs.length 0 (by omega)))
    | succ n ih =>
      exact fun k hk => go hz hX tabPr_ok Try.func58 (loopPr a vs ns fs k) (yes_and (decide_eq_true (by omega)) ⟨by omega, by omega, by omega, by omega,
        no_and (by simp) (no_and (by simp) (no_and (by simp) (no_and (by simp) (no_and (by simp) (no_and (by simp) (no_and (by simp) (no_and (by simp) (no_and (by simp) ⟨rfl, no_and rfl ⟨rfl, no_and rfl ⟨⟨by omega, by omega⟩, ih (k + 1) (by omega)⟩⟩⟩))))))))⟩)
  exact go hz hX tabPr_ok Try.func58 (trPr a vs ns fs) (no_and (by simp) ⟨rfl, no_and rfl (no_and (by simp) (no_and (by simp) (loop ns.length 0 (by omega))))⟩)
theorem tabSa_ok {Z : Glob} : tabSa.Ok P Z := Tab.Ok.cons proc_ok.sum Tab.Ok.nil
theorem same_ok {Z : Glob} : FnOk P Z 26 [tSt, tSt] [tBool] preSa (fun _ => (true, ())) := by
  refine fnOk_of_safe Try.func26 (by kernel_rfl) (by kernel_rfl) ?_
  rintro ⟨⟨(ck : Int), (nx : Int), (ps : Ps), (is : Is), (cs : Cs), (ws : Ws), ⟨⟩⟩, ⟨(ck' : Int), (nx' : Int), (ps' : Ps), (is' : Is), (cs' : Cs), (ws' : Ws), ⟨⟩⟩, ⟨⟩⟩ ⟨⟨_, _, (h1 : ps.length ≤ maxLen), (h2 : is.length ≤ maxLen), (h3 : cs.length ≤ maxLen), (h4 : ws.length ≤ maxLen), _⟩, _⟩ ⟨⟨rfl, rfl, rfl, rfl, rfl, rfl⟩, _⟩ X hX hz
  have hm : maxLen ≤ 9223372036854775807 := by unfold maxLen; omega
  show Safe P 26 X (Ends [tBool] (true, ())) _
  have loop4 : ∀ (n k : Nat), k + n = ws.length → Safe P 26 X (Ends [tBool] (true, ())) (cSa ck nx ps is cs ws 8 19 (k : Int)) := by
    intro n
    induction n with
    | zero => exact fun k hk => go hz hX tabSa_ok Try.func26 (loopSa4 ck nx ps is cs ws k) (no_and (decide_eq_false (by omega)) (ends_eq _ rfl (by kernel_rfl)))
    | succ n ih => exact fun k hk => go hz hX tabSa_ok Try.func26 (loopSa4 ck nx ps is cs ws k) (yes_and (decide_eq_true (by omega)) ⟨by omega, by omega, by omega, by omega, no_and (by simp) ⟨⟨by omega, by omega⟩, ih (k + 1) (by omega)⟩⟩)
  have loop3 : ∀ (n k : Nat), k + n = cs.length → Safe P 26 X (Ends [tBool] (true, ())) (cSa ck nx ps is cs ws 7 14 (k : Int)) := by
    intro n
    induction n with
    | zero => exact fun k hk => go hz hX tabSa_ok Try.func26 (loopSa3 ck nx ps is cs ws k) (no_and (decide_eq_false (by omega)) (loop4 ws.length 0 (by omega)))
    | succ n ih => exact fun k hk => go hz hX tabSa_ok Try.func26 (loopSa3 ck nx ps is cs ws k) (yes_and (decide_eq_true (by omega)) ⟨by omega, by omega, by omega, by omega, no_and (by simp) ⟨⟨by omega, by omega⟩, ih (k + 1) (by omega)⟩⟩)
  have loop2 : ∀ (n k : Nat), k + n = is.length → Safe P 26 X (Ends [tBool] (true, ())) (cSa ck nx ps is cs ws 6 9 (k : Int)) := by
    intro n
    induction n with
    | zero => exact fun k hk => go hz hX tabSa_ok Try.func26 (loopSa2 ck nx ps is cs ws k) (no_and (decide_eq_false (by omega)) (loop3 cs.length 0 (by omega)))
    | succ n ih => exact fun k hk => go hz hX tabSa_ok Try.func26 (loopSa2 ck nx ps is cs ws k) (yes_and (decide_eq_true (by omega)) ⟨by omega, by omega, by omega, by omega, no_and (by simp) ⟨⟨by omega, by omega⟩, ih (k + 1) (by omega)⟩⟩)
  have loop1 : ∀ (n k : Nat), k + n = ps.length → Safe P 26 X (Ends [tBool] (true, ())) (cSa ck nx ps is cs ws 5 4 (k : Int)) := by
    intro n
    induction n with
    | zero => exact fun k hk => go hz hX tabSa_ok Try.func26 (loopSa1 ck nx ps is cs ws k) (no_and (decide_eq_false (by omega)) (loop2 is.length 0 (by omega)))
    | succ n ih => exact fun k hk => go hz hX tabSa_ok Try.func26 (loopSa1 ck nx ps is cs ws k) (yes_and (decide_eq_true (by omega)) ⟨by omega, by omega, by omega, by omega, rfl, no_and rfl ⟨⟨by omega, by omega⟩, ih (k + 1) (by omega)⟩⟩)
  exact go hz hX tabSa_ok Try.func26 (trSa ck nx ps is cs ws) (no_and (by simp) (no_and (by simp) (no_and (by simp) (no_and (by simp) (no_and (by simp) (no_and (by simp) (loop1 ps.length 0 (by omega))))))))
end Ds

namespace Ds
open Go Go.Sx Go.Proofs Lf
def tyT : ByteArray := ByteArray.mk #[120]
def mkI (a b c n : Int) : CL cI := (a, b, c, ByteArray.empty, n, (0 : Int), (0 : Int), ByteArray.empty, ())
def mkC (a : Int) : CL cC := (a, tyT, (0 : Int), (0 : Int), ByteArray.empty, ())
def mkW (a b : Int) : CL cW := (a, b, (0 : Int), (0 : Int), ByteArray.empty, (0 : Int), false, ())
def isT : Is := [mkI (1) (0) (1) (-1), mkI (2) (1) (2) (0), mkI (3) (2) (1) (0), mkI (4) (3) (2) (0), mkI (5) (1) (2) (0)]
def csT : Cs := [mkC 1, mkC 2, mkC 3, mkC 4, mkC 5]
def wsT : Ws := [mkW 11 1, mkW 12 2, mkW 13 3, mkW 14 4, mkW 15 5]
abbrev toV : AL [tSt] := (((7 : Int), (9 : Int), ([] : Ps), isT, csT, wsT, ()), ())
abbrev sumToR := sumR [] [tSr] (fun _ => []) (fun _ => toV)
abbrev sTo : Spec Unit := ⟨fun _ => [], fun _ => [], fun _ => [], fun _ => [.vec (.typ cI isT) eI, .vec (.typ cC csT) eC, .vec (.typ cW wsT) eW], fun _ => .agg [avI 7, avI 9, .emp, .vec 0, .vec 1, .vec 2]⟩
def mTo : List AV → RM (Unit × List Nat)
  | [] => .ret ((), [])
  | _ => .fail "arguments"
abbrev sumTo := sumS sTo mTo
abbrev preLe : AL [tSt, tNs] → List Prop := fun ((ck, nx, _, is, cs, _, ()), l, ()) => [(is : Is).map (fun x : CL cI => iI x) = l, (cs : Cs).map (fun x : CL cC => lS x) = l, (ck : Int) = (7 : Int), (nx : Int) = (9 : Int)]
abbrev preWd : AL [tSt, tNs] → List Prop := fun ((_, _, _, _, _, ws, ()), l, ()) => [(ws : Ws).map (fun x : CL cW => wT x) = l]
abbrev sumLe := sumOf [tSt, tNs] [tBool] preLe (fun _ => (true, ()))
abbrev sumWd := sumOf [tSt, tNs] [tBool] preWd (fun _ => (true, ()))
abbrev sumIn := sumOf [tNs, tInt] [tBool] (fun _ => []) (fun (l, x, ()) => ((l : List Int).contains x, ()))
abbrev sumEq := sumOf [tNs, tNs] [tBool] (fun (a, b, ()) => [(a : List Int) = b]) (fun _ => (true, ()))
def largeF (ps : Ps) (is : Is) (cs : Cs) (ws : Ws) : Bool := decide (is.length > 170 ∨ cs.length > 300 ∨ ws.length > 300 ∨ ps.length > 12)
abbrev sumLg := sumOf [tSt] [tBool] (fun _ => []) (fun ((_, _, ps, is, cs, ws, ()), ()) => (largeF ps is cs ws, ()))
abbrev sumGo := sumOf [tSt, tSt] [tNs] (fun ((_, _, _, is, _, _, ()), _, ()) => [(is : Is).length ≤ 1000000]) (fun ((_, _, _, is, _, _, ()), (_, _, _, is', _, _, ()), ()) => (goneF is is', ()))
def tabWk : Tab := [(32, sumToR), (34, sumCl), (25, sumTa), (35, sumLe), (27, sumGo), (37, sumEq)]
theorem trWk  : run P tabWk.sum Try.f23 [] (start Try.f23 [] []) =
  Tree.need (List.length isT ≤ (1000000 : Nat))
  (Tree.need (List.length csT ≤ (1000000 : Nat))
    (Tree.need (List.length wsT ≤ (1000000 : Nat))
      (Tree.need (List.length isT ≤ (1000000 : Nat))
        (Tree.need (List.length csT ≤ (1000000 : Nat))
          (Tree.need (List.length wsT ≤ (1000000 : Nat))
            (Tree.need (List.map (fun (x : CL cI) => iI x) (delF (pIt (takeL isT (2 : Int))) isT) = [(1 : Int), (5 : Int)])
              (Tree.need (List.map (fun (x : CL cC) => lS x) (delF (pDr (takeL isT (2 : Int))) csT) = [(1 : Int), (5 : Int)])
                (Tree.need ((7 : Int) = (7 : Int))
                  (Tree.need ((9 : Int) = (9 : Int))
                    (Tree.ite true
                      (Tree.need (List.map (fun (x : CL cI) => iI x) (delF (pIt (clearL isT (3 : Int))) isT) = [(1 : Int), (2 : Int), (3 : Int), (5 : Int)])
                        (Tree.need (List.map (fun (x : CL cC) => lS x) (delF (pDr (clearL isT (3 : Int))) csT) = [(1 : Int), (2 : Int), (3 : Int), (5 : Int)])
                          (Tree.need ((7 : Int) = (7 : Int))
                            (Tree.need ((9 : Int) = (9 : Int))
                              (Tree.ite true (Tree.need (List.length isT ≤ (1000000 : Nat)) (Tree.need (goneF isT (delF (pIt (clearL isT (3 : Int))) isT) = [(4 : Int)]) (Tree.ite true (Tree.need (List.length isT ≤ (1000000 : Nat)) (Tree.need (List.length csT ≤ (1000000 : Nat)) (Tree.need (List.length wsT ≤ (1000000 : Nat)) (Tree.need (List.map (fun (x : CL cI) => iI x) (delF (pIt (takeL isT (9 : Int))) isT) = [(1 : Int), (2 : Int), (3 : Int), (4 : Int), (5 : Int)]) (Tree.need (List.map (fun (x : CL cC) => lS x) (delF (pDr (takeL isT (9 : Int))) csT) = [(1 : Int), (2 : Int), (3 : Int), (4 : Int), (5 : Int)]) (Tree.need ((7 : Int) = (7 : Int)) (Tree.need ((9 : Int) = (9 : Int)) (Tree.ite true (Tree.need (List.map (fun (x : CL cI) => iI x) isT = [(1 : Int), (2 : Int), (3 : Int), (4 : Int), (5 : Int)]) (Tree.need (List.map (fun (x : CL cC) => lS x) csT = [(1 : Int), (2 : Int), (3 : Int), (4 : Int), (5 : Int)]) (Tree.need ((7 : Int) = (7 : Int)) (Tree.need ((9 : Int) = (9 : Int)) (Tree.ret [AObj.own [AV.s (SV.int IntKind.i64 (7 : Int)), AV.s (SV.int IntKind.i64 (9 : Int)), AV.s (SV.ro (Con.typ cP [])), AV.s (SV.ro (Con.typ cI isT)), AV.s (SV.ro (Con.typ cC csT)), AV.s (SV.ro (Con.typ cW wsT))] (27 : Nat), AObj.own [AV.s (SV.int IntKind.i64 (7 : Int)), AV.s (SV.int IntKind.i64 (9 : Int)), AV.s (SV.ro (Con.typ cP [])), AV.s (SV.ro (Con.typ cI (delF (pIt (clearL isT (3 : Int))) isT))), AV.s (SV.ro (Con.typ cC (delF (pDr (clearL isT (3 : Int))) csT))), AV.s (SV.ro (Con.typ cW (delF (pWa (clearL isT (3 : Int))) wsT)))] (27 : Nat), AObj.vec (Con.ints IntKind.i64 [(1 : Int), (5 : Int)]) (3 : Nat), AObj.vec (Con.ints IntKind.i64 [(1 : Int), (2 : Int), (3 : Int), (5 : Int)]) (3 : Nat), AObj.vec (Con.ints IntKind.i64 (goneF isT (delF (pIt (clearL isT (3 : Int))) isT))) (3 : Nat), AObj.vec (Con.ints IntKind.i64 [(4 : Int)]) (3 : Nat), AObj.vec (Con.ints IntKind.i64 [(1 : Int), (2 : Int), (3 : Int), (4 : Int), (5 : Int)]) (3 : Nat), AObj.vec (Con.ints IntKind.i64 [(1 : Int), (2 : Int), (3 : Int), (4 : Int), (5 : Int)]) (3 : Nat)] (AV.s (SV.bool true))))))) (Tree.ret [AObj.own [AV.s (SV.int IntKind.i64 (7 : Int)), AV.s (SV.int IntKind.i64 (9 : Int)), AV.s (SV.ro (Con.typ cP [])), AV.s (SV.ro (Con.typ cI isT)), AV.s (SV.ro (Con.typ cC csT)), AV.s (SV.ro (Con.typ cW wsT))] (27 : Nat), AObj.own [AV.s (SV.int IntKind.i64 (7 : Int)), AV.s (SV.int IntKind.i64 (9 : Int)), AV.s (SV.ro (Con.typ cP [])), AV.s (SV.ro (Con.typ cI (delF (pIt (clearL isT (3 : Int))) isT))), AV.s (SV.ro (Con.typ cC (delF (pDr (clearL isT (3 : Int))) csT))), AV.s (SV.ro (Con.typ cW (delF (pWa (clearL isT (3 : Int))) wsT)))] (27 : Nat), AObj.vec (Con.ints IntKind.i64 [(1 : Int), (5 : Int)]) (3 : Nat), AObj.vec (Con.ints IntKind.i64 [(1 : Int), (2 : Int), (3 : Int), (5 : Int)]) (3 : Nat), AObj.vec (Con.ints IntKind.i64 (goneF isT (delF (pIt (clearL isT (3 : Int))) isT))) (3 : Nat), AObj.vec (Con.ints IntKind.i64 [(4 : Int)]) (3 : Nat), AObj.vec (Con.ints IntKind.i64 [(1 : Int), (2 : Int), (3 : Int), (4 : Int), (5 : Int)]) (3 : Nat)] (AV.s (SV.blit false))))))))))) (Tree.ret [AObj.own [AV.s (SV.int IntKind.i64 (7 : Int)), AV.s (SV.int IntKind.i64 (9 : Int)), AV.s (SV.ro (Con.typ cP [])), AV.s (SV.ro (Con.typ cI isT)), AV.s (SV.ro (Con.typ cC csT)), AV.s (SV.ro (Con.typ cW wsT))] (27 : Nat), AObj.own [AV.s (SV.int IntKind.i64 (7 : Int)), AV.s (SV.int IntKind.i64 (9 : Int)), AV.s (SV.ro (Con.typ cP [])), AV.s (SV.ro (Con.typ cI (delF (pIt (clearL isT (3 : Int))) isT))), AV.s (SV.ro (Con.typ cC (delF (pDr (clearL isT (3 : Int))) csT))), AV.s (SV.ro (Con.typ cW (delF (pWa (clearL isT (3 : Int))) wsT)))] (27 : Nat), AObj.vec (Con.ints IntKind.i64 [(1 : Int), (5 : Int)]) (3 : Nat), AObj.vec (Con.ints IntKind.i64 [(1 : Int), (2 : Int), (3 : Int), (5 : Int)]) (3 : Nat), AObj.vec (Con.ints IntKind.i64 (goneF isT (delF (pIt (clearL isT (3 : Int))) isT))) (3 : Nat), AObj.vec (Con.ints IntKind.i64 [(4 : Int)]) (3 : Nat)] (AV.s (SV.blit false))))))
                                (Tree.ret [AObj.own [AV.s (SV.int IntKind.i64 (7 : Int)), AV.s (SV.int IntKind.i64 (9 : Int)), AV.s (SV.ro (Con.typ cP [])), AV.s (SV.ro (Con.typ cI isT)), AV.s (SV.ro (Con.typ cC csT)), AV.s (SV.ro (Con.typ cW wsT))] (27 : Nat), AObj.own [AV.s (SV.int IntKind.i64 (7 : Int)), AV.s (SV.int IntKind.i64 (9 : Int)), AV.s (SV.ro (Con.typ cP [])), AV.s (SV.ro (Con.typ cI (delF (pIt (clearL isT (3 : Int))) isT))), AV.s (SV.ro (Con.typ cC (delF (pDr (clearL isT (3 : Int))) csT))), AV.s (SV.ro (Con.typ cW (delF (pWa (clearL isT (3 : Int))) wsT)))] (27 : Nat), AObj.vec (Con.ints IntKind.i64 [(1 : Int), (5 : Int)]) (3 : Nat), AObj.vec (Con.ints IntKind.i64 [(1 : Int), (2 : Int), (3 : Int), (5 : Int)]) (3 : Nat)] (AV.s (SV.blit false))))))))
                      (Tree.ret [AObj.own [AV.s (SV.int IntKind.i64 (7 : Int)), AV.s (SV.int IntKind.i64 (9 : Int)), AV.s (SV.ro (Con.typ cP [])), AV.s (SV.ro (Con.typ cI isT)), AV.s (SV.ro (Con.typ cC csT)), AV.s (SV.ro (Con.typ cW wsT))] (27 : Nat), AObj.own [AV.s (SV.int IntKind.i64 (7 : Int)), AV.s (SV.int IntKind.i64 (9 : Int)), AV.s (SV.ro (Con.typ cP [])), AV.s (SV.ro (Con.typ cI (delF (pIt (clearL isT (3 : Int))) isT))), AV.s (SV.ro (Con.typ cC (delF (pDr (clearL isT (3 : Int))) csT))), AV.s (SV.ro (Con.typ cW (delF (pWa (clearL isT (3 : Int))) wsT)))] (27 : Nat), AObj.vec (Con.ints IntKind.i64 [(1 : Int), (5 : Int)]) (3 : Nat)] (AV.s (SV.blit false))))))))))))) := by kernel_rfl
abbrev sumWk := sumOf [] [tBool] (fun _ => []) (fun _ => (true, ()))
def tabNa : Tab := [(23, sumWk), (32, sumTo), (34, sumCl), (36, sumBr), (25, sumTa), (35, sumLe), (33, sumWd), (27, sumGo), (37, sumEq)]
def nsNa : List (Nat × Norm) := [(midKey + 4000, ⟨[], [1], 0, []⟩), (midKey + 8000, ⟨[], [1, 2], 0, []⟩)]
theorem trNa  : run P tabNa.sum Try.f8 nsNa (start Try.f8 [] []) =
  Tree.ite false (Tree.ret [] (AV.s (SV.blit false))) (Tree.need (Slf (some ([] : List AV))) (Tree.need NoObj (Tree.at (Cfg.mk (sl (117 : Nat) [((1 : Nat), AV.ptr (0 : Nat) (0 : Nat))]) [AObj.own [AV.s (SV.int IntKind.i64 (7 : Int)), AV.s (SV.int IntKind.i64 (9 : Int)), AV.emp, AV.vec (1 : Nat), AV.vec (2 : Nat), AV.vec (3 : Nat)] (27 : Nat), AObj.vec (Con.typ cI isT) (43 : Nat), AObj.vec (Con.typ cC csT) (90 : Nat), AObj.vec (Con.typ cW wsT) (93 : Nat)] (cal Try.f8 (4 : Nat) (0 : Nat)) (Stk.mk none false (0 : Nat) [] (4 : Nat)))))) := by kernel_rfl
abbrev obT (is : Is) : AObj := .own [avI 7, avI 9, .emp, .s (.ro (.typ cI is)), .s (.ro (.typ cC csT)), .s (.ro (.typ cW wsT))] eT
noncomputable def cNa : Cfg := ⟨sl 117 [(1, .ptr 0 0)], [obT isT, .dead, .dead, .dead], cal Try.f8 4 0, kk 4⟩
theorem midNa  : run P tabNa.sum Try.f8 nsNa cNa =
  Tree.need (List.length isT ≤ (1000000 : Nat))
  (Tree.need (List.length csT ≤ (1000000 : Nat))
    (Tree.need (List.length wsT ≤ (1000000 : Nat))
      (Tree.need (List.map (fun (x : CL cW) => wT x) (delF (pWa (takeL isT (2 : Int))) wsT) = [(1 : Int), (5 : Int)])
        (Tree.ite false (Tree.ret [AObj.own [AV.s (SV.int IntKind.i64 (7 : Int)), AV.s (SV.int IntKind.i64 (9 : Int)), AV.emp, AV.s (SV.ro (Con.typ cI isT)), AV.s (SV.ro (Con.typ cC csT)), AV.s (SV.ro (Con.typ cW wsT))] (27 : Nat), AObj.dead, AObj.dead, AObj.dead, AObj.vec (Con.ints IntKind.i64 [(1 : Int), (5 : Int)]) (3 : Nat)] (AV.s (SV.blit false)))
          (Tree.need (List.length isT ≤ (1000000 : Nat))
            (Tree.need (List.length csT ≤ (1000000 : Nat))
              (Tree.need (List.length wsT ≤ (1000000 : Nat))
                (Tree.need (List.map (fun (x : CL cW) => wT x) (delF (pWa (clearL isT (1 : Int))) wsT) = [(1 : Int)])
                  (Tree.ite false (Tree.ret [AObj.own [AV.s (SV.int IntKind.i64 (7 : Int)), AV.s (SV.int IntKind.i64 (9 : Int)), AV.emp, AV.s (SV.ro (Con.typ cI isT)), AV.s (SV.ro (Con.typ cC csT)), AV.s (SV.ro (Con.typ cW wsT))] (27 : Nat), AObj.dead, AObj.dead, AObj.dead, AObj.vec (Con.ints IntKind.i64 [(1 : Int), (5 : Int)]) (3 : Nat), AObj.vec (Con.ints IntKind.i64 [(1 : Int)]) (3 : Nat)] (AV.s (SV.blit false)))
                    (Tree.need (List.length isT ≤ (1000000 : Nat))
                      (Tree.need (List.length csT ≤ (1000000 : Nat))
                        (Tree.need (List.length wsT ≤ (1000000 : Nat))
                          (Tree.need (List.map (fun (x : CL cI) => iI x) (delF (pIt (clearL isT (1 : Int))) isT) = [(1 : Int)])
                            (Tree.need (List.map (fun (x : CL cC) => lS x) (delF (pDr (clearL isT (1 : Int))) csT) = [(1 : Int)])
                              (Tree.need ((7 : Int) = (7 : Int))
                                (Tree.need ((9 : Int) = (9 : Int))
                                  (Tree.ite false (Tree.ret [AObj.own [AV.s (SV.int IntKind.i64 (7 : Int)), AV.s (SV.int IntKind.i64 (9 : Int)), AV.emp, AV.s (SV.ro (Con.typ cI isT)), AV.s (SV.ro (Con.typ cC csT)), AV.s (SV.ro (Con.typ cW wsT))] (27 : Nat), AObj.dead, AObj.dead, AObj.dead, AObj.vec (Con.ints IntKind.i64 [(1 : Int), (5 : Int)]) (3 : Nat), AObj.vec (Con.ints IntKind.i64 [(1 : Int)]) (3 : Nat), AObj.vec (Con.ints IntKind.i64 [(1 : Int)]) (3 : Nat)] (AV.s (SV.blit false)))
                                    (Tree.need (List.length isT ≤ (1000000 : Nat))
                                      (Tree.need (List.length csT ≤ (1000000 : Nat))
                                        (Tree.need (List.length wsT ≤ (1000000 : Nat))
                                          (Tree.need (List.map (fun (x : CL cW) => wT x) (delF (pWa (breakL isT (1 : Int))) wsT) = [])
                                            (Tree.ite false (Tree.ret [AObj.own [AV.s (SV.int IntKind.i64 (7 : Int)), AV.s (SV.int IntKind.i64 (9 : Int)), AV.emp, AV.s (SV.ro (Con.typ cI isT)), AV.s (SV.ro (Con.typ cC csT)), AV.s (SV.ro (Con.typ cW wsT))] (27 : Nat), AObj.dead, AObj.dead, AObj.dead, AObj.vec (Con.ints IntKind.i64 [(1 : Int), (5 : Int)]) (3 : Nat), AObj.vec (Con.ints IntKind.i64 [(1 : Int)]) (3 : Nat), AObj.vec (Con.ints IntKind.i64 [(1 : Int)]) (3 : Nat)] (AV.s (SV.blit false)))
                                              (Tree.need (List.length isT ≤ (1000000 : Nat))
                                                (Tree.need (List.length csT ≤ (1000000 : Nat))
                                                  (Tree.need (List.length wsT ≤ (1000000 : Nat))
                                                    (Tree.need (List.map (fun (x : CL cI) => iI x) (delF (pIt (clearL isT (1 : Int))) isT) = [(1 : Int)])
                                                      (Tree.need (List.map (fun (x : CL cC) => lS x) (delF (pDr (clearL isT (1 : Int))) csT) = [(1 : Int)])
                                                        (Tree.need ((7 : Int) = (7 : Int))
                                                          (Tree.need ((9 : Int) = (9 : Int))
                                                            (Tree.ite false (Tree.ret [AObj.own [AV.s (SV.int IntKind.i64 (7 : Int)), AV.s (SV.int IntKind.i64 (9 : Int)), AV.emp, AV.s (SV.ro (Con.typ cI isT)), AV.s (SV.ro (Con.typ cC csT)), AV.s (SV.ro (Con.typ cW wsT))] (27 : Nat), AObj.dead, AObj.dead, AObj.dead, AObj.vec (Con.ints IntKind.i64 [(1 : Int), (5 : Int)]) (3 : Nat), AObj.vec (Con.ints IntKind.i64 [(1 : Int)]) (3 : Nat), AObj.vec (Con.ints IntKind.i64 [(1 : Int)]) (3 : Nat), AObj.vec (Con.ints IntKind.i64 [(1 : Int)]) (3 : Nat)] (AV.s (SV.blit false)))
                                                              (Tree.need (List.length isT ≤ (1000000 : Nat))
                                                                (Tree.need (List.length csT ≤ (1000000 : Nat))
                                                                  (Tree.need (List.length wsT ≤ (1000000 : Nat))
                                                                    (Tree.need (List.map (fun (x : CL cW) => wT x) (delF (pWa (breakL isT (3 : Int))) wsT) = [(1 : Int), (2 : Int), (5 : Int)])
                                                                      (Tree.ite false (Tree.ret [AObj.own [AV.s (SV.int IntKind.i64 (7 : Int)), AV.s (SV.int IntKind.i64 (9 : Int)), AV.emp, AV.s (SV.ro (Con.typ cI isT)), AV.s (SV.ro (Con.typ cC csT)), AV.s (SV.ro (Con.typ cW wsT))] (27 : Nat), AObj.dead, AObj.dead, AObj.dead, AObj.vec (Con.ints IntKind.i64 [(1 : Int), (5 : Int)]) (3 : Nat), AObj.vec (Con.ints IntKind.i64 [(1 : Int)]) (3 : Nat), AObj.vec (Con.ints IntKind.i64 [(1 : Int)]) (3 : Nat), AObj.vec (Con.ints IntKind.i64 [(1 : Int)]) (3 : Nat), AObj.vec (Con.ints IntKind.i64 [(1 : Int), (2 : Int), (5 : Int)]) (3 : Nat)] (AV.s (SV.blit false)))
                                                                        (Tree.need (List.length isT ≤ (1000000 : Nat))
                                                                          (Tree.need (List.length csT ≤ (1000000 : Nat))
                                                                            (Tree.need (List.length wsT ≤ (1000000 : Nat))
                                                                              (Tree.need (List.map (fun (x : CL cI) => iI x) (delF (pIt (clearL isT (3 : Int))) isT) = [(1 : Int), (2 : Int), (3 : Int), (5 : Int)])
                                                                                (Tree.need (List.map (fun (x : CL cC) => lS x) (delF (pDr (clearL isT (3 : Int))) csT) = [(1 : Int), (2 : Int), (3 : Int), (5 : Int)])
                                                                                  (Tree.need ((7 : Int) = (7 : Int))
                                                                                    (Tree.need ((9 : Int) = (9 : Int))
                                                                                      (Tree.ite false (Tree.ret [AObj.own [AV.s (SV.int IntKind.i64 (7 : Int)), AV.s (SV.int IntKind.i64 (9 : Int)), AV.emp, AV.s (SV.ro (Con.typ cI isT)), AV.s (SV.ro (Con.typ cC csT)), AV.s (SV.ro (Con.typ cW wsT))] (27 : Nat), AObj.dead, AObj.dead, AObj.dead, AObj.vec (Con.ints IntKind.i64 [(1 : Int), (5 : Int)]) (3 : Nat), AObj.vec (Con.ints IntKind.i64 [(1 : Int)]) (3 : Nat), AObj.vec (Con.ints IntKind.i64 [(1 : Int)]) (3 : Nat), AObj.vec (Con.ints IntKind.i64 [(1 : Int)]) (3 : Nat), AObj.vec (Con.ints IntKind.i64 [(1 : Int), (2 : Int), (5 : Int)]) (3 : Nat), AObj.vec (Con.ints IntKind.i64 [(1 : Int), (2 : Int), (3 : Int), (5 : Int)]) (3 : Nat)] (AV.s (SV.blit false)))
                                                                                        (Tree.need (List.length isT ≤ (1000000 : Nat))
                                                                                          (Tree.need (List.length csT ≤ (1000000 : Nat))
                                                                                            (Tree.need (List.length wsT ≤ (1000000 : Nat))
                                                                                              (Tree.need (List.map (fun (x : CL cW) => wT x) (delF (pWa (breakL isT (4 : Int))) wsT) = [(1 : Int), (2 : Int), (3 : Int), (5 : Int)])
                                                                                                (Tree.ite false (Tree.ret [AObj.own [AV.s (SV.int IntKind.i64 (7 : Int)), AV.s (SV.int IntKind.i64 (9 : Int)), AV.emp, AV.s (SV.ro (Con.typ cI isT)), AV.s (SV.ro (Con.typ cC csT)), AV.s (SV.ro (Con.typ cW wsT))] (27 : Nat), AObj.dead, AObj.dead, AObj.dead, AObj.vec (Con.ints IntKind.i64 [(1 : Int), (5 : Int)]) (3 : Nat), AObj.vec (Con.ints IntKind.i64 [(1 : Int)]) (3 : Nat), AObj.vec (Con.ints IntKind.i64 [(1 : Int)]) (3 : Nat), AObj.vec (Con.ints IntKind.i64 [(1 : Int)]) (3 : Nat), AObj.vec (Con.ints IntKind.i64 [(1 : Int), (2 : Int), (5 : Int)]) (3 : Nat), AObj.vec (Con.ints IntKind.i64 [(1 : Int), (2 : Int), (3 : Int), (5 : Int)]) (3 : Nat), AObj.vec (Con.ints IntKind.i64 [(1 : Int), (2 : Int), (3 : Int), (5 : Int)]) (3 : Nat)] (AV.s (SV.blit false)))
                                                                                                  (Tree.need (List.length isT ≤ (1000000 : Nat)) (Tree.need (List.length csT ≤ (1000000 : Nat)) (Tree.need (List.length wsT ≤ (1000000 : Nat)) (Tree.need (List.map (fun (x : CL cI) => iI x) (delF (pIt (takeL isT (1 : Int))) isT) = []) (Tree.need (List.map (fun (x : CL cC) => lS x) (delF (pDr (takeL isT (1 : Int))) csT) = []) (Tree.need ((7 : Int) = (7 : Int)) (Tree.need ((9 : Int) = (9 : Int)) (Tree.ite false (Tree.ret [AObj.own [AV.s (SV.int IntKind.i64 (7 : Int)), AV.s (SV.int IntKind.i64 (9 : Int)), AV.emp, AV.s (SV.ro (Con.typ cI isT)), AV.s (SV.ro (Con.typ cC csT)), AV.s (SV.ro (Con.typ cW wsT))] (27 : Nat), AObj.dead, AObj.dead, AObj.dead, AObj.vec (Con.ints IntKind.i64 [(1 : Int), (5 : Int)]) (3 : Nat), AObj.vec (Con.ints IntKind.i64 [(1 : Int)]) (3 : Nat), AObj.vec (Con.ints IntKind.i64 [(1 : Int)]) (3 : Nat), AObj.vec (Con.ints IntKind.i64 [(1 : Int)]) (3 : Nat), AObj.vec (Con.ints IntKind.i64 [(1 : Int), (2 : Int), (5 : Int)]) (3 : Nat), AObj.vec (Con.ints IntKind.i64 [(1 : Int), (2 : Int), (3 : Int), (5 : Int)]) (3 : Nat), AObj.vec (Con.ints IntKind.i64 [(1 : Int), (2 : Int), (3 : Int), (5 : Int)]) (3 : Nat)] (AV.s (SV.blit false))) (Tree.need (List.length isT ≤ (1000000 : Nat)) (Tree.need (List.length csT ≤ (1000000 : Nat)) (Tree.need (List.length wsT ≤ (1000000 : Nat)) (Tree.need (List.map (fun (x : CL cW) => wT x) (delF (pWa (breakL isT (9 : Int))) wsT) = [(1 : Int), (2 : Int), (3 : Int), (4 : Int), (5 : Int)]) (Tree.ite false (Tree.ret [AObj.own [AV.s (SV.int IntKind.i64 (7 : Int)), AV.s (SV.int IntKind.i64 (9 : Int)), AV.emp, AV.s (SV.ro (Con.typ cI isT)), AV.s (SV.ro (Con.typ cC csT)), AV.s (SV.ro (Con.typ cW wsT))] (27 : Nat), AObj.dead, AObj.dead, AObj.dead, AObj.vec (Con.ints IntKind.i64 [(1 : Int), (5 : Int)]) (3 : Nat), AObj.vec (Con.ints IntKind.i64 [(1 : Int)]) (3 : Nat), AObj.vec (Con.ints IntKind.i64 [(1 : Int)]) (3 : Nat), AObj.vec (Con.ints IntKind.i64 [(1 : Int)]) (3 : Nat), AObj.vec (Con.ints IntKind.i64 [(1 : Int), (2 : Int), (5 : Int)]) (3 : Nat), AObj.vec (Con.ints IntKind.i64 [(1 : Int), (2 : Int), (3 : Int), (5 : Int)]) (3 : Nat), AObj.vec (Con.ints IntKind.i64 [(1 : Int), (2 : Int), (3 : Int), (5 : Int)]) (3 : Nat), AObj.vec (Con.ints IntKind.i64 [(1 : Int), (2 : Int), (3 : Int), (4 : Int), (5 : Int)]) (3 : Nat)] (AV.s (SV.blit false))) (Tree.need (Slf (some ([] : List AV))) (Tree.need NoObj (Tree.need ((0 : Int) ≤ (0 : Int)) (Tree.need ((0 : Int) < (↑(5 : Nat) : Int)) (Tree.at (Cfg.mk (sl (117 : Nat) [((1 : Nat), AV.ptr (0 : Nat) (0 : Nat)), ((2 : Nat), AV.ptr (1 : Nat) (0 : Nat))]) [AObj.own [AV.s (SV.int IntKind.i64 (7 : Int)), AV.s (SV.int IntKind.i64 (9 : Int)), AV.emp, AV.s (SV.ro (Con.typ cI isT)), AV.s (SV.ro (Con.typ cC csT)), AV.s (SV.ro (Con.typ cW wsT))] (27 : Nat), AObj.own [AV.s (SV.int IntKind.i64 (7 : Int)), AV.s (SV.int IntKind.i64 (9 : Int)), AV.emp, AV.vec (2 : Nat), AV.vec (3 : Nat), AV.vec (4 : Nat)] (27 : Nat), AObj.vec (Con.typ cI (List.set isT (0 : Nat) (iI (List.getD isT (0 : Nat) (CL.d cI)), (4 : Int), (List.getD isT (0 : Nat) (CL.d cI)).snd.snd))) (43 : Nat), AObj.vec (Con.typ cC csT) (90 : Nat), AObj.vec (Con.typ cW wsT) (93 : Nat)] (cal Try.f8 (8 : Nat) (0 : Nat)) (Stk.mk none false (0 : Nat) [] (8 : Nat))))))))))))))))))))))))))))))))))))))))))))))))))))))))))))))))))))) := by kernel_rfl
def isR : Is := [mkI 1 4 1 (-1), mkI 2 1 2 0, mkI 3 2 1 0, mkI 4 3 2 0, mkI 5 1 2 0]
noncomputable def cNa2 : Cfg := ⟨sl 117 [(1, .ptr 0 0), (2, .ptr 1 0)], [obT isT, obT isR, .dead, .dead, .dead], cal Try.f8 8 0, kk 8⟩
theorem endNa  : run P tabNa.sum Try.f8 nsNa cNa2 =
  Tree.need (List.length isR ≤ (1000000 : Nat))
  (Tree.need (List.length csT ≤ (1000000 : Nat))
    (Tree.need (List.length wsT ≤ (1000000 : Nat))
      (Tree.need (List.map (fun (x : CL cI) => iI x) (delF (pIt (takeL isR (3 : Int))) isR) = [])
        (Tree.need (List.map (fun (x : CL cC) => lS x) (delF (pDr (takeL isR (3 : Int))) csT) = [])
          (Tree.need ((7 : Int) = (7 : Int))
            (Tree.need ((9 : Int) = (9 : Int))
              (Tree.ite true
                (Tree.need (List.length isR ≤ (1000000 : Nat))
                  (Tree.need (List.length csT ≤ (1000000 : Nat))
                    (Tree.need (List.length wsT ≤ (1000000 : Nat))
                      (Tree.need (List.map (fun (x : CL cI) => iI x) (delF (pIt (clearL isR (3 : Int))) isR) = [(3 : Int)])
                        (Tree.need (List.map (fun (x : CL cC) => lS x) (delF (pDr (clearL isR (3 : Int))) csT) = [(3 : Int)])
                          (Tree.need ((7 : Int) = (7 : Int))
                            (Tree.need ((9 : Int) = (9 : Int))
                              (Tree.ite true (Tree.need (List.length isR ≤ (1000000 : Nat)) (Tree.need (List.length csT ≤ (1000000 : Nat)) (Tree.need (List.length wsT ≤ (1000000 : Nat)) (Tree.need (List.map (fun (x : CL cW) => wT x) (delF (pWa (clearL isR (3 : Int))) wsT) = [(3 : Int)]) (Tree.ite true (Tree.need (List.length isT ≤ (1000000 : Nat)) (Tree.need (goneF isT [] = [(1 : Int), (2 : Int), (3 : Int), (4 : Int), (5 : Int)]) (Tree.ite true (Tree.need (List.length isT ≤ (1000000 : Nat)) (Tree.ite true (Tree.need ((0 : Nat) ≤ (1000000 : Nat)) (Tree.ret [AObj.own [AV.s (SV.int IntKind.i64 (7 : Int)), AV.s (SV.int IntKind.i64 (9 : Int)), AV.emp, AV.s (SV.ro (Con.typ cI isT)), AV.s (SV.ro (Con.typ cC csT)), AV.s (SV.ro (Con.typ cW wsT))] (27 : Nat), AObj.own [AV.s (SV.int IntKind.i64 (7 : Int)), AV.s (SV.int IntKind.i64 (9 : Int)), AV.emp, AV.s (SV.ro (Con.typ cI isR)), AV.s (SV.ro (Con.typ cC csT)), AV.s (SV.ro (Con.typ cW wsT))] (27 : Nat), AObj.dead, AObj.dead, AObj.dead, AObj.vec (Con.ints IntKind.i64 [(3 : Int)]) (3 : Nat), AObj.vec (Con.ints IntKind.i64 [(3 : Int)]) (3 : Nat), AObj.vec (Con.ints IntKind.i64 (goneF isT [])) (3 : Nat), AObj.vec (Con.ints IntKind.i64 [(1 : Int), (2 : Int), (3 : Int), (4 : Int), (5 : Int)]) (3 : Nat), AObj.vec (Con.ints IntKind.i64 (goneF isT isT)) (3 : Nat), AObj.vec (Con.ints IntKind.i64 (goneF [] isT)) (3 : Nat)] (AV.s (SV.bool true)))) (Tree.ret [AObj.own [AV.s (SV.int IntKind.i64 (7 : Int)), AV.s (SV.int IntKind.i64 (9 : Int)), AV.emp, AV.s (SV.ro (Con.typ cI isT)), AV.s (SV.ro (Con.typ cC csT)), AV.s (SV.ro (Con.typ cW wsT))] (27 : Nat), AObj.own [AV.s (SV.int IntKind.i64 (7 : Int)), AV.s (SV.int IntKind.i64 (9 : Int)), AV.emp, AV.s (SV.ro (Con.typ cI isR)), AV.s (SV.ro (Con.typ cC csT)), AV.s (SV.ro (Con.typ cW wsT))] (27 : Nat), AObj.dead, AObj.dead, AObj.dead, AObj.vec (Con.ints IntKind.i64 [(3 : Int)]) (3 : Nat), AObj.vec (Con.ints IntKind.i64 [(3 : Int)]) (3 : Nat), AObj.vec (Con.ints IntKind.i64 (goneF isT [])) (3 : Nat), AObj.vec (Con.ints IntKind.i64 [(1 : Int), (2 : Int), (3 : Int), (4 : Int), (5 : Int)]) (3 : Nat), AObj.vec (Con.ints IntKind.i64 (goneF isT isT)) (3 : Nat)] (AV.s (SV.blit false))))) (Tree.ret [AObj.own [AV.s (SV.int IntKind.i64 (7 : Int)), AV.s (SV.int IntKind.i64 (9 : Int)), AV.emp, AV.s (SV.ro (Con.typ cI isT)), AV.s (SV.ro (Con.typ cC csT)), AV.s (SV.ro (Con.typ cW wsT))] (27 : Nat), AObj.own [AV.s (SV.int IntKind.i64 (7 : Int)), AV.s (SV.int IntKind.i64 (9 : Int)), AV.emp, AV.s (SV.ro (Con.typ cI isR)), AV.s (SV.ro (Con.typ cC csT)), AV.s (SV.ro (Con.typ cW wsT))] (27 : Nat), AObj.dead, AObj.dead, AObj.dead, AObj.vec (Con.ints IntKind.i64 [(3 : Int)]) (3 : Nat), AObj.vec (Con.ints IntKind.i64 [(3 : Int)]) (3 : Nat), AObj.vec (Con.ints IntKind.i64 (goneF isT [])) (3 : Nat), AObj.vec (Con.ints IntKind.i64 [(1 : Int), (2 : Int), (3 : Int), (4 : Int), (5 : Int)]) (3 : Nat)] (AV.s (SV.blit false)))))) (Tree.ret [AObj.own [AV.s (SV.int IntKind.i64 (7 : Int)), AV.s (SV.int IntKind.i64 (9 : Int)), AV.emp, AV.s (SV.ro (Con.typ cI isT)), AV.s (SV.ro (Con.typ cC csT)), AV.s (SV.ro (Con.typ cW wsT))] (27 : Nat), AObj.own [AV.s (SV.int IntKind.i64 (7 : Int)), AV.s (SV.int IntKind.i64 (9 : Int)), AV.emp, AV.s (SV.ro (Con.typ cI isR)), AV.s (SV.ro (Con.typ cC csT)), AV.s (SV.ro (Con.typ cW wsT))] (27 : Nat), AObj.dead, AObj.dead, AObj.dead, AObj.vec (Con.ints IntKind.i64 [(3 : Int)]) (3 : Nat), AObj.vec (Con.ints IntKind.i64 [(3 : Int)]) (3 : Nat)] (AV.s (SV.blit false))))))))
                                (Tree.ret [AObj.own [AV.s (SV.int IntKind.i64 (7 : Int)), AV.s (SV.int IntKind.i64 (9 : Int)), AV.emp, AV.s (SV.ro (Con.typ cI isT)), AV.s (SV.ro (Con.typ cC csT)), AV.s (SV.ro (Con.typ cW wsT))] (27 : Nat), AObj.own [AV.s (SV.int IntKind.i64 (7 : Int)), AV.s (SV.int IntKind.i64 (9 : Int)), AV.emp, AV.s (SV.ro (Con.typ cI isR)), AV.s (SV.ro (Con.typ cC csT)), AV.s (SV.ro (Con.typ cW wsT))] (27 : Nat), AObj.dead, AObj.dead, AObj.dead, AObj.vec (Con.ints IntKind.i64 [(3 : Int)]) (3 : Nat)] (AV.s (SV.blit false)))))))))))
                (Tree.ret [AObj.own [AV.s (SV.int IntKind.i64 (7 : Int)), AV.s (SV.int IntKind.i64 (9 : Int)), AV.emp, AV.s (SV.ro (Con.typ cI isT)), AV.s (SV.ro (Con.typ cC csT)), AV.s (SV.ro (Con.typ cW wsT))] (27 : Nat), AObj.own [AV.s (SV.int IntKind.i64 (7 : Int)), AV.s (SV.int IntKind.i64 (9 : Int)), AV.emp, AV.s (SV.ro (Con.typ cI isR)), AV.s (SV.ro (Con.typ cC csT)), AV.s (SV.ro (Con.typ cW wsT))] (27 : Nat), AObj.dead, AObj.dead, AObj.dead] (AV.s (SV.blit false)))))))))) := by kernel_rfl
theorem in_ok {Z : Glob} : FnOk P Z 30 [tNs, tInt] [tBool] (fun _ => []) (fun (l, x, ()) => ((l : List Int).contains x, ())) := by
  refine fnOk_of_safe Try.func30 (by kernel_rfl) (by kernel_rfl) ?_
  rintro ⟨(l : List Int), (x : Int), ⟨⟩⟩ ⟨(hl : l.length ≤ maxLen), _⟩ _ X hX hz
  have hl2 : l.length ≤ 9223372036854775807 := by unfold maxLen at hl; omega
  show Safe P 30 X (Ends [tBool] (l.contains x, ())) _
  have loop : ∀ (j k : Nat), k + j = l.length → (∀ i (hi : i < k) (h2 : i < l.length), l[i] ≠ x) → Safe P 30 X (Ends [tBool] (l.contains x, ())) (cIn l x (k : Int)) := by
    intro j
    induction j with
    | zero =>
      intro k hk hi
      have e : l.contains x = false := by
        rw [List.contains_eq_mem, decide_eq_false_iff_not]
        intro h
        obtain ⟨i, h1, h2⟩ := List.mem_iff_getElem.1 h
        exact hi i (by omega) h1 h2
      refine go hz hX Tab.Ok.nil Try.func30 (loopIn l x k) (no_and (decide_eq_false (by omega)) ?_)
      rw [e]; exact ends_eq _ rfl (by kernel_rfl)
    | succ j ih =>
      intro k hk hi
      have hlt : k < l.length := by omega
      refine go hz hX Tab.Ok.nil Try.func30 (loopIn l x k) (yes_and (decide_eq_true (by omega)) ⟨by omega, by omega, ?_⟩)
      rw [Int.toNat_natCast, getD_lt hlt]
      by_cases h : l[k] = x
      · refine yes_and (by simpa using h) ?_
        have e : l.contains x = true := by rw [List.contains_eq_mem, decide_eq_true_iff, ← h]; exact List.getElem_mem hlt
        rw [e]; exact ends_eq _ rfl (by kernel_rfl)
      · refine no_and (by simpa using h) ⟨⟨by omega, by omega⟩, ih (k + 1) (by omega) fun i h1 h2 => ?_⟩
        by_cases e : i = k
        · subst e; exact h
        · exact hi i (by omega) h2
  refine go hz hX Tab.Ok.nil Try.func30 (trIn l x) ?_
  exact loop l.length 0 (by omega) fun i hi => absurd hi (Nat.not_lt_zero _)
theorem eq_ok {Z : Glob} : FnOk P Z 37 [tNs, tNs] [tBool] (fun (a, b, ()) => [(a : List Int) = b]) (fun _ => (true, ())) := by
  refine fnOk_of_safe Try.func37 (by kernel_rfl) (by kernel_rfl) ?_
  rintro ⟨(l : List Int), (l2 : List Int), ⟨⟩⟩ ⟨(hl : l.length ≤ maxLen), _⟩ ⟨(rfl : l = l2), _⟩ X hX hz
  have hl2 : l.length ≤ 9223372036854775807 := by unfold maxLen at hl; omega
  show Safe P 37 X (Ends [tBool] (true, ())) _
  have loop : ∀ (n k : Nat), k + n = l.length → Safe P 37 X (Ends [tBool] (true, ())) (cEq l l (k : Int)) := by
    intro n
    induction n with
    | zero => exact fun k hk => go hz hX Tab.Ok.nil Try.func37 (loopEq l l k) (no_and (decide_eq_false (by omega)) (ends_eq _ rfl (by kernel_rfl)))
    | succ n ih => exact fun k hk => go hz hX Tab.Ok.nil Try.func37 (loopEq l l k) (yes_and (decide_eq_true (by omega)) ⟨by omega, by omega, by omega, by omega, no_and (by simp) ⟨⟨by omega, by omega⟩, ih (k + 1) (by omega)⟩⟩)
  exact go hz hX Tab.Ok.nil Try.func37 (trEq l l) (no_and (by simp) (loop l.length 0 (by omega)))
theorem map_at {α : Type} {f : α → Int} {xs : List α} {l : List Int} {k : Nat} (h : xs.map f = l) (hk : k < xs.length) : l.getD k 0 = f xs[k] := by
  subst h
  rw [getD_lt (by simpa using hk), List.getElem_map]
theorem left_ok {Z : Glob} : FnOk P Z 35 [tSt, tNs] [tBool] preLe (fun _ => (true, ())) := by
  refine fnOk_of_safe Try.func35 (by kernel_rfl) (by kernel_rfl) ?_
  rintro ⟨⟨(ck : Int), (nx : Int), (ps : Ps), (is : Is), (cs : Cs), (ws : Ws), ⟨⟩⟩, (l : List Int), ⟨⟩⟩ ⟨_, (hl : l.length ≤ maxLen), _⟩ ⟨(h1 : is.map (fun x : CL cI => iI x) = l), (h2 : cs.map (fun x : CL cC => lS x) = l), (rfl : ck = 7), (rfl : nx = 9), _⟩ X hX hz
  have hl2 : l.length ≤ 9223372036854775807 := by unfold maxLen at hl; omega
  have l1 : is.length = l.length := by rw [← h1, List.length_map]
  have l2 : cs.length = l.length := by rw [← h2, List.length_map]
  show Safe P 35 X (Ends [tBool] (true, ())) _
  have loop : ∀ (n k : Nat), k + n = l.length → Safe P 35 X (Ends [tBool] (true, ())) (cLe 7 9 ps is cs ws l (k : Int)) := by
    intro n
    induction n with
    | zero => exact fun k hk => go hz hX Tab.Ok.nil Try.func35 (loopLe 7 9 ps is cs ws l k) (no_and (decide_eq_false (by omega)) (ends_eq _ rfl (by kernel_rfl)))
    | succ n ih =>
      intro k hk
      refine go hz hX Tab.Ok.nil Try.func35 (loopLe 7 9 ps is cs ws l k) (yes_and (decide_eq_true (by omega)) ⟨by omega, by omega, by omega, by omega, ?_⟩)
      rw [Int.toNat_natCast]
      have e1 : iI (el is (k : Int)) = l.getD k 0 := by rw [el_lt (show k < is.length by omega), map_at h1 (show k < is.length by omega)]
      have e2 : lS (el cs (k : Int)) = l.getD k 0 := by rw [el_lt (show k < cs.length by omega), map_at h2 (show k < cs.length by omega)]
      exact no_and (by rw [e1]; simp) ⟨by omega, by omega, by omega, by omega, no_and (by rw [e2]; simp) ⟨⟨by omega, by omega⟩, ih (k + 1) (by omega)⟩⟩
  exact go hz hX Tab.Ok.nil Try.func35 (trLe 7 9 ps is cs ws l) (no_and (by simp [l1]) (no_and (by simp [l2]) (no_and (by simp) (no_and (by simp) (loop l.length 0 (by omega))))))
theorem watched_ok {Z : Glob} : FnOk P Z 33 [tSt, tNs] [tBool] preWd (fun _ => (true, ())) := by
  refine fnOk_of_safe Try.func33 (by kernel_rfl) (by kernel_rfl) ?_
  rintro ⟨⟨(ck : Int), (nx : Int), (ps : Ps), (is : Is), (cs : Cs), (ws : Ws), ⟨⟩⟩, (l : List Int), ⟨⟩⟩ ⟨_, (hl : l.length ≤ maxLen), _⟩ ⟨(h1 : ws.map (fun x : CL cW => wT x) = l), _⟩ X hX hz
  have hl2 : l.length ≤ 9223372036854775807 := by unfold maxLen at hl; omega
  have l1 : ws.length = l.length := by rw [← h1, List.length_map]
  show Safe P 33 X (Ends [tBool] (true, ())) _
  have loop : ∀ (n k : Nat), k + n = l.length → Safe P 33 X (Ends [tBool] (true, ())) (cWd ck nx ps is cs ws l (k : Int)) := by
    intro n
    induction n with
    | zero => exact fun k hk => go hz hX Tab.Ok.nil Try.func33 (loopWd ck nx ps is cs ws l k) (no_and (decide_eq_false (by omega)) (ends_eq _ rfl (by kernel_rfl)))
    | succ n ih =>
      intro k hk
      refine go hz hX Tab.Ok.nil Try.func33 (loopWd ck nx ps is cs ws l k) (yes_and (decide_eq_true (by omega)) ⟨by omega, by omega, by omega, by omega, ?_⟩)
      rw [Int.toNat_natCast]
      have e1 : wT (el ws (k : Int)) = l.getD k 0 := by rw [el_lt (show k < ws.length by omega), map_at h1 (show k < ws.length by omega)]
      exact no_and (by rw [e1]; simp) ⟨⟨by omega, by omega⟩, ih (k + 1) (by omega)⟩
  exact go hz hX Tab.Ok.nil Try.func33 (trWd ck nx ps is cs ws l) (no_and (by simp [l1]) (loop l.length 0 (by omega)))
theorem large_ok {Z : Glob} : FnOk P Z 24 [tSt] [tBool] (fun _ => []) (fun ((_, _, ps, is, cs, ws, ()), ()) => (largeF ps is cs ws, ())) := by
  refine fnOk_of_safe Try.func24 (by kernel_rfl) (by kernel_rfl) ?_
  rintro ⟨⟨(ck : Int), (nx : Int), (ps : Ps), (is : Is), (cs : Cs), (ws : Ws), ⟨⟩⟩, ⟨⟩⟩ _ _ X hX hz
  show Safe P 24 X (Ends [tBool] (largeF ps is cs ws, ())) _
  refine go hz hX Tab.Ok.nil Try.func24 (trLg ck nx ps is cs ws) ?_
  refine ⟨fun h => ?_, fun a => ⟨fun h => ?_, fun b => ⟨fun h => ?_, fun c => ?_⟩⟩⟩
  · have h := of_decide_eq_true h
    have e : largeF ps is cs ws = true := decide_eq_true (by omega)
    rw [e]; exact ends_eq _ rfl (by kernel_rfl)
  · have h := of_decide_eq_true h
    have e : largeF ps is cs ws = true := decide_eq_true (by omega)
    rw [e]; exact ends_eq _ rfl (by kernel_rfl)
  · have h := of_decide_eq_true h
    have e : largeF ps is cs ws = true := decide_eq_true (by omega)
    rw [e]; exact ends_eq _ rfl (by kernel_rfl)
  · have a := of_decide_eq_false a
    have b := of_decide_eq_false b
    have c := of_decide_eq_false c
    have e : largeF ps is cs ws = decide ((ps.length : Int) > 12) := by unfold largeF; congr 1; rw [eq_iff_iff]; omega
    rw [e]; exact ends_eq _ rfl (by kernel_rfl)
theorem towerR_ok {Z : Glob} : FnOk P Z 32 [] [tSr] (fun _ => []) (fun _ => toV) := by
  refine fnOk_of_safe Try.func32 (by kernel_rfl) (by kernel_rfl) ?_
  rintro ⟨⟩ _ _ X hX hz
  exact go hz hX Tab.Ok.nil Try.func32 trTo ⟨by decide, by decide, by decide, by decide, by decide, by decide, by decide, by decide, by decide, by decide, ends_eq _ rfl (by kernel_rfl)⟩
theorem tower_ok {Z : Glob} : FnS P Z 32 sTo := by
  refine fnS_of_safe Try.func32 (by kernel_rfl) (fun x => Nat.le_of_ble_eq_true (by kernel_rfl)) ?_
  rintro ⟨⟩ _ X hX hz
  have hns : ∀ x ∈ nsTo, (sTo.heap ()).length ≤ x.2.m := by intro y hy; simp [nsTo, unrollKey] at hy; rcases hy with rfl; exact Nat.le_refl _
  exact goS hz hX hns Tab.Ok.nil Try.func32 trTo ⟨by decide, by decide, by decide, by decide, by decide, by decide, by decide, by decide, by decide, by decide, endS 0 (by kernel_rfl) (Nat.le_refl _) rfl rfl⟩
theorem tabWk_ok {Z : Glob} : tabWk.Ok P Z := Tab.Ok.cons towerR_ok.sumR (Tab.Ok.cons clear_ok.sumR (Tab.Ok.cons take_ok.sumR (Tab.Ok.cons left_ok.sum (Tab.Ok.cons gone_ok.sum (Tab.Ok.cons eq_ok.sum Tab.Ok.nil)))))
end Ds

namespace Ds
open Go Go.Sx Go.Proofs Lf
theorem works_ok {Z : Glob} : FnOk P Z 23 [] [tBool] (fun _ => []) (fun _ => (true, ())) := by
  refine fnOk_of_safe Try.func23 (by kernel_rfl) (by kernel_rfl) ?_
  rintro ⟨⟩ _ _ X hX hz
  refine go hz hX tabWk_ok Try.func23 trWk ?_
  repeat first | refine yes_and rfl ?_ | refine no_and rfl ?_ | refine ⟨by kernel_rfl, ?_⟩ | refine ⟨by decide, ?_⟩
  exact ends_eq _ rfl (by kernel_rfl)
theorem tabNa_ok {Z : Glob} : tabNa.Ok P Z := Tab.Ok.cons works_ok.sum (Tab.Ok.cons (tower_ok.sum mTo) (Tab.Ok.cons clear_ok.sumR (Tab.Ok.cons break_ok.sumR (Tab.Ok.cons take_ok.sumR (Tab.Ok.cons left_ok.sum (Tab.Ok.cons watched_ok.sum (Tab.Ok.cons gone_ok.sum (Tab.Ok.cons eq_ok.sum Tab.Ok.nil))))))))
theorem cancelNames_ok {Z : Glob} : FnOk P Z 8 [] [tBool] (fun _ => []) (fun _ => (true, ())) := by
  refine fnOk_of_safe Try.func8 (by kernel_rfl) (by kernel_rfl) ?_
  rintro ⟨⟩ _ _ X hX hz
  refine go hz hX tabNa_ok Try.func8 trNa (no_and rfl ⟨rfl, rfl, ?_⟩)
  refine frz_safe 1 rfl (frz_safe 2 rfl (frz_safe 3 (c := cNa) (by kernel_rfl) ?_))
  refine go hz hX tabNa_ok Try.func8 midNa ?_
  repeat first | refine yes_and rfl ?_ | refine no_and rfl ?_ | refine ⟨by kernel_rfl, ?_⟩ | refine ⟨by decide, ?_⟩
  refine ⟨rfl, rfl, by decide, by decide, ?_⟩
  refine frz_safe 2 rfl (frz_safe 3 rfl (frz_safe 4 (c := cNa2) (by kernel_rfl) ?_))
  refine go hz hX tabNa_ok Try.func8 endNa ?_
  repeat first | refine yes_and rfl ?_ | refine no_and rfl ?_ | refine ⟨by kernel_rfl, ?_⟩ | refine ⟨by decide, ?_⟩
  exact ends_eq _ rfl (by kernel_rfl)
end Ds

namespace Ds
open Go Go.Sx Go.Proofs Lf
abbrev sumSa := sumOf [tSt, tSt] [tBool] preSa (fun _ => (true, ()))
def tabJs : Tab := [(26, sumSa), (30, sumIn)]
def nsJs : List (Nat × Norm) := [(5, ⟨[], [2, 3, 4, 5, 9, 10], 0, []⟩), (13, ⟨[], [2, 3, 4, 5, 9, 11, 12], 0, []⟩), (21, ⟨[], [3, 4, 5, 9, 11, 13, 14], 0, []⟩)]
theorem trJs (ck nx : Int) (ps : Ps) (is : Is) (cs : Cs) (ws : Ws) (is' : Is) (cs' : Cs) (ws' : Ws) (l q : List Int) : run P tabJs.sum Try.f29 nsJs (start Try.f29 [avSt ck nx ps is cs ws, avSt ck nx ps is' cs' ws', avL l, avL q] []) =
  Tree.ite (ck != ck) (Tree.ret [AObj.own [AV.s (SV.int IntKind.i64 ck), AV.s (SV.int IntKind.i64 nx), AV.s (SV.ro (Con.typ cP ps)), AV.s (SV.ro (Con.typ cI is)), AV.s (SV.ro (Con.typ cC cs)), AV.s (SV.ro (Con.typ cW ws))] (27 : Nat), AObj.own [AV.s (SV.int IntKind.i64 ck), AV.s (SV.int IntKind.i64 nx), AV.s (SV.ro (Con.typ cP ps)), AV.s (SV.ro (Con.typ cI is')), AV.s (SV.ro (Con.typ cC cs')), AV.s (SV.ro (Con.typ cW ws'))] (27 : Nat)] (AV.s (SV.blit false))) (Tree.ite (nx != nx) (Tree.ret [AObj.own [AV.s (SV.int IntKind.i64 ck), AV.s (SV.int IntKind.i64 nx), AV.s (SV.ro (Con.typ cP ps)), AV.s (SV.ro (Con.typ cI is)), AV.s (SV.ro (Con.typ cC cs)), AV.s (SV.ro (Con.typ cW ws))] (27 : Nat), AObj.own [AV.s (SV.int IntKind.i64 ck), AV.s (SV.int IntKind.i64 nx), AV.s (SV.ro (Con.typ cP ps)), AV.s (SV.ro (Con.typ cI is')), AV.s (SV.ro (Con.typ cC cs')), AV.s (SV.ro (Con.typ cW ws'))] (27 : Nat)] (AV.s (SV.blit false))) (Tree.need (StEq (0 : Int) (0 : Int) ps [] [] [] (0 : Int) (0 : Int) ps [] [] []) (Tree.ite false (Tree.ret [AObj.own [AV.s (SV.int IntKind.i64 ck), AV.s (SV.int IntKind.i64 nx), AV.s (SV.ro (Con.typ cP ps)), AV.s (SV.ro (Con.typ cI is)), AV.s (SV.ro (Con.typ cC cs)), AV.s (SV.ro (Con.typ cW ws))] (27 : Nat), AObj.own [AV.s (SV.int IntKind.i64 ck), AV.s (SV.int IntKind.i64 nx), AV.s (SV.ro (Con.typ cP ps)), AV.s (SV.ro (Con.typ cI is')), AV.s (SV.ro (Con.typ cC cs')), AV.s (SV.ro (Con.typ cW ws'))] (27 : Nat)] (AV.s (SV.blit false))) (Tree.at (Cfg.mk (sl (161 : Nat) [((2 : Nat), AV.s (SV.ro (Con.ints IntKind.i64 l))), ((3 : Nat), AV.s (SV.ro (Con.ints IntKind.i64 q))), ((4 : Nat), AV.ptr (0 : Nat) (0 : Nat)), ((5 : Nat), AV.ptr (1 : Nat) (0 : Nat)), ((9 : Nat), AV.s (SV.int IntKind.i64 (0 : Int))), ((10 : Nat), AV.s (SV.int IntKind.i64 (0 : Int)))]) [AObj.own [AV.s (SV.int IntKind.i64 ck), AV.s (SV.int IntKind.i64 nx), AV.s (SV.ro (Con.typ cP ps)), AV.s (SV.ro (Con.typ cI is)), AV.s (SV.ro (Con.typ cC cs)), AV.s (SV.ro (Con.typ cW ws))] (27 : Nat), AObj.own [AV.s (SV.int IntKind.i64 ck), AV.s (SV.int IntKind.i64 nx), AV.s (SV.ro (Con.typ cP ps)), AV.s (SV.ro (Con.typ cI is')), AV.s (SV.ro (Con.typ cC cs')), AV.s (SV.ro (Con.typ cW ws'))] (27 : Nat)] (hd Try.f29 (5 : Nat)) (Stk.mk none false (0 : Nat) [] (0 : Nat))))))) := by kernel_rfl
noncomputable def cJs1 (ck nx : Int) (ps : Ps) (is : Is) (cs : Cs) (ws : Ws) (is' : Is) (cs' : Cs) (ws' : Ws) (l q : List Int) (n i : Int) : Cfg := ⟨sl 161 [(2, avL l), (3, avL q), (4, .ptr 0 0), (5, .ptr 1 0), (9, avI n), (10, avI i)], [obSt ck nx ps is cs ws, obSt ck nx ps is' cs' ws'], hd Try.f29 5, {}⟩
theorem loopJs1 (ck nx : Int) (ps : Ps) (is : Is) (cs : Cs) (ws : Ws) (is' : Is) (cs' : Cs) (ws' : Ws) (l q : List Int) (n i : Int) : run P tabJs.sum Try.f29 nsJs (cJs1 ck nx ps is cs ws is' cs' ws' l q n i) =
  Tree.ite (decide (i < (↑(List.length is) : Int))) (Tree.need ((0 : Int) ≤ i) (Tree.need (i < (↑(List.length is) : Int)) (Tree.ite (l.contains (iI (el is i))) (Tree.need (inI64 (i + (1 : Int))) (Tree.at (Cfg.mk (sl (161 : Nat) [((2 : Nat), AV.s (SV.ro (Con.ints IntKind.i64 l))), ((3 : Nat), AV.s (SV.ro (Con.ints IntKind.i64 q))), ((4 : Nat), AV.ptr (0 : Nat) (0 : Nat)), ((5 : Nat), AV.ptr (1 : Nat) (0 : Nat)), ((9 : Nat), AV.s (SV.int IntKind.i64 n)), ((10 : Nat), AV.s (SV.int IntKind.i64 (i + (1 : Int))))]) [AObj.own [AV.s (SV.int IntKind.i64 ck), AV.s (SV.int IntKind.i64 nx), AV.s (SV.ro (Con.typ cP ps)), AV.s (SV.ro (Con.typ cI is)), AV.s (SV.ro (Con.typ cC cs)), AV.s (SV.ro (Con.typ cW ws))] (27 : Nat), AObj.own [AV.s (SV.int IntKind.i64 ck), AV.s (SV.int IntKind.i64 nx), AV.s (SV.ro (Con.typ cP ps)), AV.s (SV.ro (Con.typ cI is')), AV.s (SV.ro (Con.typ cC cs')), AV.s (SV.ro (Con.typ cW ws'))] (27 : Nat)] (hd Try.f29 (5 : Nat)) (Stk.mk none false (0 : Nat) [] (0 : Nat))))) (Tree.ite (decide (n ≥ (↑(List.length is') : Int))) (Tree.ret [AObj.own [AV.s (SV.int IntKind.i64 ck), AV.s (SV.int IntKind.i64 nx), AV.s (SV.ro (Con.typ cP ps)), AV.s (SV.ro (Con.typ cI is)), AV.s (SV.ro (Con.typ cC cs)), AV.s (SV.ro (Con.typ cW ws))] (27 : Nat), AObj.own [AV.s (SV.int IntKind.i64 ck), AV.s (SV.int IntKind.i64 nx), AV.s (SV.ro (Con.typ cP ps)), AV.s (SV.ro (Con.typ cI is')), AV.s (SV.ro (Con.typ cC cs')), AV.s (SV.ro (Con.typ cW ws'))] (27 : Nat)] (AV.s (SV.blit false))) (Tree.need ((0 : Int) ≤ n) (Tree.need (n < (↑(List.length is') : Int)) (Tree.need ((0 : Int) ≤ i) (Tree.need (i < (↑(List.length is) : Int)) (Tree.ite (!(iI (el is' n) == iI (el is i) && (iU (el is' n) == iU (el is i) && (iS (el is' n) == iS (el is i) && (decide (iP (el is' n) = iP (el is i)) && (iN (el is' n) == iN (el is i) && (iF (el is' n) == iF (el is i) && (iW (el is' n) == iW (el is i) && (decide (iC (el is' n) = iC (el is i)) && true))))))))) (Tree.ret [AObj.own [AV.s (SV.int IntKind.i64 ck), AV.s (SV.int IntKind.i64 nx), AV.s (SV.ro (Con.typ cP ps)), AV.s (SV.ro (Con.typ cI is)), AV.s (SV.ro (Con.typ cC cs)), AV.s (SV.ro (Con.typ cW ws))] (27 : Nat), AObj.own [AV.s (SV.int IntKind.i64 ck), AV.s (SV.int IntKind.i64 nx), AV.s (SV.ro (Con.typ cP ps)), AV.s (SV.ro (Con.typ cI is')), AV.s (SV.ro (Con.typ cC cs')), AV.s (SV.ro (Con.typ cW ws'))] (27 : Nat)] (AV.s (SV.blit false))) (Tree.need (inI64 (n + (1 : Int))) (Tree.need (inI64 (i + (1 : Int))) (Tree.at (Cfg.mk (sl (161 : Nat) [((2 : Nat), AV.s (SV.ro (Con.ints IntKind.i64 l))), ((3 : Nat), AV.s (SV.ro (Con.ints IntKind.i64 q))), ((4 : Nat), AV.ptr (0 : Nat) (0 : Nat)), ((5 : Nat), AV.ptr (1 : Nat) (0 : Nat)), ((9 : Nat), AV.s (SV.int IntKind.i64 (n + (1 : Int)))), ((10 : Nat), AV.s (SV.int IntKind.i64 (i + (1 : Int))))]) [AObj.own [AV.s (SV.int IntKind.i64 ck), AV.s (SV.int IntKind.i64 nx), AV.s (SV.ro (Con.typ cP ps)), AV.s (SV.ro (Con.typ cI is)), AV.s (SV.ro (Con.typ cC cs)), AV.s (SV.ro (Con.typ cW ws))] (27 : Nat), AObj.own [AV.s (SV.int IntKind.i64 ck), AV.s (SV.int IntKind.i64 nx), AV.s (SV.ro (Con.typ cP ps)), AV.s (SV.ro (Con.typ cI is')), AV.s (SV.ro (Con.typ cC cs')), AV.s (SV.ro (Con.typ cW ws'))] (27 : Nat)] (hd Try.f29 (5 : Nat)) (Stk.mk none false (0 : Nat) [] (0 : Nat)))))))))))))))
  (Tree.at (Cfg.mk (sl (161 : Nat) [((2 : Nat), AV.s (SV.ro (Con.ints IntKind.i64 l))), ((3 : Nat), AV.s (SV.ro (Con.ints IntKind.i64 q))), ((4 : Nat), AV.ptr (0 : Nat) (0 : Nat)), ((5 : Nat), AV.ptr (1 : Nat) (0 : Nat)), ((9 : Nat), AV.s (SV.int IntKind.i64 n)), ((11 : Nat), AV.s (SV.int IntKind.i64 (0 : Int))), ((12 : Nat), AV.s (SV.int IntKind.i64 (0 : Int)))]) [AObj.own [AV.s (SV.int IntKind.i64 ck), AV.s (SV.int IntKind.i64 nx), AV.s (SV.ro (Con.typ cP ps)), AV.s (SV.ro (Con.typ cI is)), AV.s (SV.ro (Con.typ cC cs)), AV.s (SV.ro (Con.typ cW ws))] (27 : Nat), AObj.own [AV.s (SV.int IntKind.i64 ck), AV.s (SV.int IntKind.i64 nx), AV.s (SV.ro (Con.typ cP ps)), AV.s (SV.ro (Con.typ cI is')), AV.s (SV.ro (Con.typ cC cs')), AV.s (SV.ro (Con.typ cW ws'))] (27 : Nat)] (hd Try.f29 (13 : Nat)) (Stk.mk none false (0 : Nat) [] (0 : Nat)))) := by kernel_rfl
noncomputable def cJs2 (ck nx : Int) (ps : Ps) (is : Is) (cs : Cs) (ws : Ws) (is' : Is) (cs' : Cs) (ws' : Ws) (l q : List Int) (n k i : Int) : Cfg := ⟨sl 161 [(2, avL l), (3, avL q), (4, .ptr 0 0), (5, .ptr 1 0), (9, avI n), (11, avI k), (12, avI i)], [obSt ck nx ps is cs ws, obSt ck nx ps is' cs' ws'], hd Try.f29 13, {}⟩
theorem loopJs2 (ck nx : Int) (ps : Ps) (is : Is) (cs : Cs) (ws : Ws) (is' : Is) (cs' : Cs) (ws' : Ws) (l q : List Int) (n k i : Int) : run P tabJs.sum Try.f29 nsJs (cJs2 ck nx ps is cs ws is' cs' ws' l q n k i) =
  Tree.ite (decide (i < (↑(List.length cs) : Int))) (Tree.need ((0 : Int) ≤ i) (Tree.need (i < (↑(List.length cs) : Int)) (Tree.ite (l.contains (lS (el cs i))) (Tree.need (inI64 (i + (1 : Int))) (Tree.at (Cfg.mk (sl (161 : Nat) [((2 : Nat), AV.s (SV.ro (Con.ints IntKind.i64 l))), ((3 : Nat), AV.s (SV.ro (Con.ints IntKind.i64 q))), ((4 : Nat), AV.ptr (0 : Nat) (0 : Nat)), ((5 : Nat), AV.ptr (1 : Nat) (0 : Nat)), ((9 : Nat), AV.s (SV.int IntKind.i64 n)), ((11 : Nat), AV.s (SV.int IntKind.i64 k)), ((12 : Nat), AV.s (SV.int IntKind.i64 (i + (1 : Int))))]) [AObj.own [AV.s (SV.int IntKind.i64 ck), AV.s (SV.int IntKind.i64 nx), AV.s (SV.ro (Con.typ cP ps)), AV.s (SV.ro (Con.typ cI is)), AV.s (SV.ro (Con.typ cC cs)), AV.s (SV.ro (Con.typ cW ws))] (27 : Nat), AObj.own [AV.s (SV.int IntKind.i64 ck), AV.s (SV.int IntKind.i64 nx), AV.s (SV.ro (Con.typ cP ps)), AV.s (SV.ro (Con.typ cI is')), AV.s (SV.ro (Con.typ cC cs')), AV.s (SV.ro (Con.typ cW ws'))] (27 : Nat)] (hd Try.f29 (13 : Nat)) (Stk.mk none false (0 : Nat) [] (0 : Nat))))) (Tree.ite (decide (k ≥ (↑(List.length cs') : Int))) (Tree.ret [AObj.own [AV.s (SV.int IntKind.i64 ck), AV.s (SV.int IntKind.i64 nx), AV.s (SV.ro (Con.typ cP ps)), AV.s (SV.ro (Con.typ cI is)), AV.s (SV.ro (Con.typ cC cs)), AV.s (SV.ro (Con.typ cW ws))] (27 : Nat), AObj.own [AV.s (SV.int IntKind.i64 ck), AV.s (SV.int IntKind.i64 nx), AV.s (SV.ro (Con.typ cP ps)), AV.s (SV.ro (Con.typ cI is')), AV.s (SV.ro (Con.typ cC cs')), AV.s (SV.ro (Con.typ cW ws'))] (27 : Nat)] (AV.s (SV.blit false))) (Tree.need ((0 : Int) ≤ k) (Tree.need (k < (↑(List.length cs') : Int)) (Tree.need ((0 : Int) ≤ i) (Tree.need (i < (↑(List.length cs) : Int)) (Tree.ite (!(lS (el cs' k) == lS (el cs i) && (decide (lN (el cs' k) = lN (el cs i)) && (lK (el cs' k) == lK (el cs i) && (lV (el cs' k) == lV (el cs i) && (decide (lT (el cs' k) = lT (el cs i)) && true)) && true)))) (Tree.ret [AObj.own [AV.s (SV.int IntKind.i64 ck), AV.s (SV.int IntKind.i64 nx), AV.s (SV.ro (Con.typ cP ps)), AV.s (SV.ro (Con.typ cI is)), AV.s (SV.ro (Con.typ cC cs)), AV.s (SV.ro (Con.typ cW ws))] (27 : Nat), AObj.own [AV.s (SV.int IntKind.i64 ck), AV.s (SV.int IntKind.i64 nx), AV.s (SV.ro (Con.typ cP ps)), AV.s (SV.ro (Con.typ cI is')), AV.s (SV.ro (Con.typ cC cs')), AV.s (SV.ro (Con.typ cW ws'))] (27 : Nat)] (AV.s (SV.blit false))) (Tree.need (inI64 (k + (1 : Int))) (Tree.need (inI64 (i + (1 : Int))) (Tree.at (Cfg.mk (sl (161 : Nat) [((2 : Nat), AV.s (SV.ro (Con.ints IntKind.i64 l))), ((3 : Nat), AV.s (SV.ro (Con.ints IntKind.i64 q))), ((4 : Nat), AV.ptr (0 : Nat) (0 : Nat)), ((5 : Nat), AV.ptr (1 : Nat) (0 : Nat)), ((9 : Nat), AV.s (SV.int IntKind.i64 n)), ((11 : Nat), AV.s (SV.int IntKind.i64 (k + (1 : Int)))), ((12 : Nat), AV.s (SV.int IntKind.i64 (i + (1 : Int))))]) [AObj.own [AV.s (SV.int IntKind.i64 ck), AV.s (SV.int IntKind.i64 nx), AV.s (SV.ro (Con.typ cP ps)), AV.s (SV.ro (Con.typ cI is)), AV.s (SV.ro (Con.typ cC cs)), AV.s (SV.ro (Con.typ cW ws))] (27 : Nat), AObj.own [AV.s (SV.int IntKind.i64 ck), AV.s (SV.int IntKind.i64 nx), AV.s (SV.ro (Con.typ cP ps)), AV.s (SV.ro (Con.typ cI is')), AV.s (SV.ro (Con.typ cC cs')), AV.s (SV.ro (Con.typ cW ws'))] (27 : Nat)] (hd Try.f29 (13 : Nat)) (Stk.mk none false (0 : Nat) [] (0 : Nat)))))))))))))))
  (Tree.at (Cfg.mk (sl (161 : Nat) [((3 : Nat), AV.s (SV.ro (Con.ints IntKind.i64 q))), ((4 : Nat), AV.ptr (0 : Nat) (0 : Nat)), ((5 : Nat), AV.ptr (1 : Nat) (0 : Nat)), ((9 : Nat), AV.s (SV.int IntKind.i64 n)), ((11 : Nat), AV.s (SV.int IntKind.i64 k)), ((13 : Nat), AV.s (SV.int IntKind.i64 (0 : Int))), ((14 : Nat), AV.s (SV.int IntKind.i64 (0 : Int)))]) [AObj.own [AV.s (SV.int IntKind.i64 ck), AV.s (SV.int IntKind.i64 nx), AV.s (SV.ro (Con.typ cP ps)), AV.s (SV.ro (Con.typ cI is)), AV.s (SV.ro (Con.typ cC cs)), AV.s (SV.ro (Con.typ cW ws))] (27 : Nat), AObj.own [AV.s (SV.int IntKind.i64 ck), AV.s (SV.int IntKind.i64 nx), AV.s (SV.ro (Con.typ cP ps)), AV.s (SV.ro (Con.typ cI is')), AV.s (SV.ro (Con.typ cC cs')), AV.s (SV.ro (Con.typ cW ws'))] (27 : Nat)] (hd Try.f29 (21 : Nat)) (Stk.mk none false (0 : Nat) [] (0 : Nat)))) := by kernel_rfl
noncomputable def cJs3 (ck nx : Int) (ps : Ps) (is : Is) (cs : Cs) (ws : Ws) (is' : Is) (cs' : Cs) (ws' : Ws) (l q : List Int) (n k m i : Int) : Cfg := ⟨sl 161 [(3, avL q), (4, .ptr 0 0), (5, .ptr 1 0), (9, avI n), (11, avI k), (13, avI m), (14, avI i)], [obSt ck nx ps is cs ws, obSt ck nx ps is' cs' ws'], hd Try.f29 21, {}⟩
theorem loopJs3 (ck nx : Int) (ps : Ps) (is : Is) (cs : Cs) (ws : Ws) (is' : Is) (cs' : Cs) (ws' : Ws) (l q : List Int) (n k m i : Int) : run P tabJs.sum Try.f29 nsJs (cJs3 ck nx ps is cs ws is' cs' ws' l q n k m i) =
  Tree.ite (decide (i < (↑(List.length ws) : Int))) (Tree.need ((0 : Int) ≤ i) (Tree.need (i < (↑(List.length ws) : Int)) (Tree.ite (q.contains (wT (el ws i))) (Tree.need (inI64 (i + (1 : Int))) (Tree.at (Cfg.mk (sl (161 : Nat) [((3 : Nat), AV.s (SV.ro (Con.ints IntKind.i64 q))), ((4 : Nat), AV.ptr (0 : Nat) (0 : Nat)), ((5 : Nat), AV.ptr (1 : Nat) (0 : Nat)), ((9 : Nat), AV.s (SV.int IntKind.i64 n)), ((11 : Nat), AV.s (SV.int IntKind.i64 k)), ((13 : Nat), AV.s (SV.int IntKind.i64 m)), ((14 : Nat), AV.s (SV.int IntKind.i64 (i + (1 : Int))))]) [AObj.own [AV.s (SV.int IntKind.i64 ck), AV.s (SV.int IntKind.i64 nx), AV.s (SV.ro (Con.typ cP ps)), AV.s (SV.ro (Con.typ cI is)), AV.s (SV.ro (Con.typ cC cs)), AV.s (SV.ro (Con.typ cW ws))] (27 : Nat), AObj.own [AV.s (SV.int IntKind.i64 ck), AV.s (SV.int IntKind.i64 nx), AV.s (SV.ro (Con.typ cP ps)), AV.s (SV.ro (Con.typ cI is')), AV.s (SV.ro (Con.typ cC cs')), AV.s (SV.ro (Con.typ cW ws'))] (27 : Nat)] (hd Try.f29 (21 : Nat)) (Stk.mk none false (0 : Nat) [] (0 : Nat))))) (Tree.ite (decide (m ≥ (↑(List.length ws') : Int))) (Tree.ret [AObj.own [AV.s (SV.int IntKind.i64 ck), AV.s (SV.int IntKind.i64 nx), AV.s (SV.ro (Con.typ cP ps)), AV.s (SV.ro (Con.typ cI is)), AV.s (SV.ro (Con.typ cC cs)), AV.s (SV.ro (Con.typ cW ws))] (27 : Nat), AObj.own [AV.s (SV.int IntKind.i64 ck), AV.s (SV.int IntKind.i64 nx), AV.s (SV.ro (Con.typ cP ps)), AV.s (SV.ro (Con.typ cI is')), AV.s (SV.ro (Con.typ cC cs')), AV.s (SV.ro (Con.typ cW ws'))] (27 : Nat)] (AV.s (SV.blit false))) (Tree.need ((0 : Int) ≤ m) (Tree.need (m < (↑(List.length ws') : Int)) (Tree.need ((0 : Int) ≤ i) (Tree.need (i < (↑(List.length ws) : Int)) (Tree.ite (!(wI (el ws' m) == wI (el ws i) && (wT (el ws' m) == wT (el ws i) && (wN (el ws' m) == wN (el ws i) && (wE (el ws' m) == wE (el ws i) && (decide (wK (el ws' m) = wK (el ws i)) && (wD (el ws' m) == wD (el ws i) && (wA (el ws' m) == wA (el ws i) && true)))))))) (Tree.ret [AObj.own [AV.s (SV.int IntKind.i64 ck), AV.s (SV.int IntKind.i64 nx), AV.s (SV.ro (Con.typ cP ps)), AV.s (SV.ro (Con.typ cI is)), AV.s (SV.ro (Con.typ cC cs)), AV.s (SV.ro (Con.typ cW ws))] (27 : Nat), AObj.own [AV.s (SV.int IntKind.i64 ck), AV.s (SV.int IntKind.i64 nx), AV.s (SV.ro (Con.typ cP ps)), AV.s (SV.ro (Con.typ cI is')), AV.s (SV.ro (Con.typ cC cs')), AV.s (SV.ro (Con.typ cW ws'))] (27 : Nat)] (AV.s (SV.blit false))) (Tree.need (inI64 (m + (1 : Int))) (Tree.need (inI64 (i + (1 : Int))) (Tree.at (Cfg.mk (sl (161 : Nat) [((3 : Nat), AV.s (SV.ro (Con.ints IntKind.i64 q))), ((4 : Nat), AV.ptr (0 : Nat) (0 : Nat)), ((5 : Nat), AV.ptr (1 : Nat) (0 : Nat)), ((9 : Nat), AV.s (SV.int IntKind.i64 n)), ((11 : Nat), AV.s (SV.int IntKind.i64 k)), ((13 : Nat), AV.s (SV.int IntKind.i64 (m + (1 : Int)))), ((14 : Nat), AV.s (SV.int IntKind.i64 (i + (1 : Int))))]) [AObj.own [AV.s (SV.int IntKind.i64 ck), AV.s (SV.int IntKind.i64 nx), AV.s (SV.ro (Con.typ cP ps)), AV.s (SV.ro (Con.typ cI is)), AV.s (SV.ro (Con.typ cC cs)), AV.s (SV.ro (Con.typ cW ws))] (27 : Nat), AObj.own [AV.s (SV.int IntKind.i64 ck), AV.s (SV.int IntKind.i64 nx), AV.s (SV.ro (Con.typ cP ps)), AV.s (SV.ro (Con.typ cI is')), AV.s (SV.ro (Con.typ cC cs')), AV.s (SV.ro (Con.typ cW ws'))] (27 : Nat)] (hd Try.f29 (21 : Nat)) (Stk.mk none false (0 : Nat) [] (0 : Nat)))))))))))))))
  (Tree.ite (n == (↑(List.length is') : Int)) (Tree.ite (k == (↑(List.length cs') : Int)) (Tree.ret [AObj.own [AV.s (SV.int IntKind.i64 ck), AV.s (SV.int IntKind.i64 nx), AV.s (SV.ro (Con.typ cP ps)), AV.s (SV.ro (Con.typ cI is)), AV.s (SV.ro (Con.typ cC cs)), AV.s (SV.ro (Con.typ cW ws))] (27 : Nat), AObj.own [AV.s (SV.int IntKind.i64 ck), AV.s (SV.int IntKind.i64 nx), AV.s (SV.ro (Con.typ cP ps)), AV.s (SV.ro (Con.typ cI is')), AV.s (SV.ro (Con.typ cC cs')), AV.s (SV.ro (Con.typ cW ws'))] (27 : Nat)] (AV.s (SV.bool (m == (↑(List.length ws') : Int))))) (Tree.ret [AObj.own [AV.s (SV.int IntKind.i64 ck), AV.s (SV.int IntKind.i64 nx), AV.s (SV.ro (Con.typ cP ps)), AV.s (SV.ro (Con.typ cI is)), AV.s (SV.ro (Con.typ cC cs)), AV.s (SV.ro (Con.typ cW ws))] (27 : Nat), AObj.own [AV.s (SV.int IntKind.i64 ck), AV.s (SV.int IntKind.i64 nx), AV.s (SV.ro (Con.typ cP ps)), AV.s (SV.ro (Con.typ cI is')), AV.s (SV.ro (Con.typ cC cs')), AV.s (SV.ro (Con.typ cW ws'))] (27 : Nat)] (AV.s (SV.blit false)))) (Tree.ret [AObj.own [AV.s (SV.int IntKind.i64 ck), AV.s (SV.int IntKind.i64 nx), AV.s (SV.ro (Con.typ cP ps)), AV.s (SV.ro (Con.typ cI is)), AV.s (SV.ro (Con.typ cC cs)), AV.s (SV.ro (Con.typ cW ws))] (27 : Nat), AObj.own [AV.s (SV.int IntKind.i64 ck), AV.s (SV.int IntKind.i64 nx), AV.s (SV.ro (Con.typ cP ps)), AV.s (SV.ro (Con.typ cI is')), AV.s (SV.ro (Con.typ cC cs')), AV.s (SV.ro (Con.typ cW ws'))] (27 : Nat)] (AV.s (SV.blit false)))) := by kernel_rfl
abbrev preJs : AL [tSt, tSt, tNs, tNs] → List Prop := fun ((ck, nx, ps, is, cs, ws, ()), (ck', nx', ps', is', cs', ws', ()), l, q, ()) => [StEq ck' nx' ps' is' cs' ws' ck nx ps (delF (pIt l) (is : Is)) (delF (pDr l) (cs : Cs)) (delF (pWa q) (ws : Ws))]
abbrev sumJs := sumOf [tSt, tSt, tNs, tNs] [tBool] preJs (fun _ => (true, ()))
/-! the laws -/
def tabLw : Tab := [(23, sumWk), (24, sumLg), (25, sumTa), (34, sumCl), (36, sumBr), (14, sumFi), (26, sumSa), (27, sumGo), (28, sumBe), (29, sumJs), (30, sumIn), (31, sumKi)]
def nsLj : List (Nat × Norm) := [(12, ⟨[], [1, 5, 8, 9, 10], 0, []⟩)]
theorem trLj (ck nx : Int) (ps : Ps) (is : Is) (cs : Cs) (ws : Ws) (id : Int) : run P tabLw.sum Try.f6 nsLj (start Try.f6 [avSt ck nx ps is cs ws, avI id] []) =
  Tree.ite false (Tree.ret [AObj.own [AV.s (SV.int IntKind.i64 ck), AV.s (SV.int IntKind.i64 nx), AV.s (SV.ro (Con.typ cP ps)), AV.s (SV.ro (Con.typ cI is)), AV.s (SV.ro (Con.typ cC cs)), AV.s (SV.ro (Con.typ cW ws))] (27 : Nat)] (AV.s (SV.bool true)))
  (Tree.ite (largeF ps is cs ws) (Tree.ret [AObj.own [AV.s (SV.int IntKind.i64 ck), AV.s (SV.int IntKind.i64 nx), AV.s (SV.ro (Con.typ cP ps)), AV.s (SV.ro (Con.typ cI is)), AV.s (SV.ro (Con.typ cC cs)), AV.s (SV.ro (Con.typ cW ws))] (27 : Nat)] (AV.s (SV.bool true)))
    (Tree.need (List.length is ≤ (1000000 : Nat))
      (Tree.need (List.length cs ≤ (1000000 : Nat))
        (Tree.need (List.length ws ≤ (1000000 : Nat))
          (Tree.ite (!hasI is id) (Tree.need (StEq ck nx ps is cs ws ck nx ps (delF (pIt (takeL is id)) is) (delF (pDr (takeL is id)) cs) (delF (pWa (takeL is id)) ws)) (Tree.ite true (Tree.need (List.length is ≤ (1000000 : Nat)) (Tree.ret [AObj.own [AV.s (SV.int IntKind.i64 ck), AV.s (SV.int IntKind.i64 nx), AV.s (SV.ro (Con.typ cP ps)), AV.s (SV.ro (Con.typ cI is)), AV.s (SV.ro (Con.typ cC cs)), AV.s (SV.ro (Con.typ cW ws))] (27 : Nat), AObj.own [AV.s (SV.int IntKind.i64 ck), AV.s (SV.int IntKind.i64 nx), AV.s (SV.ro (Con.typ cP ps)), AV.s (SV.ro (Con.typ cI (delF (pIt (takeL is id)) is))), AV.s (SV.ro (Con.typ cC (delF (pDr (takeL is id)) cs))), AV.s (SV.ro (Con.typ cW (delF (pWa (takeL is id)) ws)))] (27 : Nat), AObj.own [AV.s (SV.int IntKind.i64 (gI is id)), AV.s (SV.int IntKind.i64 (gU is id)), AV.s (SV.int IntKind.u8 (gS is id)), AV.s (SV.str (gP is id)), AV.s (SV.int IntKind.i64 (gN is id)), AV.s (SV.int IntKind.i64 (gF is id)), AV.s (SV.int IntKind.u8 (gW is id)), AV.s (SV.str (gC is id))] (43 : Nat), AObj.vec (Con.ints IntKind.i64 (goneF is (delF (pIt (takeL is id)) is))) (3 : Nat)] (AV.s (SV.bool ((↑(goneF is (delF (pIt (takeL is id)) is)).length : Int) == (0 : Int)))))) (Tree.ret [AObj.own [AV.s (SV.int IntKind.i64 ck), AV.s (SV.int IntKind.i64 nx), AV.s (SV.ro (Con.typ cP ps)), AV.s (SV.ro (Con.typ cI is)), AV.s (SV.ro (Con.typ cC cs)), AV.s (SV.ro (Con.typ cW ws))] (27 : Nat), AObj.own [AV.s (SV.int IntKind.i64 ck), AV.s (SV.int IntKind.i64 nx), AV.s (SV.ro (Con.typ cP ps)), AV.s (SV.ro (Con.typ cI (delF (pIt (takeL is id)) is))), AV.s (SV.ro (Con.typ cC (delF (pDr (takeL is id)) cs))), AV.s (SV.ro (Con.typ cW (delF (pWa (takeL is id)) ws)))] (27 : Nat), AObj.own [AV.s (SV.int IntKind.i64 (gI is id)), AV.s (SV.int IntKind.i64 (gU is id)), AV.s (SV.int IntKind.u8 (gS is id)), AV.s (SV.str (gP is id)), AV.s (SV.int IntKind.i64 (gN is id)), AV.s (SV.int IntKind.i64 (gF is id)), AV.s (SV.int IntKind.u8 (gW is id)), AV.s (SV.str (gC is id))] (43 : Nat)] (AV.s (SV.blit false)))))
            (Tree.need (List.length is ≤ (1000000 : Nat)) (Tree.need (((belowF (esOf is) id).length + (1 : Nat)) * (8 : Nat) ≤ (140737488355328 : Nat)) (Tree.need (StEq ck nx ps (delF (pIt (takeL is id)) is) (delF (pDr (takeL is id)) cs) (delF (pWa (takeL is id)) ws) ck nx ps (delF (pIt (belowF (esOf is) id ++ [id])) is) (delF (pDr (belowF (esOf is) id ++ [id])) cs) (delF (pWa (belowF (esOf is) id ++ [id])) ws)) (Tree.ite false (Tree.ret [AObj.own [AV.s (SV.int IntKind.i64 ck), AV.s (SV.int IntKind.i64 nx), AV.s (SV.ro (Con.typ cP ps)), AV.s (SV.ro (Con.typ cI is)), AV.s (SV.ro (Con.typ cC cs)), AV.s (SV.ro (Con.typ cW ws))] (27 : Nat), AObj.own [AV.s (SV.int IntKind.i64 ck), AV.s (SV.int IntKind.i64 nx), AV.s (SV.ro (Con.typ cP ps)), AV.s (SV.ro (Con.typ cI (delF (pIt (takeL is id)) is))), AV.s (SV.ro (Con.typ cC (delF (pDr (takeL is id)) cs))), AV.s (SV.ro (Con.typ cW (delF (pWa (takeL is id)) ws)))] (27 : Nat), AObj.own [AV.s (SV.int IntKind.i64 (gI is id)), AV.s (SV.int IntKind.i64 (gU is id)), AV.s (SV.int IntKind.u8 (gS is id)), AV.s (SV.str (gP is id)), AV.s (SV.int IntKind.i64 (gN is id)), AV.s (SV.int IntKind.i64 (gF is id)), AV.s (SV.int IntKind.u8 (gW is id)), AV.s (SV.str (gC is id))] (43 : Nat), AObj.dead, AObj.vec (Con.ints IntKind.i64 [id]) (3 : Nat), AObj.vec (Con.ints IntKind.i64 (belowF (esOf is) id ++ [id])) (3 : Nat)] (AV.s (SV.blit false))) (Tree.need (List.length is ≤ (1000000 : Nat)) (Tree.at (Cfg.mk (sl (93 : Nat) [((1 : Nat), AV.s (SV.int IntKind.i64 id)), ((5 : Nat), AV.ptr (0 : Nat) (0 : Nat)), ((8 : Nat), AV.vec (1 : Nat)), ((9 : Nat), AV.vec (2 : Nat)), ((10 : Nat), AV.s (SV.int IntKind.i64 (0 : Int)))]) [AObj.own [AV.s (SV.int IntKind.i64 ck), AV.s (SV.int IntKind.i64 nx), AV.s (SV.ro (Con.typ cP ps)), AV.s (SV.ro (Con.typ cI (delF (pIt (takeL is id)) is))), AV.s (SV.ro (Con.typ cC (delF (pDr (takeL is id)) cs))), AV.s (SV.ro (Con.typ cW (delF (pWa (takeL is id)) ws)))] (27 : Nat), AObj.vec (Con.ints IntKind.i64 (belowF (esOf is) id ++ [id])) (3 : Nat), AObj.vec (Con.ints IntKind.i64 (goneF is (delF (pIt (takeL is id)) is))) (3 : Nat)] (hd Try.f6 (12 : Nat)) (Stk.mk none false (0 : Nat) [] (0 : Nat)))))))))))))) := by kernel_rfl
def nsLr0 : List (Nat × Norm) := [(4, ⟨[], [1, 2, 3, 7], 0, []⟩), (7, ⟨[], [1, 2, 3, 7, 8], 0, []⟩)]
noncomputable def cLj (ck nx : Int) (ps : Ps) (is : Is) (cs : Cs) (ws : Ws) (id : Int) (l g : List Int) (i : Int) : Cfg := ⟨sl 93 [(1, avI id), (5, .ptr 0 0), (8, .vec 1), (9, .vec 2), (10, avI i)], [obSt ck nx ps is cs ws, .vec (.ints .i64 l) 3, .vec (.ints .i64 g) 3], hd Try.f6 12, {}⟩
theorem loopLj (ck nx : Int) (ps : Ps) (is : Is) (cs : Cs) (ws : Ws) (id : Int) (l g : List Int) (i : Int) : run P tabLw.sum Try.f6 nsLj (cLj ck nx ps is cs ws id l g i) =
  Tree.ite (decide (i < (↑g.length : Int))) (Tree.need ((0 : Int) ≤ i) (Tree.need (i < (↑g.length : Int)) (Tree.ite (!l.contains (g.getD i.toNat (0 : Int))) (Tree.ret [AObj.own [AV.s (SV.int IntKind.i64 ck), AV.s (SV.int IntKind.i64 nx), AV.s (SV.ro (Con.typ cP ps)), AV.s (SV.ro (Con.typ cI is)), AV.s (SV.ro (Con.typ cC cs)), AV.s (SV.ro (Con.typ cW ws))] (27 : Nat), AObj.vec (Con.ints IntKind.i64 l) (3 : Nat), AObj.vec (Con.ints IntKind.i64 g) (3 : Nat)] (AV.s (SV.blit false))) (Tree.ite (decide (i > (0 : Int))) (Tree.need ((0 : Int) ≤ i) (Tree.need (i < (↑g.length : Int)) (Tree.need (inI64 (i - (1 : Int))) (Tree.need ((0 : Int) ≤ i - (1 : Int)) (Tree.need (i - (1 : Int) < (↑g.length : Int)) (Tree.ite (decide (g.getD i.toNat (0 : Int) ≤ g.getD (i - (1 : Int)).toNat (0 : Int))) (Tree.ret [AObj.own [AV.s (SV.int IntKind.i64 ck), AV.s (SV.int IntKind.i64 nx), AV.s (SV.ro (Con.typ cP ps)), AV.s (SV.ro (Con.typ cI is)), AV.s (SV.ro (Con.typ cC cs)), AV.s (SV.ro (Con.typ cW ws))] (27 : Nat), AObj.vec (Con.ints IntKind.i64 l) (3 : Nat), AObj.vec (Con.ints IntKind.i64 g) (3 : Nat)] (AV.s (SV.blit false))) (Tree.need (inI64 (i + (1 : Int))) (Tree.at (Cfg.mk (sl (93 : Nat) [((1 : Nat), AV.s (SV.int IntKind.i64 id)), ((5 : Nat), AV.ptr (0 : Nat) (0 : Nat)), ((8 : Nat), AV.vec (1 : Nat)), ((9 : Nat), AV.vec (2 : Nat)), ((10 : Nat), AV.s (SV.int IntKind.i64 (i + (1 : Int))))]) [AObj.own [AV.s (SV.int IntKind.i64 ck), AV.s (SV.int IntKind.i64 nx), AV.s (SV.ro (Con.typ cP ps)), AV.s (SV.ro (Con.typ cI is)), AV.s (SV.ro (Con.typ cC cs)), AV.s (SV.ro (Con.typ cW ws))] (27 : Nat), AObj.vec (Con.ints IntKind.i64 l) (3 : Nat), AObj.vec (Con.ints IntKind.i64 g) (3 : Nat)] (hd Try.f6 (12 : Nat)) (Stk.mk none false (0 : Nat) [] (0 : Nat))))))))))) (Tree.need (inI64 (i + (1 : Int))) (Tree.at (Cfg.mk (sl (93 : Nat) [((1 : Nat), AV.s (SV.int IntKind.i64 id)), ((5 : Nat), AV.ptr (0 : Nat) (0 : Nat)), ((8 : Nat), AV.vec (1 : Nat)), ((9 : Nat), AV.vec (2 : Nat)), ((10 : Nat), AV.s (SV.int IntKind.i64 (i + (1 : Int))))]) [AObj.own [AV.s (SV.int IntKind.i64 ck), AV.s (SV.int IntKind.i64 nx), AV.s (SV.ro (Con.typ cP ps)), AV.s (SV.ro (Con.typ cI is)), AV.s (SV.ro (Con.typ cC cs)), AV.s (SV.ro (Con.typ cW ws))] (27 : Nat), AObj.vec (Con.ints IntKind.i64 l) (3 : Nat), AObj.vec (Con.ints IntKind.i64 g) (3 : Nat)] (hd Try.f6 (12 : Nat)) (Stk.mk none false (0 : Nat) [] (0 : Nat))))))))) (Tree.ite (g.contains id) (Tree.need (List.length is ≤ (1000000 : Nat)) (Tree.ret [AObj.own [AV.s (SV.int IntKind.i64 ck), AV.s (SV.int IntKind.i64 nx), AV.s (SV.ro (Con.typ cP ps)), AV.s (SV.ro (Con.typ cI is)), AV.s (SV.ro (Con.typ cC cs)), AV.s (SV.ro (Con.typ cW ws))] (27 : Nat), AObj.vec (Con.ints IntKind.i64 l) (3 : Nat), AObj.vec (Con.ints IntKind.i64 g) (3 : Nat), AObj.vec (Con.ints IntKind.i64 (kidsF (esOf is) id)) (3 : Nat)] (AV.s (SV.bool ((↑(kidsF (esOf is) id).length : Int) == (0 : Int)))))) (Tree.ret [AObj.own [AV.s (SV.int IntKind.i64 ck), AV.s (SV.int IntKind.i64 nx), AV.s (SV.ro (Con.typ cP ps)), AV.s (SV.ro (Con.typ cI is)), AV.s (SV.ro (Con.typ cC cs)), AV.s (SV.ro (Con.typ cW ws))] (27 : Nat), AObj.vec (Con.ints IntKind.i64 l) (3 : Nat), AObj.vec (Con.ints IntKind.i64 g) (3 : Nat)] (AV.s (SV.blit false)))) := by kernel_rfl
def nsLr : List (Nat × Norm) := [(4, ⟨[], [1, 2, 3, 7], 0, []⟩), (7, ⟨[], [1, 2, 3, 7, 8], 0, []⟩)]
noncomputable def cLr1 (ck nx : Int) (ps : Ps) (is : Is) (cs : Cs) (ws : Ws) (a b i : Int) : Cfg := ⟨sl 61 [(1, avI a), (2, avI b), (3, .ptr 0 0), (7, avI i)], [obSt ck nx ps is cs ws], hd Try.f7 4, {}⟩
theorem loopLr1 (ck nx : Int) (ps : Ps) (is : Is) (cs : Cs) (ws : Ws) (a b i : Int) : run P tabLw.sum Try.f7 nsLr (cLr1 ck nx ps is cs ws a b i) =
  Tree.ite (decide (i < (↑(List.length is) : Int))) (Tree.at (Cfg.mk (sl (61 : Nat) [((1 : Nat), AV.s (SV.int IntKind.i64 a)), ((2 : Nat), AV.s (SV.int IntKind.i64 b)), ((3 : Nat), AV.ptr (0 : Nat) (0 : Nat)), ((7 : Nat), AV.s (SV.int IntKind.i64 i)), ((8 : Nat), AV.s (SV.int IntKind.i64 (0 : Int)))]) [AObj.own [AV.s (SV.int IntKind.i64 ck), AV.s (SV.int IntKind.i64 nx), AV.s (SV.ro (Con.typ cP ps)), AV.s (SV.ro (Con.typ cI is)), AV.s (SV.ro (Con.typ cC cs)), AV.s (SV.ro (Con.typ cW ws))] (27 : Nat)] (hd Try.f7 (7 : Nat)) (Stk.mk none false (0 : Nat) [] (0 : Nat)))) (Tree.need (List.length is ≤ (1000000 : Nat)) (Tree.need (List.length cs ≤ (1000000 : Nat)) (Tree.need (List.length ws ≤ (1000000 : Nat)) (Tree.need ((delF (pIt (takeL is a)) is).length ≤ (1000000 : Nat)) (Tree.need ((delF (pDr (takeL is a)) cs).length ≤ (1000000 : Nat)) (Tree.need ((delF (pWa (takeL is a)) ws).length ≤ (1000000 : Nat)) (Tree.need (List.length is ≤ (1000000 : Nat)) (Tree.need (List.length cs ≤ (1000000 : Nat)) (Tree.need (List.length ws ≤ (1000000 : Nat)) (Tree.need ((delF (pIt (takeL is b)) is).length ≤ (1000000 : Nat)) (Tree.need ((delF (pDr (takeL is b)) cs).length ≤ (1000000 : Nat)) (Tree.need ((delF (pWa (takeL is b)) ws).length ≤ (1000000 : Nat)) (Tree.need (StEq ck nx ps (delF (pIt (takeL (delF (pIt (takeL is a)) is) b)) (delF (pIt (takeL is a)) is)) (delF (pDr (takeL (delF (pIt (takeL is a)) is) b)) (delF (pDr (takeL is a)) cs)) (delF (pWa (takeL (delF (pIt (takeL is a)) is) b)) (delF (pWa (takeL is a)) ws)) ck nx ps (delF (pIt (takeL (delF (pIt (takeL is b)) is) a)) (delF (pIt (takeL is b)) is)) (delF (pDr (takeL (delF (pIt (takeL is b)) is) a)) (delF (pDr (takeL is b)) cs)) (delF (pWa (takeL (delF (pIt (takeL is b)) is) a)) (delF (pWa (takeL is b)) ws))) (Tree.ite true (Tree.need ((delF (pIt (takeL is a)) is).length ≤ (1000000 : Nat)) (Tree.need ((delF (pDr (takeL is a)) cs).length ≤ (1000000 : Nat)) (Tree.need ((delF (pWa (takeL is a)) ws).length ≤ (1000000 : Nat)) (Tree.need (StEq ck nx ps (delF (pIt (takeL (delF (pIt (takeL is a)) is) a)) (delF (pIt (takeL is a)) is)) (delF (pDr (takeL (delF (pIt (takeL is a)) is) a)) (delF (pDr (takeL is a)) cs)) (delF (pWa (takeL (delF (pIt (takeL is a)) is) a)) (delF (pWa (takeL is a)) ws)) ck nx ps (delF (pIt (takeL is a)) is) (delF (pDr (takeL is a)) cs) (delF (pWa (takeL is a)) ws)) (Tree.ret [AObj.own [AV.s (SV.int IntKind.i64 ck), AV.s (SV.int IntKind.i64 nx), AV.s (SV.ro (Con.typ cP ps)), AV.s (SV.ro (Con.typ cI is)), AV.s (SV.ro (Con.typ cC cs)), AV.s (SV.ro (Con.typ cW ws))] (27 : Nat), AObj.own [AV.s (SV.int IntKind.i64 ck), AV.s (SV.int IntKind.i64 nx), AV.s (SV.ro (Con.typ cP ps)), AV.s (SV.ro (Con.typ cI (delF (pIt (takeL is a)) is))), AV.s (SV.ro (Con.typ cC (delF (pDr (takeL is a)) cs))), AV.s (SV.ro (Con.typ cW (delF (pWa (takeL is a)) ws)))] (27 : Nat)] (AV.s (SV.bool true))))))) (Tree.ret [AObj.own [AV.s (SV.int IntKind.i64 ck), AV.s (SV.int IntKind.i64 nx), AV.s (SV.ro (Con.typ cP ps)), AV.s (SV.ro (Con.typ cI is)), AV.s (SV.ro (Con.typ cC cs)), AV.s (SV.ro (Con.typ cW ws))] (27 : Nat), AObj.own [AV.s (SV.int IntKind.i64 ck), AV.s (SV.int IntKind.i64 nx), AV.s (SV.ro (Con.typ cP ps)), AV.s (SV.ro (Con.typ cI (delF (pIt (takeL is a)) is))), AV.s (SV.ro (Con.typ cC (delF (pDr (takeL is a)) cs))), AV.s (SV.ro (Con.typ cW (delF (pWa (takeL is a)) ws)))] (27 : Nat)] (AV.s (SV.blit false))))))))))))))))) := by kernel_rfl
noncomputable def cLr2 (ck nx : Int) (ps : Ps) (is : Is) (cs : Cs) (ws : Ws) (a b i k : Int) : Cfg := ⟨sl 61 [(1, avI a), (2, avI b), (3, .ptr 0 0), (7, avI i), (8, avI k)], [obSt ck nx ps is cs ws], hd Try.f7 7, {}⟩
theorem loopLr2 (ck nx : Int) (ps : Ps) (is : Is) (cs : Cs) (ws : Ws) (a b i k : Int) : run P tabLw.sum Try.f7 nsLr (cLr2 ck nx ps is cs ws a b i k) =
  Tree.ite (decide (k < i)) (Tree.need ((0 : Int) ≤ k) (Tree.need (k < (↑(List.length is) : Int)) (Tree.need ((0 : Int) ≤ i) (Tree.need (i < (↑(List.length is) : Int)) (Tree.ite (iI (el is k) == iI (el is i)) (Tree.ret [AObj.own [AV.s (SV.int IntKind.i64 ck), AV.s (SV.int IntKind.i64 nx), AV.s (SV.ro (Con.typ cP ps)), AV.s (SV.ro (Con.typ cI is)), AV.s (SV.ro (Con.typ cC cs)), AV.s (SV.ro (Con.typ cW ws))] (27 : Nat)] (AV.s (SV.blit true))) (Tree.need (inI64 (k + (1 : Int))) (Tree.at (Cfg.mk (sl (61 : Nat) [((1 : Nat), AV.s (SV.int IntKind.i64 a)), ((2 : Nat), AV.s (SV.int IntKind.i64 b)), ((3 : Nat), AV.ptr (0 : Nat) (0 : Nat)), ((7 : Nat), AV.s (SV.int IntKind.i64 i)), ((8 : Nat), AV.s (SV.int IntKind.i64 (k + (1 : Int))))]) [AObj.own [AV.s (SV.int IntKind.i64 ck), AV.s (SV.int IntKind.i64 nx), AV.s (SV.ro (Con.typ cP ps)), AV.s (SV.ro (Con.typ cI is)), AV.s (SV.ro (Con.typ cC cs)), AV.s (SV.ro (Con.typ cW ws))] (27 : Nat)] (hd Try.f7 (7 : Nat)) (Stk.mk none false (0 : Nat) [] (0 : Nat)))))))))) (Tree.need (inI64 (i + (1 : Int))) (Tree.at (Cfg.mk (sl (61 : Nat) [((1 : Nat), AV.s (SV.int IntKind.i64 a)), ((2 : Nat), AV.s (SV.int IntKind.i64 b)), ((3 : Nat), AV.ptr (0 : Nat) (0 : Nat)), ((7 : Nat), AV.s (SV.int IntKind.i64 (i + (1 : Int))))]) [AObj.own [AV.s (SV.int IntKind.i64 ck), AV.s (SV.int IntKind.i64 nx), AV.s (SV.ro (Con.typ cP ps)), AV.s (SV.ro (Con.typ cI is)), AV.s (SV.ro (Con.typ cC cs)), AV.s (SV.ro (Con.typ cW ws))] (27 : Nat)] (hd Try.f7 (4 : Nat)) (Stk.mk none false (0 : Nat) [] (0 : Nat))))) := by kernel_rfl
theorem trLr (ck nx : Int) (ps : Ps) (is : Is) (cs : Cs) (ws : Ws) (a b : Int) : run P tabLw.sum Try.f7 nsLr (start Try.f7 [avSt ck nx ps is cs ws, avI a, avI b] []) =
  Tree.ite false (Tree.ret [AObj.own [AV.s (SV.int IntKind.i64 ck), AV.s (SV.int IntKind.i64 nx), AV.s (SV.ro (Con.typ cP ps)), AV.s (SV.ro (Con.typ cI is)), AV.s (SV.ro (Con.typ cC cs)), AV.s (SV.ro (Con.typ cW ws))] (27 : Nat)] (AV.s (SV.bool true))) (Tree.ite (largeF ps is cs ws) (Tree.ret [AObj.own [AV.s (SV.int IntKind.i64 ck), AV.s (SV.int IntKind.i64 nx), AV.s (SV.ro (Con.typ cP ps)), AV.s (SV.ro (Con.typ cI is)), AV.s (SV.ro (Con.typ cC cs)), AV.s (SV.ro (Con.typ cW ws))] (27 : Nat)] (AV.s (SV.bool true))) (Tree.at (Cfg.mk (sl (61 : Nat) [((1 : Nat), AV.s (SV.int IntKind.i64 a)), ((2 : Nat), AV.s (SV.int IntKind.i64 b)), ((3 : Nat), AV.ptr (0 : Nat) (0 : Nat)), ((7 : Nat), AV.s (SV.int IntKind.i64 (0 : Int)))]) [AObj.own [AV.s (SV.int IntKind.i64 ck), AV.s (SV.int IntKind.i64 nx), AV.s (SV.ro (Con.typ cP ps)), AV.s (SV.ro (Con.typ cI is)), AV.s (SV.ro (Con.typ cC cs)), AV.s (SV.ro (Con.typ cW ws))] (27 : Nat)] (hd Try.f7 (4 : Nat)) (Stk.mk none false (0 : Nat) [] (0 : Nat))))) := by kernel_rfl
def nsLc : List (Nat × Norm) := [(11, ⟨[(9, .ints .i64 [], 3)], [1, 2, 5, 6, 7, 9, 10, 11], 0, []⟩)]
theorem trLc (ck nx : Int) (ps : Ps) (is : Is) (cs : Cs) (ws : Ws) (id : Int) : run P tabLw.sum Try.f10 nsLc (start Try.f10 [avSt ck nx ps is cs ws, avI id] []) =
  Tree.ite false (Tree.ret [AObj.own [AV.s (SV.int IntKind.i64 ck), AV.s (SV.int IntKind.i64 nx), AV.s (SV.ro (Con.typ cP ps)), AV.s (SV.ro (Con.typ cI is)), AV.s (SV.ro (Con.typ cC cs)), AV.s (SV.ro (Con.typ cW ws))] (27 : Nat)] (AV.s (SV.bool true)))
  (Tree.ite (largeF ps is cs ws) (Tree.ret [AObj.own [AV.s (SV.int IntKind.i64 ck), AV.s (SV.int IntKind.i64 nx), AV.s (SV.ro (Con.typ cP ps)), AV.s (SV.ro (Con.typ cI is)), AV.s (SV.ro (Con.typ cC cs)), AV.s (SV.ro (Con.typ cW ws))] (27 : Nat)] (AV.s (SV.bool true)))
    (Tree.need (List.length is ≤ (1000000 : Nat))
      (Tree.need (List.length cs ≤ (1000000 : Nat))
        (Tree.need (List.length ws ≤ (1000000 : Nat))
          (Tree.need (List.length is ≤ (1000000 : Nat))
            (Tree.need (List.length cs ≤ (1000000 : Nat))
              (Tree.need (List.length ws ≤ (1000000 : Nat))
                (Tree.ite (!hasI is id) (Tree.need (StEq ck nx ps is cs ws ck nx ps (delF (pIt (clearL is id)) is) (delF (pDr (clearL is id)) cs) (delF (pWa (clearL is id)) ws)) (Tree.ite true (Tree.need (StEq ck nx ps is cs ws ck nx ps (delF (pIt (clearL is id)) is) (delF (pDr (clearL is id)) cs) (delF (pWa (breakL is id)) ws)) (Tree.ret [AObj.own [AV.s (SV.int IntKind.i64 ck), AV.s (SV.int IntKind.i64 nx), AV.s (SV.ro (Con.typ cP ps)), AV.s (SV.ro (Con.typ cI is)), AV.s (SV.ro (Con.typ cC cs)), AV.s (SV.ro (Con.typ cW ws))] (27 : Nat), AObj.own [AV.s (SV.int IntKind.i64 ck), AV.s (SV.int IntKind.i64 nx), AV.s (SV.ro (Con.typ cP ps)), AV.s (SV.ro (Con.typ cI (delF (pIt (clearL is id)) is))), AV.s (SV.ro (Con.typ cC (delF (pDr (clearL is id)) cs))), AV.s (SV.ro (Con.typ cW (delF (pWa (clearL is id)) ws)))] (27 : Nat), AObj.own [AV.s (SV.int IntKind.i64 ck), AV.s (SV.int IntKind.i64 nx), AV.s (SV.ro (Con.typ cP ps)), AV.s (SV.ro (Con.typ cI (delF (pIt (clearL is id)) is))), AV.s (SV.ro (Con.typ cC (delF (pDr (clearL is id)) cs))), AV.s (SV.ro (Con.typ cW (delF (pWa (breakL is id)) ws)))] (27 : Nat), AObj.own [AV.s (SV.int IntKind.i64 (gI is id)), AV.s (SV.int IntKind.i64 (gU is id)), AV.s (SV.int IntKind.u8 (gS is id)), AV.s (SV.str (gP is id)), AV.s (SV.int IntKind.i64 (gN is id)), AV.s (SV.int IntKind.i64 (gF is id)), AV.s (SV.int IntKind.u8 (gW is id)), AV.s (SV.str (gC is id))] (43 : Nat)] (AV.s (SV.bool true)))) (Tree.ret [AObj.own [AV.s (SV.int IntKind.i64 ck), AV.s (SV.int IntKind.i64 nx), AV.s (SV.ro (Con.typ cP ps)), AV.s (SV.ro (Con.typ cI is)), AV.s (SV.ro (Con.typ cC cs)), AV.s (SV.ro (Con.typ cW ws))] (27 : Nat), AObj.own [AV.s (SV.int IntKind.i64 ck), AV.s (SV.int IntKind.i64 nx), AV.s (SV.ro (Con.typ cP ps)), AV.s (SV.ro (Con.typ cI (delF (pIt (clearL is id)) is))), AV.s (SV.ro (Con.typ cC (delF (pDr (clearL is id)) cs))), AV.s (SV.ro (Con.typ cW (delF (pWa (clearL is id)) ws)))] (27 : Nat), AObj.own [AV.s (SV.int IntKind.i64 ck), AV.s (SV.int IntKind.i64 nx), AV.s (SV.ro (Con.typ cP ps)), AV.s (SV.ro (Con.typ cI (delF (pIt (clearL is id)) is))), AV.s (SV.ro (Con.typ cC (delF (pDr (clearL is id)) cs))), AV.s (SV.ro (Con.typ cW (delF (pWa (breakL is id)) ws)))] (27 : Nat), AObj.own [AV.s (SV.int IntKind.i64 (gI is id)), AV.s (SV.int IntKind.i64 (gU is id)), AV.s (SV.int IntKind.u8 (gS is id)), AV.s (SV.str (gP is id)), AV.s (SV.int IntKind.i64 (gN is id)), AV.s (SV.int IntKind.i64 (gF is id)), AV.s (SV.int IntKind.u8 (gW is id)), AV.s (SV.str (gC is id))] (43 : Nat)] (AV.s (SV.blit false)))))
                  (Tree.need (List.length is ≤ (1000000 : Nat)) (Tree.at (Cfg.mk (sl (117 : Nat) [((1 : Nat), AV.s (SV.int IntKind.i64 id)), ((2 : Nat), AV.ptr (0 : Nat) (0 : Nat)), ((5 : Nat), AV.ptr (1 : Nat) (0 : Nat)), ((6 : Nat), AV.ptr (2 : Nat) (0 : Nat)), ((7 : Nat), AV.ptr (3 : Nat) (0 : Nat)), ((9 : Nat), AV.vec (4 : Nat)), ((10 : Nat), AV.vec (5 : Nat)), ((11 : Nat), AV.s (SV.int IntKind.i64 (0 : Int)))]) [AObj.own [AV.s (SV.int IntKind.i64 ck), AV.s (SV.int IntKind.i64 nx), AV.s (SV.ro (Con.typ cP ps)), AV.s (SV.ro (Con.typ cI is)), AV.s (SV.ro (Con.typ cC cs)), AV.s (SV.ro (Con.typ cW ws))] (27 : Nat), AObj.own [AV.s (SV.int IntKind.i64 ck), AV.s (SV.int IntKind.i64 nx), AV.s (SV.ro (Con.typ cP ps)), AV.s (SV.ro (Con.typ cI (delF (pIt (clearL is id)) is))), AV.s (SV.ro (Con.typ cC (delF (pDr (clearL is id)) cs))), AV.s (SV.ro (Con.typ cW (delF (pWa (clearL is id)) ws)))] (27 : Nat), AObj.own [AV.s (SV.int IntKind.i64 ck), AV.s (SV.int IntKind.i64 nx), AV.s (SV.ro (Con.typ cP ps)), AV.s (SV.ro (Con.typ cI (delF (pIt (clearL is id)) is))), AV.s (SV.ro (Con.typ cC (delF (pDr (clearL is id)) cs))), AV.s (SV.ro (Con.typ cW (delF (pWa (breakL is id)) ws)))] (27 : Nat), AObj.own [AV.s (SV.int IntKind.i64 (gI is id)), AV.s (SV.int IntKind.i64 (gU is id)), AV.s (SV.int IntKind.u8 (gS is id)), AV.s (SV.str (gP is id)), AV.s (SV.int IntKind.i64 (gN is id)), AV.s (SV.int IntKind.i64 (gF is id)), AV.s (SV.int IntKind.u8 (gW is id)), AV.s (SV.str (gC is id))] (43 : Nat), AObj.vec (Con.ints IntKind.i64 []) (3 : Nat), AObj.vec (Con.ints IntKind.i64 (belowF (esOf is) id)) (3 : Nat)] (hd Try.f10 (11 : Nat)) (Stk.mk none false (0 : Nat) [] (0 : Nat))))))))))))) := by kernel_rfl
abbrev obI (is : Is) (id : Int) : AObj := .own [avI (gI is id), avI (gU is id), .s (.int .u8 (gS is id)), .s (.str (gP is id)), avI (gN is id), avI (gF is id), .s (.int .u8 (gW is id)), .s (.str (gC is id))] eI
noncomputable def cLc (ck nx : Int) (ps : Ps) (is : Is) (cs : Cs) (ws : Ws) (is' : Is) (cs' : Cs) (ws' ws2 : Ws) (id : Int) (acc l : List Int) (i : Int) : Cfg := ⟨sl 117 [(1, avI id), (2, .ptr 0 0), (5, .ptr 1 0), (6, .ptr 2 0), (7, .ptr 3 0), (9, .vec 4), (10, .vec 5), (11, avI i)], [obSt ck nx ps is cs ws, obSt ck nx ps is' cs' ws', obSt ck nx ps is' cs' ws2, obI is id, .vec (.ints .i64 acc) 3, .vec (.ints .i64 l) 3], hd Try.f10 11, {}⟩
theorem loopLc (ck nx : Int) (ps : Ps) (is : Is) (cs : Cs) (ws : Ws) (is' : Is) (cs' : Cs) (ws' ws2 : Ws) (id : Int) (acc l : List Int) (i : Int) : run P tabLw.sum Try.f10 nsLc (cLc ck nx ps is cs ws is' cs' ws' ws2 id acc l i) =
  Tree.ite (decide (i < (↑l.length : Int))) (Tree.need ((0 : Int) ≤ i) (Tree.need (i < (↑l.length : Int)) (Tree.ite (l.getD i.toNat (0 : Int) != id) (Tree.need ((0 : Int) ≤ i) (Tree.need (i < (↑l.length : Int)) (Tree.need ((acc.length + (1 : Nat)) * (8 : Nat) ≤ (140737488355328 : Nat)) (Tree.need (inI64 (i + (1 : Int))) (Tree.at (Cfg.mk (sl (117 : Nat) [((1 : Nat), AV.s (SV.int IntKind.i64 id)), ((2 : Nat), AV.ptr (0 : Nat) (0 : Nat)), ((5 : Nat), AV.ptr (1 : Nat) (0 : Nat)), ((6 : Nat), AV.ptr (2 : Nat) (0 : Nat)), ((7 : Nat), AV.ptr (3 : Nat) (0 : Nat)), ((9 : Nat), AV.vec (4 : Nat)), ((10 : Nat), AV.vec (5 : Nat)), ((11 : Nat), AV.s (SV.int IntKind.i64 (i + (1 : Int))))]) [AObj.own [AV.s (SV.int IntKind.i64 ck), AV.s (SV.int IntKind.i64 nx), AV.s (SV.ro (Con.typ cP ps)), AV.s (SV.ro (Con.typ cI is)), AV.s (SV.ro (Con.typ cC cs)), AV.s (SV.ro (Con.typ cW ws))] (27 : Nat), AObj.own [AV.s (SV.int IntKind.i64 ck), AV.s (SV.int IntKind.i64 nx), AV.s (SV.ro (Con.typ cP ps)), AV.s (SV.ro (Con.typ cI is')), AV.s (SV.ro (Con.typ cC cs')), AV.s (SV.ro (Con.typ cW ws'))] (27 : Nat), AObj.own [AV.s (SV.int IntKind.i64 ck), AV.s (SV.int IntKind.i64 nx), AV.s (SV.ro (Con.typ cP ps)), AV.s (SV.ro (Con.typ cI is')), AV.s (SV.ro (Con.typ cC cs')), AV.s (SV.ro (Con.typ cW ws2))] (27 : Nat), AObj.own [AV.s (SV.int IntKind.i64 (gI is id)), AV.s (SV.int IntKind.i64 (gU is id)), AV.s (SV.int IntKind.u8 (gS is id)), AV.s (SV.str (gP is id)), AV.s (SV.int IntKind.i64 (gN is id)), AV.s (SV.int IntKind.i64 (gF is id)), AV.s (SV.int IntKind.u8 (gW is id)), AV.s (SV.str (gC is id))] (43 : Nat), AObj.vec (Con.ints IntKind.i64 (acc ++ [l.getD i.toNat (0 : Int)])) (3 : Nat), AObj.vec (Con.ints IntKind.i64 l) (3 : Nat)] (hd Try.f10 (11 : Nat)) (Stk.mk none false (0 : Nat) [] (0 : Nat)))))))) (Tree.need (inI64 (i + (1 : Int))) (Tree.at (Cfg.mk (sl (117 : Nat) [((1 : Nat), AV.s (SV.int IntKind.i64 id)), ((2 : Nat), AV.ptr (0 : Nat) (0 : Nat)), ((5 : Nat), AV.ptr (1 : Nat) (0 : Nat)), ((6 : Nat), AV.ptr (2 : Nat) (0 : Nat)), ((7 : Nat), AV.ptr (3 : Nat) (0 : Nat)), ((9 : Nat), AV.vec (4 : Nat)), ((10 : Nat), AV.vec (5 : Nat)), ((11 : Nat), AV.s (SV.int IntKind.i64 (i + (1 : Int))))]) [AObj.own [AV.s (SV.int IntKind.i64 ck), AV.s (SV.int IntKind.i64 nx), AV.s (SV.ro (Con.typ cP ps)), AV.s (SV.ro (Con.typ cI is)), AV.s (SV.ro (Con.typ cC cs)), AV.s (SV.ro (Con.typ cW ws))] (27 : Nat), AObj.own [AV.s (SV.int IntKind.i64 ck), AV.s (SV.int IntKind.i64 nx), AV.s (SV.ro (Con.typ cP ps)), AV.s (SV.ro (Con.typ cI is')), AV.s (SV.ro (Con.typ cC cs')), AV.s (SV.ro (Con.typ cW ws'))] (27 : Nat), AObj.own [AV.s (SV.int IntKind.i64 ck), AV.s (SV.int IntKind.i64 nx), AV.s (SV.ro (Con.typ cP ps)), AV.s (SV.ro (Con.typ cI is')), AV.s (SV.ro (Con.typ cC cs')), AV.s (SV.ro (Con.typ cW ws2))] (27 : Nat), AObj.own [AV.s (SV.int IntKind.i64 (gI is id)), AV.s (SV.int IntKind.i64 (gU is id)), AV.s (SV.int IntKind.u8 (gS is id)), AV.s (SV.str (gP is id)), AV.s (SV.int IntKind.i64 (gN is id)), AV.s (SV.int IntKind.i64 (gF is id)), AV.s (SV.int IntKind.u8 (gW is id)), AV.s (SV.str (gC is id))] (43 : Nat), AObj.vec (Con.ints IntKind.i64 acc) (3 : Nat), AObj.vec (Con.ints IntKind.i64 l) (3 : Nat)] (hd Try.f10 (11 : Nat)) (Stk.mk none false (0 : Nat) [] (0 : Nat))))))))
  (Tree.need (List.length is' ≤ (1000000 : Nat))
    (Tree.need (StEq ck nx ps is' cs' ws' ck nx ps (delF (pIt acc) is) (delF (pDr acc) cs) (delF (pWa acc) ws))
      (Tree.ite true
        (Tree.need (((0 : Nat) + acc.length) * (8 : Nat) ≤ (140737488355328 : Nat))
          (Tree.need ((([] ++ acc).length + (1 : Nat)) * (8 : Nat) ≤ (140737488355328 : Nat))
            (Tree.need (StEq ck nx ps is' cs' ws2 ck nx ps (delF (pIt acc) is) (delF (pDr acc) cs) (delF (pWa ([] ++ acc ++ [id])) ws))
              (Tree.ite true
                (Tree.ite (hasI is' id)
                  (Tree.ite (gI is' id == gI is id && (gU is' id == gU is id && (gS is' id == gS is id && (decide (gP is' id = gP is id) && (gN is' id == gN is id && (gF is' id == gF is id && (gW is' id == gW is id && (decide (gC is' id = gC is id) && true))))))))
                    (Tree.ite ((↑(kidsF (esOf is') id).length : Int) == (0 : Int)) (Tree.ret [AObj.own [AV.s (SV.int IntKind.i64 ck), AV.s (SV.int IntKind.i64 nx), AV.s (SV.ro (Con.typ cP ps)), AV.s (SV.ro (Con.typ cI is)), AV.s (SV.ro (Con.typ cC cs)), AV.s (SV.ro (Con.typ cW ws))] (27 : Nat), AObj.own [AV.s (SV.int IntKind.i64 ck), AV.s (SV.int IntKind.i64 nx), AV.s (SV.ro (Con.typ cP ps)), AV.s (SV.ro (Con.typ cI is')), AV.s (SV.ro (Con.typ cC cs')), AV.s (SV.ro (Con.typ cW ws'))] (27 : Nat), AObj.own [AV.s (SV.int IntKind.i64 ck), AV.s (SV.int IntKind.i64 nx), AV.s (SV.ro (Con.typ cP ps)), AV.s (SV.ro (Con.typ cI is')), AV.s (SV.ro (Con.typ cC cs')), AV.s (SV.ro (Con.typ cW ws2))] (27 : Nat), AObj.own [AV.s (SV.int IntKind.i64 (gI is id)), AV.s (SV.int IntKind.i64 (gU is id)), AV.s (SV.int IntKind.u8 (gS is id)), AV.s (SV.str (gP is id)), AV.s (SV.int IntKind.i64 (gN is id)), AV.s (SV.int IntKind.i64 (gF is id)), AV.s (SV.int IntKind.u8 (gW is id)), AV.s (SV.str (gC is id))] (43 : Nat), AObj.vec (Con.ints IntKind.i64 acc) (3 : Nat), AObj.vec (Con.ints IntKind.i64 l) (3 : Nat), AObj.own [AV.s (SV.int IntKind.i64 (gI is' id)), AV.s (SV.int IntKind.i64 (gU is' id)), AV.s (SV.int IntKind.u8 (gS is' id)), AV.s (SV.str (gP is' id)), AV.s (SV.int IntKind.i64 (gN is' id)), AV.s (SV.int IntKind.i64 (gF is' id)), AV.s (SV.int IntKind.u8 (gW is' id)), AV.s (SV.str (gC is' id))] (43 : Nat), AObj.vec (Con.ints IntKind.i64 (kidsF (esOf is') id)) (3 : Nat), AObj.dead, AObj.dead, AObj.vec (Con.ints IntKind.i64 [id]) (3 : Nat), AObj.vec (Con.ints IntKind.i64 ([] ++ acc ++ [id])) (3 : Nat)] (AV.s (SV.blit true)))
                      (Tree.ite ((↑(kidsF (esOf is') id).length : Int) == (1 : Int)) (Tree.need ((0 : Int) ≤ (0 : Int)) (Tree.need ((0 : Int) < (↑(kidsF (esOf is') id).length : Int)) (Tree.ret [AObj.own [AV.s (SV.int IntKind.i64 ck), AV.s (SV.int IntKind.i64 nx), AV.s (SV.ro (Con.typ cP ps)), AV.s (SV.ro (Con.typ cI is)), AV.s (SV.ro (Con.typ cC cs)), AV.s (SV.ro (Con.typ cW ws))] (27 : Nat), AObj.own [AV.s (SV.int IntKind.i64 ck), AV.s (SV.int IntKind.i64 nx), AV.s (SV.ro (Con.typ cP ps)), AV.s (SV.ro (Con.typ cI is')), AV.s (SV.ro (Con.typ cC cs')), AV.s (SV.ro (Con.typ cW ws'))] (27 : Nat), AObj.own [AV.s (SV.int IntKind.i64 ck), AV.s (SV.int IntKind.i64 nx), AV.s (SV.ro (Con.typ cP ps)), AV.s (SV.ro (Con.typ cI is')), AV.s (SV.ro (Con.typ cC cs')), AV.s (SV.ro (Con.typ cW ws2))] (27 : Nat), AObj.own [AV.s (SV.int IntKind.i64 (gI is id)), AV.s (SV.int IntKind.i64 (gU is id)), AV.s (SV.int IntKind.u8 (gS is id)), AV.s (SV.str (gP is id)), AV.s (SV.int IntKind.i64 (gN is id)), AV.s (SV.int IntKind.i64 (gF is id)), AV.s (SV.int IntKind.u8 (gW is id)), AV.s (SV.str (gC is id))] (43 : Nat), AObj.vec (Con.ints IntKind.i64 acc) (3 : Nat), AObj.vec (Con.ints IntKind.i64 l) (3 : Nat), AObj.own [AV.s (SV.int IntKind.i64 (gI is' id)), AV.s (SV.int IntKind.i64 (gU is' id)), AV.s (SV.int IntKind.u8 (gS is' id)), AV.s (SV.str (gP is' id)), AV.s (SV.int IntKind.i64 (gN is' id)), AV.s (SV.int IntKind.i64 (gF is' id)), AV.s (SV.int IntKind.u8 (gW is' id)), AV.s (SV.str (gC is' id))] (43 : Nat), AObj.vec (Con.ints IntKind.i64 (kidsF (esOf is') id)) (3 : Nat), AObj.dead, AObj.dead, AObj.vec (Con.ints IntKind.i64 [id]) (3 : Nat), AObj.vec (Con.ints IntKind.i64 ([] ++ acc ++ [id])) (3 : Nat)] (AV.s (SV.bool ((kidsF (esOf is') id).getD (0 : Nat) (0 : Int) == id)))))) (Tree.ret [AObj.own [AV.s (SV.int IntKind.i64 ck), AV.s (SV.int IntKind.i64 nx), AV.s (SV.ro (Con.typ cP ps)), AV.s (SV.ro (Con.typ cI is)), AV.s (SV.ro (Con.typ cC cs)), AV.s (SV.ro (Con.typ cW ws))] (27 : Nat), AObj.own [AV.s (SV.int IntKind.i64 ck), AV.s (SV.int IntKind.i64 nx), AV.s (SV.ro (Con.typ cP ps)), AV.s (SV.ro (Con.typ cI is')), AV.s (SV.ro (Con.typ cC cs')), AV.s (SV.ro (Con.typ cW ws'))] (27 : Nat), AObj.own [AV.s (SV.int IntKind.i64 ck), AV.s (SV.int IntKind.i64 nx), AV.s (SV.ro (Con.typ cP ps)), AV.s (SV.ro (Con.typ cI is')), AV.s (SV.ro (Con.typ cC cs')), AV.s (SV.ro (Con.typ cW ws2))] (27 : Nat), AObj.own [AV.s (SV.int IntKind.i64 (gI is id)), AV.s (SV.int IntKind.i64 (gU is id)), AV.s (SV.int IntKind.u8 (gS is id)), AV.s (SV.str (gP is id)), AV.s (SV.int IntKind.i64 (gN is id)), AV.s (SV.int IntKind.i64 (gF is id)), AV.s (SV.int IntKind.u8 (gW is id)), AV.s (SV.str (gC is id))] (43 : Nat), AObj.vec (Con.ints IntKind.i64 acc) (3 : Nat), AObj.vec (Con.ints IntKind.i64 l) (3 : Nat), AObj.own [AV.s (SV.int IntKind.i64 (gI is' id)), AV.s (SV.int IntKind.i64 (gU is' id)), AV.s (SV.int IntKind.u8 (gS is' id)), AV.s (SV.str (gP is' id)), AV.s (SV.int IntKind.i64 (gN is' id)), AV.s (SV.int IntKind.i64 (gF is' id)), AV.s (SV.int IntKind.u8 (gW is' id)), AV.s (SV.str (gC is' id))] (43 : Nat), AObj.vec (Con.ints IntKind.i64 (kidsF (esOf is') id)) (3 : Nat), AObj.dead, AObj.dead, AObj.vec (Con.ints IntKind.i64 [id]) (3 : Nat), AObj.vec (Con.ints IntKind.i64 ([] ++ acc ++ [id])) (3 : Nat)] (AV.s (SV.blit false)))))
                    (Tree.ret [AObj.own [AV.s (SV.int IntKind.i64 ck), AV.s (SV.int IntKind.i64 nx), AV.s (SV.ro (Con.typ cP ps)), AV.s (SV.ro (Con.typ cI is)), AV.s (SV.ro (Con.typ cC cs)), AV.s (SV.ro (Con.typ cW ws))] (27 : Nat), AObj.own [AV.s (SV.int IntKind.i64 ck), AV.s (SV.int IntKind.i64 nx), AV.s (SV.ro (Con.typ cP ps)), AV.s (SV.ro (Con.typ cI is')), AV.s (SV.ro (Con.typ cC cs')), AV.s (SV.ro (Con.typ cW ws'))] (27 : Nat), AObj.own [AV.s (SV.int IntKind.i64 ck), AV.s (SV.int IntKind.i64 nx), AV.s (SV.ro (Con.typ cP ps)), AV.s (SV.ro (Con.typ cI is')), AV.s (SV.ro (Con.typ cC cs')), AV.s (SV.ro (Con.typ cW ws2))] (27 : Nat), AObj.own [AV.s (SV.int IntKind.i64 (gI is id)), AV.s (SV.int IntKind.i64 (gU is id)), AV.s (SV.int IntKind.u8 (gS is id)), AV.s (SV.str (gP is id)), AV.s (SV.int IntKind.i64 (gN is id)), AV.s (SV.int IntKind.i64 (gF is id)), AV.s (SV.int IntKind.u8 (gW is id)), AV.s (SV.str (gC is id))] (43 : Nat), AObj.vec (Con.ints IntKind.i64 acc) (3 : Nat), AObj.vec (Con.ints IntKind.i64 l) (3 : Nat), AObj.own [AV.s (SV.int IntKind.i64 (gI is' id)), AV.s (SV.int IntKind.i64 (gU is' id)), AV.s (SV.int IntKind.u8 (gS is' id)), AV.s (SV.str (gP is' id)), AV.s (SV.int IntKind.i64 (gN is' id)), AV.s (SV.int IntKind.i64 (gF is' id)), AV.s (SV.int IntKind.u8 (gW is' id)), AV.s (SV.str (gC is' id))] (43 : Nat), AObj.vec (Con.ints IntKind.i64 (kidsF (esOf is') id)) (3 : Nat), AObj.dead, AObj.dead, AObj.vec (Con.ints IntKind.i64 [id]) (3 : Nat), AObj.vec (Con.ints IntKind.i64 ([] ++ acc ++ [id])) (3 : Nat)] (AV.s (SV.blit false))))
                  (Tree.ret [AObj.own [AV.s (SV.int IntKind.i64 ck), AV.s (SV.int IntKind.i64 nx), AV.s (SV.ro (Con.typ cP ps)), AV.s (SV.ro (Con.typ cI is)), AV.s (SV.ro (Con.typ cC cs)), AV.s (SV.ro (Con.typ cW ws))] (27 : Nat), AObj.own [AV.s (SV.int IntKind.i64 ck), AV.s (SV.int IntKind.i64 nx), AV.s (SV.ro (Con.typ cP ps)), AV.s (SV.ro (Con.typ cI is')), AV.s (SV.ro (Con.typ cC cs')), AV.s (SV.ro (Con.typ cW ws'))] (27 : Nat), AObj.own [AV.s (SV.int IntKind.i64 ck), AV.s (SV.int IntKind.i64 nx), AV.s (SV.ro (Con.typ cP ps)), AV.s (SV.ro (Con.typ cI is')), AV.s (SV.ro (Con.typ cC cs')), AV.s (SV.ro (Con.typ cW ws2))] (27 : Nat), AObj.own [AV.s (SV.int IntKind.i64 (gI is id)), AV.s (SV.int IntKind.i64 (gU is id)), AV.s (SV.int IntKind.u8 (gS is id)), AV.s (SV.str (gP is id)), AV.s (SV.int IntKind.i64 (gN is id)), AV.s (SV.int IntKind.i64 (gF is id)), AV.s (SV.int IntKind.u8 (gW is id)), AV.s (SV.str (gC is id))] (43 : Nat), AObj.vec (Con.ints IntKind.i64 acc) (3 : Nat), AObj.vec (Con.ints IntKind.i64 l) (3 : Nat), AObj.own [AV.s (SV.int IntKind.i64 (gI is' id)), AV.s (SV.int IntKind.i64 (gU is' id)), AV.s (SV.int IntKind.u8 (gS is' id)), AV.s (SV.str (gP is' id)), AV.s (SV.int IntKind.i64 (gN is' id)), AV.s (SV.int IntKind.i64 (gF is' id)), AV.s (SV.int IntKind.u8 (gW is' id)), AV.s (SV.str (gC is' id))] (43 : Nat), AObj.vec (Con.ints IntKind.i64 (kidsF (esOf is') id)) (3 : Nat), AObj.dead, AObj.dead, AObj.vec (Con.ints IntKind.i64 [id]) (3 : Nat), AObj.vec (Con.ints IntKind.i64 ([] ++ acc ++ [id])) (3 : Nat)] (AV.s (SV.blit false))))
                (Tree.ret [AObj.own [AV.s (SV.int IntKind.i64 ck), AV.s (SV.int IntKind.i64 nx), AV.s (SV.ro (Con.typ cP ps)), AV.s (SV.ro (Con.typ cI is)), AV.s (SV.ro (Con.typ cC cs)), AV.s (SV.ro (Con.typ cW ws))] (27 : Nat), AObj.own [AV.s (SV.int IntKind.i64 ck), AV.s (SV.int IntKind.i64 nx), AV.s (SV.ro (Con.typ cP ps)), AV.s (SV.ro (Con.typ cI is')), AV.s (SV.ro (Con.typ cC cs')), AV.s (SV.ro (Con.typ cW ws'))] (27 : Nat), AObj.own [AV.s (SV.int IntKind.i64 ck), AV.s (SV.int IntKind.i64 nx), AV.s (SV.ro (Con.typ cP ps)), AV.s (SV.ro (Con.typ cI is')), AV.s (SV.ro (Con.typ cC cs')), AV.s (SV.ro (Con.typ cW ws2))] (27 : Nat), AObj.own [AV.s (SV.int IntKind.i64 (gI is id)), AV.s (SV.int IntKind.i64 (gU is id)), AV.s (SV.int IntKind.u8 (gS is id)), AV.s (SV.str (gP is id)), AV.s (SV.int IntKind.i64 (gN is id)), AV.s (SV.int IntKind.i64 (gF is id)), AV.s (SV.int IntKind.u8 (gW is id)), AV.s (SV.str (gC is id))] (43 : Nat), AObj.vec (Con.ints IntKind.i64 acc) (3 : Nat), AObj.vec (Con.ints IntKind.i64 l) (3 : Nat), AObj.own [AV.s (SV.int IntKind.i64 (gI is' id)), AV.s (SV.int IntKind.i64 (gU is' id)), AV.s (SV.int IntKind.u8 (gS is' id)), AV.s (SV.str (gP is' id)), AV.s (SV.int IntKind.i64 (gN is' id)), AV.s (SV.int IntKind.i64 (gF is' id)), AV.s (SV.int IntKind.u8 (gW is' id)), AV.s (SV.str (gC is' id))] (43 : Nat), AObj.vec (Con.ints IntKind.i64 (kidsF (esOf is') id)) (3 : Nat), AObj.dead, AObj.dead, AObj.vec (Con.ints IntKind.i64 [id]) (3 : Nat), AObj.vec (Con.ints IntKind.i64 ([] ++ acc ++ [id])) (3 : Nat)] (AV.s (SV.blit false)))))))
        (Tree.ret [AObj.own [AV.s (SV.int IntKind.i64 ck), AV.s (SV.int IntKind.i64 nx), AV.s (SV.ro (Con.typ cP ps)), AV.s (SV.ro (Con.typ cI is)), AV.s (SV.ro (Con.typ cC cs)), AV.s (SV.ro (Con.typ cW ws))] (27 : Nat), AObj.own [AV.s (SV.int IntKind.i64 ck), AV.s (SV.int IntKind.i64 nx), AV.s (SV.ro (Con.typ cP ps)), AV.s (SV.ro (Con.typ cI is')), AV.s (SV.ro (Con.typ cC cs')), AV.s (SV.ro (Con.typ cW ws'))] (27 : Nat), AObj.own [AV.s (SV.int IntKind.i64 ck), AV.s (SV.int IntKind.i64 nx), AV.s (SV.ro (Con.typ cP ps)), AV.s (SV.ro (Con.typ cI is')), AV.s (SV.ro (Con.typ cC cs')), AV.s (SV.ro (Con.typ cW ws2))] (27 : Nat), AObj.own [AV.s (SV.int IntKind.i64 (gI is id)), AV.s (SV.int IntKind.i64 (gU is id)), AV.s (SV.int IntKind.u8 (gS is id)), AV.s (SV.str (gP is id)), AV.s (SV.int IntKind.i64 (gN is id)), AV.s (SV.int IntKind.i64 (gF is id)), AV.s (SV.int IntKind.u8 (gW is id)), AV.s (SV.str (gC is id))] (43 : Nat), AObj.vec (Con.ints IntKind.i64 acc) (3 : Nat), AObj.vec (Con.ints IntKind.i64 l) (3 : Nat), AObj.own [AV.s (SV.int IntKind.i64 (gI is' id)), AV.s (SV.int IntKind.i64 (gU is' id)), AV.s (SV.int IntKind.u8 (gS is' id)), AV.s (SV.str (gP is' id)), AV.s (SV.int IntKind.i64 (gN is' id)), AV.s (SV.int IntKind.i64 (gF is' id)), AV.s (SV.int IntKind.u8 (gW is' id)), AV.s (SV.str (gC is' id))] (43 : Nat), AObj.vec (Con.ints IntKind.i64 (kidsF (esOf is') id)) (3 : Nat)] (AV.s (SV.blit false)))))) := by kernel_rfl
end Ds

/-! plain laws of what is taken away -/
namespace Ds
open Go Go.Sx Go.Proofs Lf
theorem has_iff {is : Is} {a : Int} : hasI is a = true ↔ ∃ y ∈ is, iI y = a := by
  unfold hasI
  rw [decide_eq_true_iff]
  rcases place_range is a with ⟨h1, h2⟩ | ⟨h1, h2, h3, h4⟩
  · rw [h1]
    exact ⟨fun h => absurd h (by omega), fun ⟨y, hy, e⟩ => absurd e (h2 y hy)⟩
  · exact ⟨fun _ => ⟨_, List.getElem_mem h3, h4⟩, fun _ => h1⟩
theorem mem_del {α : Type} {p : α → Bool} {l : List α} {x : α} : x ∈ delF p l ↔ x ∈ l ∧ p x = false := by
  unfold delF
  rw [List.mem_filter]
  cases p x <;> simp
theorem pIt_iff {l : List Int} {x : CL cI} : pIt l x = false ↔ iI x ∉ l := by
  unfold pIt
  rw [List.contains_eq_mem, decide_eq_false_iff_not]
theorem has_del {is : Is} {l : List Int} {b : Int} : hasI (delF (pIt l) is) b = true ↔ hasI is b = true ∧ b ∉ l := by
  rw [has_iff, has_iff]
  refine ⟨fun ⟨y, hy, e⟩ => ?_, fun ⟨⟨y, hy, e⟩, hb⟩ => ⟨y, mem_del.2 ⟨hy, pIt_iff.2 (by rw [e]; exact hb)⟩, e⟩⟩
  obtain ⟨h1, h2⟩ := mem_del.1 hy
  exact ⟨⟨y, h1, e⟩, by rw [← e]; exact pIt_iff.1 h2⟩
theorem mem_es {is : Is} {x u : Int} : (x, u) ∈ esOf is ↔ ∃ y ∈ is, iI y = x ∧ iU y = u := by
  unfold esOf
  rw [List.mem_map]
  refine ⟨fun ⟨y, hy, e⟩ => ⟨y, hy, ?_⟩, fun ⟨y, hy, e1, e2⟩ => ⟨y, hy, by rw [e1, e2]⟩⟩
  exact ⟨congrArg Prod.fst e, congrArg Prod.snd e⟩
theorem es_del {is : Is} {l : List Int} {x u : Int} : (x, u) ∈ esOf (delF (pIt l) is) ↔ (x, u) ∈ esOf is ∧ x ∉ l := by
  rw [mem_es, mem_es]
  refine ⟨fun ⟨y, hy, e1, e2⟩ => ?_, fun ⟨⟨y, hy, e1, e2⟩, hb⟩ => ⟨y, mem_del.2 ⟨hy, pIt_iff.2 (by rw [e1]; exact hb)⟩, e1, e2⟩⟩
  obtain ⟨h1, h2⟩ := mem_del.1 hy
  exact ⟨⟨y, h1, e1, e2⟩, by rw [← e1]; exact pIt_iff.1 h2⟩
theorem kids_del {is : Is} {l : List Int} {x u : Int} : x ∈ kidsF (esOf (delF (pIt l) is)) u ↔ x ∈ kidsF (esOf is) u ∧ x ∉ l := by
  rw [mem_kids, mem_kids, es_del]
  exact ⟨fun ⟨⟨a, b⟩, c⟩ => ⟨⟨a, c⟩, b⟩, fun ⟨⟨a, c⟩, b⟩ => ⟨⟨a, b⟩, c⟩⟩
theorem take_yes {is : Is} {a : Int} (h : hasI is a = true) : takeL is a = belowF (esOf is) a ++ [a] := by unfold takeL; rw [if_pos h]
theorem take_no {is : Is} {a : Int} (h : hasI is a = false) : takeL is a = [] := by unfold takeL; rw [if_neg (by simp [h])]
theorem mem_take {is : Is} {a x : Int} : x ∈ takeL is a ↔ hasI is a = true ∧ (x = a ∨ Reach (esOf is) a x) := by
  cases h : hasI is a with
  | false => rw [take_no h]; simp
  | true =>
    rw [take_yes h, List.mem_append, mem_below, List.mem_singleton]
    refine ⟨fun e => ⟨rfl, e.elim (fun e => .inr e.2) .inl⟩, fun e => ?_⟩
    by_cases hx : x = a
    · exact .inr hx
    · exact .inl ⟨hx, e.2.resolve_left hx⟩
theorem take_kid {is : Is} {a y x : Int} (h : y ∈ takeL is a) (hk : x ∈ kidsF (esOf is) y) : x ∈ takeL is a := by
  obtain ⟨h1, h2⟩ := mem_take.1 h
  refine mem_take.2 ⟨h1, .inr ?_⟩
  rcases h2 with rfl | h2
  · exact .kid hk
  · exact .more h2 hk
theorem take_reach {is : Is} {a y x : Int} (h : y ∈ takeL is a) (hk : Reach (esOf is) y x) : x ∈ takeL is a := by
  induction hk with
  | kid hk => exact take_kid h hk
  | more _ hk ih => exact take_kid ih hk
theorem take_union {is : Is} {a b x : Int} : (x ∈ takeL is a ∨ x ∈ takeL (delF (pIt (takeL is a)) is) b) ↔ (x ∈ takeL is a ∨ x ∈ takeL is b) := by
  refine ⟨fun h => h.imp id fun h => ?_, fun h => h.elim .inl fun h => ?_⟩
  · obtain ⟨h1, h2⟩ := mem_take.1 h
    have key : ∀ x, Reach (esOf (delF (pIt (takeL is a)) is)) b x → Reach (esOf is) b x := fun x hx => by
      induction hx with
      | kid hk => exact .kid (kids_del.1 hk).1
      | more _ hk ih => exact .more ih (kids_del.1 hk).1
    exact mem_take.2 ⟨(has_del.1 h1).1, h2.imp id (key x)⟩
  · obtain ⟨h1, h2⟩ := mem_take.1 h
    by_cases hb : b ∈ takeL is a
    · refine .inl ?_
      rcases h2 with rfl | h2
      · exact hb
      · exact take_reach hb h2
    · have hh : hasI (delF (pIt (takeL is a)) is) b = true := has_del.2 ⟨h1, hb⟩
      rcases h2 with rfl | h2
      · exact .inr (mem_take.2 ⟨hh, .inl rfl⟩)
      · have key : ∀ x, Reach (esOf is) b x → x ∈ takeL is a ∨ Reach (esOf (delF (pIt (takeL is a)) is)) b x := by
          intro x hx
          induction hx with
          | kid hk =>
            rename_i x
            by_cases hm : x ∈ takeL is a
            · exact .inl hm
            · exact .inr (.kid (kids_del.2 ⟨hk, hm⟩))
          | more _ hk ih =>
            rename_i y x _
            by_cases hm : x ∈ takeL is a
            · exact .inl hm
            · rcases ih with ih | ih
              · exact .inl (take_kid ih hk)
              · exact .inr (.more ih (kids_del.2 ⟨hk, hm⟩))
        exact (key x h2).imp id fun h => mem_take.2 ⟨hh, .inr h⟩
theorem del_two {α : Type} (f : α → Int) {a a2 b b2 : List Int} (h : ∀ x, (x ∈ a ∨ x ∈ a2) ↔ (x ∈ b ∨ x ∈ b2)) (l : List α) :
    delF (fun x => a2.contains (f x)) (delF (fun x => a.contains (f x)) l) = delF (fun x => b2.contains (f x)) (delF (fun x => b.contains (f x)) l) := by
  rw [delF_app (fun x => a.contains (f x)) (fun x => a2.contains (f x)) (fun x => a.contains (f x) || a2.contains (f x)) (fun _ => rfl)]
  rw [delF_app (fun x => b.contains (f x)) (fun x => b2.contains (f x)) (fun x => a.contains (f x) || a2.contains (f x)) (fun x => ?_)]
  have := h (f x)
  rw [Bool.eq_iff_iff]
  simpa [List.contains_eq_mem] using this
theorem row_union {is : Is} {a b : Int} : ∀ x, (x ∈ takeL is a ∨ x ∈ takeL (delF (pIt (takeL is a)) is) b) ↔ (x ∈ takeL is b ∨ x ∈ takeL (delF (pIt (takeL is b)) is) a) := fun x => by
  rw [take_union, take_union]
  exact Or.comm
theorem take_again {is : Is} {a : Int} : takeL (delF (pIt (takeL is a)) is) a = [] := by
  refine take_no ?_
  rw [← Bool.not_eq_true, has_del]
  rintro ⟨h1, h2⟩
  exact h2 (mem_take.2 ⟨h1, .inl rfl⟩)
theorem del_nil {α : Type} (f : α → Int) (l : List α) : delF (fun x => ([] : List Int).contains (f x)) l = l := delF_all fun _ _ => rfl
theorem mem_gone {is is' : Is} {x : Int} : x ∈ goneF is is' ↔ hasI is x = true ∧ hasI is' x = false := by
  unfold goneF
  rw [mem_setS, List.mem_filter, List.mem_map, has_iff]
  cases hasI is' x <;> simp
theorem gone_self (is : Is) : goneF is is = [] := by
  cases h : goneF is is with
  | nil => rfl
  | cons x l =>
    have : x ∈ goneF is is := by rw [h]; simp
    obtain ⟨h1, h2⟩ := mem_gone.1 this
    rw [h1] at h2; cases h2
theorem kids_nil {is : Is} {l : List Int} {id : Int} (h : ∀ x ∈ kidsF (esOf is) id, x ∈ l) : kidsF (esOf (delF (pIt l) is)) id = [] := by
  cases hk : kidsF (esOf (delF (pIt l) is)) id with
  | nil => rfl
  | cons x r =>
    have : x ∈ kidsF (esOf (delF (pIt l) is)) id := by rw [hk]; simp
    obtain ⟨h1, h2⟩ := kids_del.1 this
    exact absurd (h x h1) h2
theorem get_find (is : Is) (id : Int) : getI is id = (is.find? fun x : CL cI => iI x == id).getD (CL.d cI) := by
  show el is (whereF is id) = _
  unfold whereF
  rcases idxF_spec (p := fun x : CL cI => iI x == id) (l := is) with ⟨e, h⟩ | ⟨i, e, h1, h2, h3⟩
  · have e : placeF is id = -1 := e
    rw [e, if_neg (by omega)]
    have : is.find? (fun x : CL cI => iI x == id) = none := List.find?_eq_none.2 fun x hx => by rw [h x hx]; simp
    rw [this]
    show is.getD (is.length : Int).toNat (CL.d cI) = _
    simp [List.getD]
  · have e : placeF is id = (i : Int) := e
    rw [e, if_pos (by omega), el_lt h1]
    have : is.find? (fun x : CL cI => iI x == id) = some is[i] := by
      rw [List.find?_eq_some_iff_getElem]
      exact ⟨h2, i, h1, rfl, fun j hj => by rw [h3 j hj]; rfl⟩
    rw [this]; rfl
theorem get_del {is : Is} {l : List Int} {id : Int} (h : id ∉ l) : getI (delF (pIt l) is) id = getI is id := by
  rw [get_find, get_find]
  congr 1
  unfold delF
  rw [List.find?_filter]
  congr 1
  funext x
  by_cases hx : iI x = id
  · have : pIt l x = false := pIt_iff.2 (by rw [hx]; exact h)
    simp [this, hx]
  · simp [hx]
theorem del_at {α : Type} {p : α → Bool} {l : List α} {i : Nat} (hi : i < l.length) (hp : p l[i] = false) : ∃ h : (delF p (l.take i)).length < (delF p l).length, (delF p l)[(delF p (l.take i)).length] = l[i] := by
  have e : delF p l = delF p (l.take i) ++ (l[i] :: delF p (l.drop (i + 1))) := by
    have e1 : l = l.take i ++ (l[i] :: l.drop (i + 1)) := by rw [← List.drop_eq_getElem_cons hi, List.take_append_drop]
    have e2 : delF p (l.take i ++ (l[i] :: l.drop (i + 1))) = delF p (l.take i) ++ (l[i] :: delF p (l.drop (i + 1))) := by
      unfold delF
      rw [List.filter_append, List.filter_cons, hp]; rfl
    rw [← e1] at e2
    exact e2
  refine ⟨?_, ?_⟩
  · rw [e, List.length_append, List.length_cons]; omega
  · have : ∀ (m : List α) (h : (delF p (l.take i)).length < m.length), m = delF p (l.take i) ++ (l[i] :: delF p (l.drop (i + 1))) → m[(delF p (l.take i)).length] = l[i] := by
      intro m h e
      subst e
      rw [List.getElem_append_right (Nat.le_refl _)]
      simp
    exact this _ _ e
end Ds

namespace Ds
open Go Go.Sx Go.Proofs Lf
theorem tabJs_ok {Z : Glob} : tabJs.Ok P Z := Tab.Ok.cons same_ok.sum (Tab.Ok.cons in_ok.sum Tab.Ok.nil)
theorem just_ok {Z : Glob} : FnOk P Z 29 [tSt, tSt, tNs, tNs] [tBool] preJs (fun _ => (true, ())) := by
  refine fnOk_of_safe Try.func29 (by kernel_rfl) (by kernel_rfl) ?_
  rintro ⟨⟨(ck : Int), (nx : Int), (ps : Ps), (is : Is), (cs : Cs), (ws : Ws), ⟨⟩⟩, ⟨(ck' : Int), (nx' : Int), (ps' : Ps), (is' : Is), (cs' : Cs), (ws' : Ws), ⟨⟩⟩, (l : List Int), (q : List Int), ⟨⟩⟩ ⟨⟨_, _, (h1 : ps.length ≤ maxLen), (h2 : is.length ≤ maxLen), (h3 : cs.length ≤ maxLen), (h4 : ws.length ≤ maxLen), _⟩, _⟩ ⟨⟨rfl, rfl, rfl, e1, e2, e3⟩, _⟩ X hX hz
  have hm : maxLen ≤ 9223372036854775807 := by unfold maxLen; omega
  show Safe P 29 X (Ends [tBool] (true, ())) _
  have le1 : is'.length ≤ is.length := by rw [e1]; exact delF_len _ _
  have le2 : cs'.length ≤ cs.length := by rw [e2]; exact delF_len _ _
  have le3 : ws'.length ≤ ws.length := by rw [e3]; exact delF_len _ _
  have loop3 : ∀ (j i m : Nat), i + j = ws.length → m = (delF (pWa q) (ws.take i)).length → Safe P 29 X (Ends [tBool] (true, ())) (cJs3 ck' nx' ps' is cs ws is' cs' ws' l q (is'.length : Int) (cs'.length : Int) (m : Int) (i : Int)) := by
    intro j
    induction j with
    | zero =>
      intro i m hi hmm
      rw [List.take_of_length_le (by omega), ← e3] at hmm
      subst hmm
      refine go hz hX tabJs_ok Try.func29 (loopJs3 ck' nx' ps' is cs ws is' cs' ws' l q _ _ _ i) (no_and (decide_eq_false (by omega)) (yes_and (by simp) (yes_and (by simp) ?_)))
      rw [show (((ws'.length : Int)) == (ws'.length : Int)) = true from by simp]
      exact ends_eq _ rfl (by kernel_rfl)
    | succ j ih =>
      intro i m hi hmm
      have hlt : i < ws.length := by omega
      refine go hz hX tabJs_ok Try.func29 (loopJs3 ck' nx' ps' is cs ws is' cs' ws' l q _ _ m i) (yes_and (decide_eq_true (by omega)) ⟨by omega, by omega, ?_⟩)
      rw [el_lt hlt]
      have st := delF_take (p := pWa q) hlt
      cases hp : pWa q ws[i] with
      | true =>
        rw [hp, if_pos rfl, List.append_nil] at st
        exact yes_and hp ⟨⟨by omega, by omega⟩, ih (i + 1) m (by omega) (by rw [st]; exact hmm)⟩
      | false =>
        rw [hp, if_neg (by simp)] at st
        obtain ⟨g1, g2⟩ := del_at hlt hp
        rw [← hmm] at g1
        have g1 : m < ws'.length := by rw [e3]; exact g1
        have g3 : el ws' (m : Int) = ws[i] := by rw [el_lt g1, ← g2]; simp only [e3, hmm]
        rw [g3]
        exact no_and hp (no_and (decide_eq_false (by omega)) ⟨by omega, by omega, by omega, by omega, no_and (by simp) ⟨⟨by omega, by omega⟩, ⟨by omega, by omega⟩, ih (i + 1) (m + 1) (by omega) (by rw [st, List.length_append, ← hmm]; rfl)⟩⟩)
  have loop2 : ∀ (j i m : Nat), i + j = cs.length → m = (delF (pDr l) (cs.take i)).length → Safe P 29 X (Ends [tBool] (true, ())) (cJs2 ck' nx' ps' is cs ws is' cs' ws' l q (is'.length : Int) (m : Int) (i : Int)) := by
    intro j
    induction j with
    | zero =>
      intro i m hi hmm
      rw [List.take_of_length_le (by omega), ← e2] at hmm
      subst hmm
      exact go hz hX tabJs_ok Try.func29 (loopJs2 ck' nx' ps' is cs ws is' cs' ws' l q _ _ i) (no_and (decide_eq_false (by omega)) (loop3 ws.length 0 0 (by omega) rfl))
    | succ j ih =>
      intro i m hi hmm
      have hlt : i < cs.length := by omega
      refine go hz hX tabJs_ok Try.func29 (loopJs2 ck' nx' ps' is cs ws is' cs' ws' l q _ m i) (yes_and (decide_eq_true (by omega)) ⟨by omega, by omega, ?_⟩)
      rw [el_lt hlt]
      have st := delF_take (p := pDr l) hlt
      cases hp : pDr l cs[i] with
      | true =>
        rw [hp, if_pos rfl, List.append_nil] at st
        exact yes_and hp ⟨⟨by omega, by omega⟩, ih (i + 1) m (by omega) (by rw [st]; exact hmm)⟩
      | false =>
        rw [hp, if_neg (by simp)] at st
        obtain ⟨g1, g2⟩ := del_at hlt hp
        rw [← hmm] at g1
        have g1 : m < cs'.length := by rw [e2]; exact g1
        have g3 : el cs' (m : Int) = cs[i] := by rw [el_lt g1, ← g2]; simp only [e2, hmm]
        rw [g3]
        exact no_and hp (no_and (decide_eq_false (by omega)) ⟨by omega, by omega, by omega, by omega, no_and (by simp) ⟨⟨by omega, by omega⟩, ⟨by omega, by omega⟩, ih (i + 1) (m + 1) (by omega) (by rw [st, List.length_append, ← hmm]; rfl)⟩⟩)
  have loop1 : ∀ (j i m : Nat), i + j = is.length → m = (delF (pIt l) (is.take i)).length → Safe P 29 X (Ends [tBool] (true, ())) (cJs1 ck' nx' ps' is cs ws is' cs' ws' l q (m : Int) (i : Int)) := by
    intro j
    induction j with
    | zero =>
      intro i m hi hmm
      rw [List.take_of_length_le (by omega), ← e1] at hmm
      subst hmm
      exact go hz hX tabJs_ok Try.func29 (loopJs1 ck' nx' ps' is cs ws is' cs' ws' l q _ i) (no_and (decide_eq_false (by omega)) (loop2 cs.length 0 0 (by omega) rfl))
    | succ j ih =>
      intro i m hi hmm
      have hlt : i < is.length := by omega
      refine go hz hX tabJs_ok Try.func29 (loopJs1 ck' nx' ps' is cs ws is' cs' ws' l q m i) (yes_and (decide_eq_true (by omega)) ⟨by omega, by omega, ?_⟩)
      rw [el_lt hlt]
      have st := delF_take (p := pIt l) hlt
      cases hp : pIt l is[i] with
      | true =>
        rw [hp, if_pos rfl, List.append_nil] at st
        exact yes_and hp ⟨⟨by omega, by omega⟩, ih (i + 1) m (by omega) (by rw [st]; exact hmm)⟩
      | false =>
        rw [hp, if_neg (by simp)] at st
        obtain ⟨g1, g2⟩ := del_at hlt hp
        rw [← hmm] at g1
        have g1 : m < is'.length := by rw [e1]; exact g1
        have g3 : el is' (m : Int) = is[i] := by rw [el_lt g1, ← g2]; simp only [e1, hmm]
        rw [g3]
        exact no_and hp (no_and (decide_eq_false (by omega)) ⟨by omega, by omega, by omega, by omega, no_and (by simp) ⟨⟨by omega, by omega⟩, ⟨by omega, by omega⟩, ih (i + 1) (m + 1) (by omega) (by rw [st, List.length_append, ← hmm]; rfl)⟩⟩)
  exact go hz hX tabJs_ok Try.func29 (trJs ck' nx' ps' is cs ws is' cs' ws' l q) (no_and (by simp) (no_and (by simp) ⟨⟨rfl, rfl, rfl, rfl, rfl, rfl⟩, no_and rfl (loop1 is.length 0 0 (by omega) rfl)⟩))
theorem tabLw_ok {Z : Glob} : tabLw.Ok P Z := Tab.Ok.cons works_ok.sum (Tab.Ok.cons large_ok.sum (Tab.Ok.cons take_ok.sumR (Tab.Ok.cons clear_ok.sumR (Tab.Ok.cons break_ok.sumR (Tab.Ok.cons find_ok.sum (Tab.Ok.cons same_ok.sum (Tab.Ok.cons gone_ok.sum (Tab.Ok.cons below_ok.sum (Tab.Ok.cons just_ok.sum (Tab.Ok.cons in_ok.sum (Tab.Ok.cons kids_ok.sum Tab.Ok.nil)))))))))))
theorem not_large {ps : Ps} {is : Is} {cs : Cs} {ws : Ws} (h : largeF ps is cs ws = false) : is.length ≤ 170 ∧ cs.length ≤ 300 ∧ ws.length ≤ 300 := by
  have := of_decide_eq_false h
  omega
theorem cancelRow_ok {Z : Glob} : FnOk P Z 7 [tSt, tInt, tInt] [tBool] (fun _ => []) (fun _ => (true, ())) := by
  refine fnOk_of_safe Try.func7 (by kernel_rfl) (by kernel_rfl) ?_
  rintro ⟨⟨(ck : Int), (nx : Int), (ps : Ps), (is : Is), (cs : Cs), (ws : Ws), ⟨⟩⟩, (a : Int), (b : Int), ⟨⟩⟩ _ _ X hX hz
  show Safe P 7 X (Ends [tBool] (true, ())) _
  refine go hz hX tabLw_ok Try.func7 (trLr ck nx ps is cs ws a b) (no_and rfl ⟨fun _ => ends_eq _ rfl (by kernel_rfl), fun hl => ?_⟩)
  obtain ⟨l1, l2, l3⟩ := not_large hl
  have fin : Safe P 7 X (Ends [tBool] (true, ())) (cLr1 ck nx ps is cs ws a b (is.length : Int)) := by
    have ga := delF_len (pIt (takeL is a)) is
    have gb := delF_len (pIt (takeL is b)) is
    have ca := delF_len (pDr (takeL is a)) cs
    have cb := delF_len (pDr (takeL is b)) cs
    have wa := delF_len (pWa (takeL is a)) ws
    have wb := delF_len (pWa (takeL is b)) ws
    refine go hz hX tabLw_ok Try.func7 (loopLr1 ck nx ps is cs ws a b _) (no_and (decide_eq_false (by omega)) ⟨by omega, by omega, by omega, by omega, by omega, by omega, by omega, by omega, by omega, by omega, by omega, by omega, ?_, yes_and rfl ⟨by omega, by omega, by omega, ?_, ends_eq _ rfl (by kernel_rfl)⟩⟩)
    · exact ⟨rfl, rfl, rfl, del_two (fun x : CL cI => iI x) row_union is, del_two (fun x : CL cC => lS x) row_union cs, del_two (fun x : CL cW => wT x) row_union ws⟩
    · rw [take_again]
      exact ⟨rfl, rfl, rfl, del_nil (fun x : CL cI => iI x) _, del_nil (fun x : CL cC => lS x) _, del_nil (fun x : CL cW => wT x) _⟩
  have loop1 : ∀ (n i : Nat), i + n = is.length → Safe P 7 X (Ends [tBool] (true, ())) (cLr1 ck nx ps is cs ws a b (i : Int)) := by
    intro n
    induction n with
    | zero =>
      intro i hi
      obtain rfl : i = is.length := by omega
      exact fin
    | succ n ih =>
      intro i hi
      have loop2 : ∀ (m k : Nat), k + m = i → Safe P 7 X (Ends [tBool] (true, ())) (cLr2 ck nx ps is cs ws a b (i : Int) (k : Int)) := by
        intro m
        induction m with
        | zero => exact fun k hk => go hz hX tabLw_ok Try.func7 (loopLr2 ck nx ps is cs ws a b i k) (no_and (decide_eq_false (by omega)) ⟨⟨by omega, by omega⟩, ih (i + 1) (by omega)⟩)
        | succ m ih2 => exact fun k hk => go hz hX tabLw_ok Try.func7 (loopLr2 ck nx ps is cs ws a b i k) (yes_and (decide_eq_true (by omega)) ⟨by omega, by omega, by omega, by omega, fun _ => ends_eq _ rfl (by kernel_rfl), fun _ => ⟨⟨by omega, by omega⟩, ih2 (k + 1) (by omega)⟩⟩)
      exact go hz hX tabLw_ok Try.func7 (loopLr1 ck nx ps is cs ws a b i) (yes_and (decide_eq_true (by omega)) (loop2 i 0 (by omega)))
  exact loop1 is.length 0 (by omega)
end Ds
