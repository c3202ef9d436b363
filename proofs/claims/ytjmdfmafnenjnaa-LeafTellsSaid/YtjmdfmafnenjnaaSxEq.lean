import Derived.Test.YtjmdfmafnenjnaaSxLoad
/-! Equality, and the operations of two operands. -/
namespace Go.Sx
open Go

section
variable {ρ : Nat → Value} {H : AHeap} {O : Nat → Prop} {w : World} {P : Program}

theorem eqR_bool {t : TypeId} {x y : AV} {vx vy : Value} {q : Bool × Bool} (ht : P.underlying t = some .bool) (h : eqR P t x y = some q)
    (hx : DenV ρ H O w x vx) (hy : DenV ρ H O w y vy) : ∃ a b, vx = .bool a ∧ vy = .bool b ∧ q.2 = (a == b) := by
  unfold eqR at h
  simp only [ht] at h
  split at h
  · rename_i lx a ly b h1 h2
    simp only [Option.some.injEq] at h
    subst h
    exact ⟨a, b, truth_den h1 hx, truth_den h2 hy, rfl⟩
  · cases h

theorem array_loop (d : Nat) {e : TypeId} {k : IntKind} {i : TypeInfo} (he : P.underlying e = some (.int k)) (hs : i.size = 1)
    (ws ws' : List Int) (w : World) (n : Nat) (h1 : ws.length = n) (h2 : ws'.length = n) : ∀ (m s : Nat), s + m = n → 
    (forIn (m := Sem) (List.range' s m 1) ((none, ()) : Option Bool × Unit) fun j _ => do
      if (!(← Op.equalIn (d + 1) e (← part e (ws.map (Value.int k)).toArray (j * i.size)) (← part e (ws'.map (Value.int k)).toArray (j * i.size)))) = true then
        pure (ForInStep.done (some false, ())) else pure (ForInStep.yield (none, ()))).run P w = .ok (if ws.drop s = ws'.drop s then (none, ()) else (some false, ())) w := by
  intro m
  induction m with
  | zero =>
    intro s hs'
    have e1 : ws.drop s = [] := List.drop_eq_nil_of_le (by omega)
    have e2 : ws'.drop s = [] := List.drop_eq_nil_of_le (by omega)
    simp [e1, e2]
  | succ m ih =>
    intro s hs'
    have hi1 : s < ws.length := by omega
    have hi2 : s < ws'.length := by omega
    have p1 : ∀ w, (part e (ws.map (Value.int k)).toArray (s * i.size)).run P w = .ok (.int k ws[s]) w := by
      intro w
      simp [part, isAgg, run_underlying he, hs, hi1]
    have p2 : ∀ w, (part e (ws'.map (Value.int k)).toArray (s * i.size)).run P w = .ok (.int k ws'[s]) w := by
      intro w
      simp [part, isAgg, run_underlying he, hs, hi2]
    rw [List.range'_succ, List.forIn_cons]
    simp only [Sem.run_bind, p1, p2, Result.andThen_ok, run_equalIn_int _ _ _ _ _ _ _ he]
    rw [List.drop_eq_getElem_cons hi1, List.drop_eq_getElem_cons hi2]
    by_cases hq : ws[s] = ws'[s]
    · simp only [hq, beq_self_eq_true, Bool.not_true, Bool.false_eq_true, if_false, Sem.run_pure, Result.andThen_ok, List.cons.injEq, true_and]
      exact ih (s + 1) (by omega)
    · have : (ws[s] == ws'[s]) = false := by simpa using hq
      have hne : ¬ (ws[s] :: ws.drop (s + 1) = ws'[s] :: ws'.drop (s + 1)) := fun e => hq (List.cons.inj e).1
      rw [if_neg hne]
      simp only [this, Bool.not_false, if_true, Sem.run_pure, Result.andThen_ok]
theorem array_eq_ok (d : Nat) {t e : TypeId} {n : Nat} {k : IntKind} {i : TypeInfo} (ht : P.underlying t = some (.array n e)) (he : P.underlying e = some (.int k)) (hi : P.info? e = some i) (hs : i.size = 1)
    (ws ws' : List Int) (h1 : ws.length = n) (h2 : ws'.length = n) (w : World) :
    (Op.equalIn (d + 2) t (.agg (ws.map (Value.int k)).toArray) (.agg (ws'.map (Value.int k)).toArray)).run P w = .ok (decide (ws = ws')) w := by
  have key := array_loop (P := P) d he hs ws ws' w n h1 h2 n 0 (by omega)
  unfold Op.equalIn
  simp only [Sem.run_bind, run_underlying ht, Result.andThen_ok, sizeOf, typeInfo, run_program, hi, Sem.run_pure]
  rw [Std.Legacy.Range.forIn_eq_forIn_range']
  simp only [Std.Legacy.Range.size, Nat.sub_zero, Nat.add_sub_cancel, Nat.div_one]
  rw [key]
  by_cases hq : ws = ws' <;> simp [hq]

theorem ptr_eq1 (d : Nat) {t e : TypeId} (ht : P.underlying t = some (.pointer e)) (b : Option Addr) : (Op.equalIn (d + 1) t (.pointer none) (.pointer b)).run P w = .ok b.isNone w := by
  unfold Op.equalIn
  simp [run_underlying ht]
theorem ptr_eq2 (d : Nat) {t e : TypeId} (ht : P.underlying t = some (.pointer e)) (a : Addr) : (Op.equalIn (d + 1) t (.pointer (some a)) (.pointer none)).run P w = .ok false w := by
  unfold Op.equalIn
  simp [run_underlying ht]

/-- The value of a type whose cells these are. -/
def mk (P : Program) (t : TypeId) (cs : List Value) : Value :=
  match aggT P t with
  | some true => .agg cs.toArray
  | _ => cs.headD undef

theorem eqFs_ok {d d' : Nat} (ih : ∀ {t : TypeId} {xs ys : List AV} {b : Bool} {cx cy : List Value}, eqC P d t xs ys = some b → DenSegs ρ H O w xs cx → DenSegs ρ H O w ys cy → (Op.equalIn d' t (mk P t cx) (mk P t cy)).run P w = .ok b w)
    {xs ys : List AV} {cx cy : List Value} (hx : DenSegs ρ H O w xs cx) (hy : DenSegs ρ H O w ys cy) : ∀ (fs : List Field) {b : Bool}, eqFs P (eqC P d) fs xs ys = some b → (Op.eqFields d' cx.toArray cy.toArray fs).run P w = .ok b w
  | [], b, h => by
    simp only [eqFs, Option.some.injEq] at h
    subst h
    rfl
  | f :: fs, b, h => by
    simp only [eqFs, Bool.cond_eq_ite] at h
    simp only [Op.eqFields, Sem.run_ite]
    split at h
    · rename_i hn
      rw [if_neg (by simpa using hn)]
      exact eqFs_ok ih hx hy fs h
    · rename_i hn
      rw [if_pos (by simpa using hn)]
      split at h
      · rename_i sz isA hsz hag
        split at h
        case isFalse => cases h
        rename_i hone
        split at h
        · rename_i a b' h1 h2
          obtain ⟨sa, h3, h4⟩ := Option.bind_eq_some_iff.1 h1
          obtain ⟨sb, h5, h6⟩ := Option.bind_eq_some_iff.1 h2
          obtain ⟨g1, g2⟩ := dropSegs_ok _ _ h3 hx
          obtain ⟨g3, g4⟩ := takeSegs_ok _ _ h4 g2
          obtain ⟨k1, k2⟩ := dropSegs_ok _ _ h5 hy
          obtain ⟨k3, k4⟩ := takeSegs_ok _ _ h6 k2
          split at h
          · rename_i p q h7 h8
            simp only [Option.some.injEq] at h
            subst h
            have hp := ih h7 g4 k4
            have hpart : ∀ (cs : List Value), f.offset ≤ cs.length → sz ≤ (cs.drop f.offset).length → (part f.type cs.toArray f.offset).run P w = .ok (mk P f.type ((cs.drop f.offset).take sz)) w := by
              intro cs q1 q2
              cases isA
              · have hsz1 : sz = 1 := by simpa using hone
                subst hsz1
                simp only [List.length_drop] at q2
                have hlt : f.offset < cs.length := by omega
                have e1 : mk P f.type ((cs.drop f.offset).take 1) = cs[f.offset] := by
                  simp only [mk, hag]
                  rw [List.drop_eq_getElem_cons hlt]
                  rfl
                rw [e1]
                simp [part, run_isAgg hag, hlt]
              · simp only [mk, hag]
                simp [part, run_isAgg hag, run_sizeOf hsz, List.extract_eq_take_drop]
            simp only [Sem.run_bind, hpart cx g1 g3, hpart cy k1 k3, Result.andThen_ok, hp, Sem.run_ite]
            cases p
            · simp
            · simpa using eqFs_ok ih hx hy fs h8
          · cases h
        · cases h
      · cases h

theorem eqC_ok : ∀ (d : Nat) {t : TypeId} {xs ys : List AV} {b : Bool} {cx cy : List Value}, eqC P d t xs ys = some b → DenSegs ρ H O w xs cx → DenSegs ρ H O w ys cy → ∀ {d' : Nat}, d ≤ d' → (Op.equalIn d' t (mk P t cx) (mk P t cy)).run P w = .ok b w
  | 0, t, xs, ys, b, cx, cy, h, _, _, _, _ => by simp [eqC] at h
  | d + 1, t, xs, ys, b, cx, cy, h, hx, hy, 0, hd => by omega
  | d + 1, t, xs, ys, b, cx, cy, h, hx, hy, d' + 1, hd => by
    simp only [eqC] at h
    have one : ∀ {x : AV} {cs : List Value}, DenSegs ρ H O w [x] cs → (∀ k n ws, x ≠ .ints k n ws) → ∃ u, cs = [u] ∧ DenV ρ H O w x u := by
      intro x cs h hx
      obtain ⟨c1, c2, rfl, h1, h2⟩ := DenSegs_cons.1 h
      rw [DenSegs_nil.1 h2]
      obtain ⟨u, rfl, _, h3⟩ := DenC_single h1 (wide_other hx) hx
      exact ⟨u, rfl, h3⟩
    split at h
    · rename_i k0 ht
      have ha : aggT P t = some false := by simp [aggT, ht]
      split at h
      · rename_i x y
        split at h
        · rename_i k l a k' l' b' h1 h2
          rw [Bool.cond_eq_ite] at h
          split at h
          · rename_i hk
            obtain rfl := kindEq_eq hk
            simp only [Option.some.injEq] at h
            subst h
            obtain ⟨u, rfl, hu⟩ := one hx (by rintro k n ws rfl; simp [AV.num?] at h1)
            obtain ⟨v, rfl, hv⟩ := one hy (by rintro k n ws rfl; simp [AV.num?] at h2)
            obtain rfl := num_den h1 hu
            obtain rfl := num_den h2 hv
            simp only [mk, ha, List.headD_cons]
            exact run_equalIn_int _ _ _ _ _ _ _ ht
          · cases h
        · cases h
      · cases h
    · rename_i ht
      have ha : aggT P t = some false := by simp [aggT, ht]
      split at h
      · rename_i x y
        split at h
        · rename_i l a l' b' h1 h2
          simp only [Option.some.injEq] at h
          subst h
          obtain ⟨u, rfl, hu⟩ := one hx (by rintro k n ws rfl; simp [AV.truth?] at h1)
          obtain ⟨v, rfl, hv⟩ := one hy (by rintro k n ws rfl; simp [AV.truth?] at h2)
          obtain rfl := truth_den h1 hu
          obtain rfl := truth_den h2 hv
          simp only [mk, ha, List.headD_cons]
          exact run_equalIn_bool' _ _ _ _ _ ht
        · cases h
      · cases h
    · rename_i ht
      have ha : aggT P t = some false := by simp [aggT, ht]
      split at h
      · rename_i a b'
        simp only [Option.some.injEq] at h
        subst h
        obtain ⟨u, rfl, hu⟩ := one hx (by simp)
        obtain ⟨v, rfl, hv⟩ := one hy (by simp)
        obtain rfl := str_den hu
        obtain rfl := str_den hv
        simp only [mk, ha, List.headD_cons]
        rw [run_equalIn_string _ _ _ _ _ ht, str_eq]
      · cases h
    · rename_i n e ht
      have ha : aggT P t = some true := by simp [aggT, ht]
      split at h
      · rename_i k m ws k' m' ws'
        split at h
        · rename_i k'' he
          rw [Bool.cond_eq_ite] at h
          split at h
          · rename_i hc
            simp only [Bool.and_eq_true, beq_iff_eq] at hc
            obtain ⟨⟨⟨⟨⟨e0, e1⟩, e2⟩, e3⟩, e4⟩, e5⟩ := hc
            have e0 := Nat.le_of_ble_eq_true e0
            obtain rfl := kindEq_eq e1
            obtain rfl := kindEq_eq e2
            subst e3; subst e4
            simp only [Option.some.injEq] at h
            subst h
            obtain ⟨c1, c2, rfl, h1, h2⟩ := DenSegs_cons.1 hx
            rw [DenSegs_nil.1 h2]
            obtain ⟨c3, c4, rfl, h3, h4⟩ := DenSegs_cons.1 hy
            rw [DenSegs_nil.1 h4]
            unfold DenC at h1 h3
            obtain ⟨l1, rfl⟩ := h1
            obtain ⟨l2, rfl⟩ := h3
            obtain ⟨i, hi, hs⟩ : ∃ i, P.info? e = some i ∧ i.size = 1 := by
              cases hi : P.info? e with
              | none => simp [hi] at e5
              | some i => exact ⟨i, rfl, by simpa [hi] using e5⟩
            obtain ⟨d2, rfl⟩ : ∃ d2, d' = d2 + 1 := ⟨d' - 1, by omega⟩
            simp only [mk, ha, List.append_nil]
            exact array_eq_ok d2 ht he hi hs ws ws' l1 l2 w
          · cases h
        · cases h
      · cases h
    · rename_i fs ht
      have ha : aggT P t = some true := by simp [aggT, ht]
      have hf : P.fieldsOf t = fs := by simp [Program.fieldsOf, ht]
      rw [Bool.cond_eq_ite] at h
      split at h
      · cases h
      · rename_i hst
        simp only [mk, ha]
        rw [run_equalIn_struct w d' t _ _ (by rw [hf]; exact ht) (by simpa using hst), hf]
        exact eqFs_ok (fun h1 h2 h3 => eqC_ok d h1 h2 h3 (by omega)) hx hy fs.toList h
    · cases h

theorem eqR_ok {t : TypeId} {x y : AV} {vx vy : Value} {q : Bool × Bool} (h : eqR P t x y = some q) (hx : DenV ρ H O w x vx) (hy : DenV ρ H O w y vy) :
    (Op.equal t vx vy).run P w = .ok q.2 w ∧ (∀ op a b, (eqGuard op t a b vx vy).run P w = .ok () w) ∧
    (∀ op, op = .eql ∨ op = .neq → (binOp op t vx vy).run P w = ((do let b ← Op.equal t vx vy; pure (.bool (if op = .eql then b else !b))) : Sem Value).run P w) := by
  have key : ∀ vx vy : Value, (∀ k a, vx ≠ .int k a) → (∀ s, vx ≠ .string s) → (∀ k a, vx ≠ .float k a) → (∀ k a b, vx ≠ .complex k a b) →
      ∀ op, op = .eql ∨ op = .neq → (binOp op t vx vy).run P w = ((do let b ← Op.equal t vx vy; pure (.bool (if op = .eql then b else !b))) : Sem Value).run P w := by
    intro vx vy h1 h2 h3 h4 op hop
    rcases hop with rfl | rfl <;> cases vx <;> cases vy <;> first
      | rfl
      | (exact (h1 _ _ rfl).elim)
      | (exact (h2 _ rfl).elim)
      | (exact (h3 _ _ rfl).elim)
      | (exact (h4 _ _ _ rfl).elim)
  unfold eqR at h
  split at h
  · rename_i ht
    split at h
    · rename_i lx a ly b h1 h2
      simp only [Option.some.injEq] at h
      subst h
      obtain rfl := truth_den h1 hx
      obtain rfl := truth_den h2 hy
      exact ⟨run_equal_bool w t a b ht, fun op c d => eqGuard_bool op t c d a b, key _ _ (by simp) (by simp) (by simp) (by simp)⟩
    · cases h
  · rename_i n e k m ws k' m' ws' ht
    split at h
    · rename_i k'' he
      simp only [Bool.cond_eq_ite] at h
      split at h
      · rename_i hc
        simp only [Bool.and_eq_true, beq_iff_eq, Bool.not_eq_true'] at hc
        obtain ⟨⟨⟨⟨⟨e1, e2⟩, e3⟩, e4⟩, e5⟩, e6⟩ := hc
        obtain rfl := kindEq_eq e1
        obtain rfl := kindEq_eq e2
        subst e3; subst e4
        simp only [Option.some.injEq] at h
        subst h
        unfold DenV at hx hy
        obtain ⟨l1, rfl⟩ := hx
        obtain ⟨l2, rfl⟩ := hy
        obtain ⟨i, hi, hs⟩ : ∃ i, P.info? e = some i ∧ i.size = 1 := by
          cases hi : P.info? e with
          | none => simp [hi] at e5
          | some i => exact ⟨i, rfl, by simpa [hi] using e5⟩
        exact ⟨array_eq_ok 9998 ht he hi hs ws ws' l1 l2 w, fun op c d => run_eqGuard_agg w op t c d _ _ e6, key _ _ (by simp) (by simp) (by simp) (by simp)⟩
      · cases h
    · cases h
  · rename_i e ht
    simp only [Option.some.injEq] at h
    subst h
    have h1 := DenS_of_V (by simp) hx
    have h2 := DenS_of_V (by simp) hy
    cases h1; cases h2
    exact ⟨ptr_eq1 9999 ht none, fun op c d => eqGuard_ptr op t c d _ _, key _ _ (by simp) (by simp) (by simp) (by simp)⟩
  · rename_i e id off ht
    simp only [Option.some.injEq] at h
    subst h
    have h1 := DenS_of_V (by simp) hx
    cases h1
    unfold DenV Den1 at hy
    obtain ⟨b, _, rfl, _⟩ := hy
    exact ⟨ptr_eq1 9999 ht _, fun op c d => eqGuard_ptr op t c d _ _, key _ _ (by simp) (by simp) (by simp) (by simp)⟩
  · rename_i e id off ht
    simp only [Option.some.injEq] at h
    subst h
    have h1 := DenS_of_V (by simp) hy
    cases h1
    unfold DenV Den1 at hx
    obtain ⟨b, _, rfl, _⟩ := hx
    exact ⟨ptr_eq2 9999 ht _, fun op c d => eqGuard_ptr op t c d _ _, key _ _ (by simp) (by simp) (by simp) (by simp)⟩
  · rename_i fs xs ys ht
    rw [Bool.cond_eq_ite] at h
    split at h
    · cases h
    · rename_i hg
      obtain ⟨b, h1, rfl⟩ := Option.map_eq_some_iff.1 h
      unfold DenV at hx hy
      obtain ⟨cx, rfl, hx⟩ := hx
      obtain ⟨cy, rfl, hy⟩ := hy
      have hk := eqC_ok (P := P) 20 h1 hx hy (d' := 10000) (by omega)
      have ha : aggT P t = some true := by simp [aggT, ht]
      simp only [mk, ha] at hk
      exact ⟨hk, fun op c d => run_eqGuard_agg w op t c d _ _ (by simpa using hg), key _ _ (by simp) (by simp) (by simp) (by simp)⟩
  · cases h

theorem binR_ok {op : BinOp} {t : TypeId} {x y : AV} {ox oy : Operand} {vx vy : Value} {q : List Prop × AV} (h : binR P op t x y = some q) (hn : Needs q.1)
    (hx : DenV ρ H O w x vx) (hy : DenV ρ H O w y vy) :
    ∃ v, (do eqGuard op t ox oy vx vy; binOp op t vx vy : Sem Value).run P w = .ok v w ∧ DenV ρ H O w q.2 v := by
  unfold binR at h
  split at h
  · rename_i a b
    obtain rfl := str_den hx
    obtain rfl := str_den hy
    obtain ⟨v, h1, h2⟩ := strBin_ok (P := P) (t := t) (ρ := ρ) (H := H) (O := O) (w := w) h hn
    exact ⟨v, by simp [eqGuard_str, h1], h2⟩
  · split at h
    · rename_i k lx a k' ly b h1 h2
      obtain rfl := num_den h1 hx
      obtain rfl := num_den h2 hy
      split at h
      · obtain ⟨v, h3, h4⟩ := shiftR_ok (P := P) (t := t) (k' := k') (ρ := ρ) (H := H) (O := O) (w := w) h hn
        exact ⟨v, by simp [eqGuard_int, h3], h4⟩
      · obtain ⟨v, h3, h4⟩ := shiftR_ok (P := P) (t := t) (k' := k') (ρ := ρ) (H := H) (O := O) (w := w) h hn
        exact ⟨v, by simp [eqGuard_int, h3], h4⟩
      · rw [Bool.cond_eq_ite] at h
        split at h
        · rename_i hk
          obtain rfl := kindEq_eq hk
          obtain ⟨v, h3, h4⟩ := intBin_ok (P := P) (t := t) (ρ := ρ) (H := H) (O := O) (w := w) h hn
          exact ⟨v, by simp [eqGuard_int, h3], h4⟩
        · cases h
    · split at h
      · simp only [Option.map_eq_some_iff] at h
        obtain ⟨⟨l, b⟩, h1, rfl⟩ := h
        obtain ⟨h2, h3, h4⟩ := eqR_ok h1 hx hy
        exact ⟨.bool b, by simp [h3, h4 .eql (.inl rfl), h2], mkBool_den _ _⟩
      · simp only [Option.map_eq_some_iff] at h
        obtain ⟨⟨l, b⟩, h1, rfl⟩ := h
        obtain ⟨h2, h3, h4⟩ := eqR_ok h1 hx hy
        exact ⟨.bool (!b), by simp [h3, h4 .neq (.inr rfl), h2], mkBool_den _ _⟩
      · cases h

end
end Go.Sx
