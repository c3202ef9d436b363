import Derived.Test.YtjmdfmafnenjnaaSxSat
/-! Loads and stores. -/
namespace Go.Sx
open Go

section
variable {ρ ρ' : Nat → Value} {H H' : AHeap} {G O O' : Nat → Prop} {w w' : World} {P : Program}

theorem cellAt_other {a : AV} (h : ∀ k n ws, a ≠ .ints k n ws) (as : List AV) (off : Nat) : cellAt (a :: as) off = match off with | 0 => some a | m + 1 => cellAt as m := by
  cases a <;> first | (cases off <;> rfl) | (exact (h _ _ _ rfl).elim)
theorem setCellAt_other {a : AV} (h : ∀ k n ws, a ≠ .ints k n ws) (as : List AV) (off : Nat) (v : AV) : setCellAt (a :: as) off v = match off with | 0 => some (v :: as) | m + 1 => (setCellAt as m v).map (a :: ·) := by
  cases a <;> first | (cases off <;> rfl) | (exact (h _ _ _ rfl).elim)
theorem rowAt'_other {a : AV} (h : ∀ k n ws, a ≠ .ints k n ws) (as : List AV) (off : Nat) : rowAt' (a :: as) off = match off with | 0 => none | m + 1 => rowAt' as m := by
  cases a <;> first | (cases off <;> rfl) | (exact (h _ _ _ rfl).elim)
theorem setRowAt_other {a : AV} (h : ∀ k n ws, a ≠ .ints k n ws) (as : List AV) (off : Nat) (v : List Int) : setRowAt (a :: as) off v = match off with | 0 => none | m + 1 => (setRowAt as m v).map (a :: ·) := by
  cases a <;> first | (cases off <;> rfl) | (exact (h _ _ _ rfl).elim)

theorem isInts (a : AV) : (∃ k n ws, a = .ints k n ws) ∨ ∀ k n ws, a ≠ .ints k n ws := by
  cases a <;> first | (exact .inl ⟨_, _, _, rfl⟩) | (exact .inr (by simp))

theorem DenC_ints {k : IntKind} {n : Nat} {ws : List Int} {cs : List Value} : DenC ρ H O w (.ints k n ws) cs ↔ ws.length = n ∧ cs = ws.map (Value.int k) := by
  unfold DenC; exact Iff.rfl

theorem cellAt_ok : ∀ (segs : List AV) (off : Nat) {cs : List Value} {v : AV}, cellAt segs off = some v → DenSegs ρ H O w segs cs → ∃ u, cs[off]? = some u ∧ u.oneCell' = true ∧ DenV ρ H O w v u
  | [], off, cs, v, h, _ => by simp [cellAt] at h
  | a :: as, off, cs, v, h, hd => by
    obtain ⟨c1, c2, rfl, h1, h2⟩ := DenSegs_cons.1 hd
    rcases isInts a with ⟨k, n, ws, rfl⟩ | ha
    · obtain ⟨hl, rfl⟩ := DenC_ints.1 h1
      simp only [cellAt, Bool.cond_eq_ite] at h
      split at h
      · rename_i hlt
        have hlt : off < n := by simpa [Nat.blt, Nat.lt_iff_add_one_le] using hlt
        simp only [Option.some.injEq] at h
        subst h
        have hx : off < ws.length := by omega
        exact ⟨.int k ws[off], by rw [List.getElem?_append_left (by simpa using hx)]; simp [hx], rfl, by rw [show ws.getD off 0 = ws[off] from by simp [List.getD, hx]]; exact DenV_s (.int _ _)⟩
      · rename_i hlt
        have hlt : ¬ off < n := by simpa [Nat.blt, Nat.lt_iff_add_one_le] using hlt
        obtain ⟨u, h3, h4⟩ := cellAt_ok as (off - n) h h2
        exact ⟨u, by rw [List.getElem?_append_right (by simp; omega)]; simpa [hl] using h3, h4⟩
    · rw [cellAt_other ha] at h
      obtain ⟨u, rfl, h3, h4⟩ := DenC_single h1 (wide_other ha) ha
      cases off with
      | zero => simp only [Option.some.injEq] at h; subst h; exact ⟨u, rfl, h3, h4⟩
      | succ m =>
        obtain ⟨u', h5, h6⟩ := cellAt_ok as m h h2
        exact ⟨u', by simpa using h5, h6⟩

theorem setCellAt_ok : ∀ (segs : List AV) (off : Nat) {cs : List Value} {v : AV} {u : Value} {segs' : List AV}, setCellAt segs off v = some segs' → DenSegs ρ H O w segs cs → v.single = true → DenV ρ H O w v u →
    off < cs.length ∧ DenSegs ρ H O w segs' (cs.set off u)
  | [], off, cs, v, u, segs', h, _, _, _ => by simp [setCellAt] at h
  | a :: as, off, cs, v, u, segs', h, hd, hv, hu => by
    obtain ⟨c1, c2, rfl, h1, h2⟩ := DenSegs_cons.1 hd
    rcases isInts a with ⟨k, n, ws, rfl⟩ | ha
    · obtain ⟨hl, rfl⟩ := DenC_ints.1 h1
      simp only [setCellAt, Bool.cond_eq_ite] at h
      split at h
      · rename_i hlt
        have hlt : off < n := by simpa [Nat.blt, Nat.lt_iff_add_one_le] using hlt
        split at h
        · rename_i k' l x hx
          split at h
          · rename_i hk
            obtain rfl := kindEq_eq hk
            simp only [Option.some.injEq] at h
            subst h
            obtain rfl := num_den hx hu
            refine ⟨by simp; omega, DenSegs_cons.2 ⟨(ws.set off x).map (Value.int k), c2, ?_, DenC_ints.2 ⟨by simp [hl], rfl⟩, h2⟩⟩
            rw [List.set_append_left _ _ (by simp; omega), List.map_set]
          · cases h
        · cases h
      · rename_i hlt
        have hlt : ¬ off < n := by simpa [Nat.blt, Nat.lt_iff_add_one_le] using hlt
        simp only [Option.map_eq_some_iff] at h
        obtain ⟨ss, h3, rfl⟩ := h
        obtain ⟨h4, h5⟩ := setCellAt_ok as (off - n) h3 h2 hv hu
        refine ⟨by simp; omega, DenSegs_cons.2 ⟨_, c2.set (off - n) u, ?_, DenC_ints.2 ⟨hl, rfl⟩, h5⟩⟩
        rw [List.set_append_right _ _ (by simp; omega)]
        simp [hl]
    · rw [setCellAt_other ha] at h
      obtain ⟨u0, rfl, h3, h4⟩ := DenC_single h1 (wide_other ha) ha
      cases off with
      | zero =>
        simp only [Option.some.injEq] at h
        subst h
        exact ⟨by simp, DenSegs_cons.2 ⟨[u], c2, rfl, (DenC_of_single hv hu).1, h2⟩⟩
      | succ m =>
        simp only [Option.map_eq_some_iff] at h
        obtain ⟨ss, h5, rfl⟩ := h
        obtain ⟨h6, h7⟩ := setCellAt_ok as m h5 h2 hv hu
        exact ⟨by simp; omega, DenSegs_cons.2 ⟨[u0], c2.set m u, rfl, h1, h7⟩⟩

theorem rowAt'_ok : ∀ (segs : List AV) (off : Nat) {cs : List Value} {k : IntKind} {n : Nat} {ws : List Int}, rowAt' segs off = some (k, n, ws) → DenSegs ρ H O w segs cs →
    ws.length = n ∧ ∃ pre post, cs = pre ++ ws.map (Value.int k) ++ post ∧ pre.length = off
  | [], off, cs, k, n, ws, h, _ => by simp [rowAt'] at h
  | a :: as, off, cs, k, n, ws, h, hd => by
    obtain ⟨c1, c2, rfl, h1, h2⟩ := DenSegs_cons.1 hd
    rcases isInts a with ⟨k', n', ws', rfl⟩ | ha
    · obtain ⟨hl, rfl⟩ := DenC_ints.1 h1
      simp only [rowAt', Bool.cond_eq_ite] at h
      split at h
      · rename_i h0
        have h0 : off = 0 := by simpa using h0
        subst h0
        simp only [Option.some.injEq, Prod.mk.injEq] at h
        obtain ⟨rfl, rfl, rfl⟩ := h
        exact ⟨hl, [], c2, by simp, rfl⟩
      · split at h
        · cases h
        · rename_i hlt
          have hlt : ¬ off < n' := by simpa [Nat.blt, Nat.lt_iff_add_one_le] using hlt
          obtain ⟨h3, pre, post, rfl, h4⟩ := rowAt'_ok as (off - n') h h2
          exact ⟨h3, ws'.map (Value.int k') ++ pre, post, by simp, by simp; omega⟩
    · rw [rowAt'_other ha] at h
      obtain ⟨u0, rfl, h3, h4⟩ := DenC_single h1 (wide_other ha) ha
      cases off with
      | zero => cases h
      | succ m =>
        obtain ⟨h3, pre, post, rfl, h4⟩ := rowAt'_ok as m h h2
        exact ⟨h3, u0 :: pre, post, by simp, by simp [h4]⟩

theorem setRowAt_ok : ∀ (segs : List AV) (off : Nat) {pre post : List Value} {k : IntKind} {n : Nat} {ws ws' : List Int} {segs' : List AV}, rowAt' segs off = some (k, n, ws) → setRowAt segs off ws' = some segs' → ws'.length = ws.length →
    DenSegs ρ H O w segs (pre ++ ws.map (Value.int k) ++ post) → pre.length = off → DenSegs ρ H O w segs' (pre ++ ws'.map (Value.int k) ++ post)
  | [], off, _, _, k, n, ws, _, _, h, _, _, _, _ => by simp [rowAt'] at h
  | a :: as, off, pre, post, k, n, ws, ws', segs', h, hs, hlen, hd, hp => by
    obtain ⟨c1, c2, hc, h1, h2⟩ := DenSegs_cons.1 hd
    rcases isInts a with ⟨k', n', ws1, rfl⟩ | ha
    · obtain ⟨hl, rfl⟩ := DenC_ints.1 h1
      simp only [rowAt', setRowAt, Bool.cond_eq_ite] at h hs
      split at h
      · rename_i h0
        have h0' : off = 0 := by simpa using h0
        subst h0'
        simp only [Option.some.injEq, Prod.mk.injEq] at h
        obtain ⟨rfl, rfl, rfl⟩ := h
        rw [if_pos h0] at hs
        simp only [Option.some.injEq] at hs
        subst hs
        obtain rfl : pre = [] := List.eq_nil_of_length_eq_zero hp
        simp only [List.nil_append] at hc ⊢
        have := List.append_cancel_left hc
        subst this
        exact DenSegs_cons.2 ⟨_, post, rfl, DenC_ints.2 ⟨by omega, rfl⟩, h2⟩
      · rename_i h0
        rw [if_neg h0] at hs
        split at h
        · cases h
        · rename_i hlt
          rw [if_neg hlt] at hs
          have hlt : ¬ off < n' := by simpa [Nat.blt, Nat.lt_iff_add_one_le] using hlt
          simp only [Option.map_eq_some_iff] at hs
          obtain ⟨ss, h3, rfl⟩ := hs
          have hpl : (ws1.map (Value.int k')).length ≤ pre.length := by simp; omega
          obtain ⟨pre', rfl⟩ : ∃ pre', pre = ws1.map (Value.int k') ++ pre' := by
            rw [List.append_assoc] at hc
            obtain ⟨x, hx⟩ := List.prefix_of_prefix_length_le (⟨_, rfl⟩ : ws1.map (Value.int k') <+: ws1.map (Value.int k') ++ c2) (⟨_, hc⟩ : pre <+: _) hpl
            exact ⟨x, hx.symm⟩
          simp only [List.append_assoc] at hc ⊢
          have hc' := List.append_cancel_left hc
          subst hc'
          have hp' : pre'.length = off - n' := by simp at hp; omega
          exact DenSegs_cons.2 ⟨_, _, rfl, h1, by simpa using setRowAt_ok as (off - n') h h3 hlen (by simpa using h2) hp'⟩
    · rw [rowAt'_other ha] at h
      rw [setRowAt_other ha] at hs
      obtain ⟨u0, rfl, h3, h4⟩ := DenC_single h1 (wide_other ha) ha
      cases off with
      | zero => cases h
      | succ m =>
        simp only [Option.map_eq_some_iff] at hs
        obtain ⟨ss, h5, rfl⟩ := hs
        cases pre with
        | nil => simp at hp
        | cons p pre' =>
          simp only [List.cons_append, List.cons.injEq, List.nil_append] at hc
          obtain ⟨rfl, hc'⟩ := hc
          simp only [List.length_cons, Nat.add_right_cancel_iff] at hp
          rw [← hc'] at h2
          exact DenSegs_cons.2 ⟨[p], _, rfl, h1, by simpa using setRowAt_ok as m h h5 hlen (by simpa using h2) hp⟩

theorem putSegs_ok {segs by_ segs' : List AV} {off : Nat} {cs vs : List Value} (h : putSegs segs off by_ = some segs') (hd : DenSegs ρ H O w segs cs) (hb : DenSegs ρ H O w by_ vs) :
    off + vs.length ≤ cs.length ∧ DenSegs ρ H O w segs' (cs.take off ++ vs ++ cs.drop (off + vs.length)) := by
  unfold putSegs at h
  split at h
  · rename_i pre post h1 h2
    simp only [Option.some.injEq] at h
    subst h
    have hl := DenSegs_len hb
    rw [← hl] at h2
    obtain ⟨h3, h4⟩ := takeSegs_ok _ _ h1 hd
    obtain ⟨h5, h6⟩ := dropSegs_ok _ _ h2 hd
    exact ⟨h5, DenSegs_append.2 ⟨_, _, rfl, DenSegs_append.2 ⟨_, _, rfl, h4, hb⟩, h6⟩⟩
  · cases h

theorem segs_one (segs : List AV) {cs : List Value} (h : DenSegs ρ H O w segs cs) : ∀ v ∈ cs, v.oneCell' = true := by
  induction segs generalizing cs with
  | nil => rw [DenSegs_nil.1 h]; simp
  | cons a as ih =>
    obtain ⟨c1, c2, rfl, h1, h2⟩ := DenSegs_cons.1 h
    intro v hv
    rcases List.mem_append.1 hv with hv | hv
    · rcases isInts a with ⟨k, n, ws, rfl⟩ | ha
      · obtain ⟨hl, rfl⟩ := DenC_ints.1 h1
        obtain ⟨x, _, rfl⟩ := List.mem_map.1 hv
        rfl
      · obtain ⟨u, rfl, h3, _⟩ := DenC_single h1 (wide_other ha) ha
        simp only [List.mem_singleton] at hv
        subst hv
        exact h3
    · exact ih h2 v hv

/-- A value's parts are its cells. -/
theorem segsQ_ok {x : AV} {v : Value} {segs : List AV} (h : x.segs? = some segs) (hd : DenV ρ H O w x v) : DenSegs ρ H O w segs v.cells.toList := by
  have one : ∀ a, a.single = true → DenV ρ H O w a v → DenSegs ρ H O w [a] v.cells.toList := by
    intro a ha hv
    obtain ⟨h1, h2⟩ := DenC_of_single ha hv
    have : v.cells.toList = [v] := by cases v <;> first | rfl | (simp [Value.oneCell'] at h2)
    rw [this]
    exact DenSegs_cons.2 ⟨[v], [], rfl, h1, DenSegs_nil.2 rfl⟩
  cases x with
  | agg ss =>
    simp only [AV.segs?, Option.some.injEq] at h
    subst h
    unfold DenV at hd
    obtain ⟨cs, rfl, h1⟩ := hd
    simpa [Value.cells] using h1
  | ints k n ws =>
    simp only [AV.segs?, Option.some.injEq] at h
    subst h
    unfold DenV at hd
    obtain ⟨hl, rfl⟩ := hd
    exact DenSegs_cons.2 ⟨ws.map (Value.int k), [], by simp [Value.cells], DenC_ints.2 ⟨hl, rfl⟩, DenSegs_nil.2 rfl⟩
  | tup _ => simp [AV.segs?] at h
  | s x => cases x <;> simp only [AV.segs?, Option.some.injEq, reduceCtorEq] at h <;> subst h <;> exact one _ rfl hd
  | _ => simp only [AV.segs?, Option.some.injEq] at h; subst h; exact one _ rfl hd

theorem ofSegs_ok {segs : List AV} {cs : List Value} (h : DenSegs ρ H O w segs cs) : DenV ρ H O w (.ofSegs segs) (.agg cs.toArray) := by
  unfold AV.ofSegs
  split
  · obtain ⟨c1, c2, rfl, h1, h2⟩ := DenSegs_cons.1 h
    obtain rfl := DenSegs_nil.1 h2
    obtain ⟨hl, rfl⟩ := DenC_ints.1 h1
    unfold DenV
    exact ⟨hl, by simp⟩
  · unfold DenV
    exact ⟨cs, rfl, h⟩
end
end Go.Sx
