import Derived.Test.YtjmdfmafnenjnaaSxStore
/-! New objects: variables, aggregates, slices. -/
namespace Go.Sx
open Go

section
variable {ρ ρ' : Nat → Value} {H H' : AHeap} {G O O' : Nat → Prop} {w w' : World} {P : Program}

theorem svOf_ok {v : Value} {x : SV} (h : svOf v = some x) : DenS O w x v := by
  unfold svOf at h
  split at h <;> simp only [Option.some.injEq, reduceCtorEq] at h <;> subst h
  · exact .blit _
  · exact .ilit _ _
  · exact .str _
  · exact .nilp
  · exact .nili
  · exact .nilf
  · exact .nilm

theorem av1Of_ok {v : Value} {a : AV} (h : av1Of v = some a) : DenC ρ H O w a [v] := by
  unfold av1Of at h
  split at h
  · simp only [Option.some.injEq] at h
    subst h
    unfold DenC
    exact ⟨_, rfl, none, rfl⟩
  · simp only [Option.map_eq_some_iff] at h
    obtain ⟨x, h1, rfl⟩ := h
    unfold DenC
    exact ⟨v, rfl, svOf_ok h1⟩

theorem allOf_ok : ∀ (vs : List Value) {as : List AV}, allOf vs = some as → DenSegs ρ H O w as vs
  | [], as, h => by simp only [allOf, Option.some.injEq] at h; subst h; exact DenSegs_nil.2 rfl
  | v :: vs, as, h => by
    simp only [allOf] at h
    split at h
    · rename_i a as' h1 h2
      simp only [Option.some.injEq] at h
      subst h
      exact DenSegs_cons.2 ⟨[v], vs, rfl, av1Of_ok h1, allOf_ok vs h2⟩
    · cases h

theorem zeroNums_ok (k : IntKind) : ∀ (cs : List Value), zeroNums k cs = true → cs = (List.replicate cs.length (0 : Int)).map (Value.int k)
  | [], _ => rfl
  | v :: vs, h => by
    unfold zeroNums at h
    split at h
    · rename_i hc; cases hc
    · rename_i k' vs' hc
      cases hc
      simp only [Bool.and_eq_true] at h
      obtain rfl := kindEq_eq h.1
      have := zeroNums_ok k vs h.2
      simp only [List.length_cons, List.replicate_succ, List.map_cons, List.cons.injEq, true_and]
      exact this
    · cases h

theorem zeroFold (P : Program) (d : Nat) (ih : ∀ t cs segs, zeroSegs P d t cs = some segs → DenSegs ρ H O w segs cs) : ∀ (fs : List Field) (s0 s1 : List AV) (r0 r1 : List Value),
    fs.foldl (fun acc f => match acc, szOf P f.type with
        | some (segs, rest), some n => (zeroSegs P d f.type (rest.take n)).map fun s => (segs ++ s, rest.drop n)
        | _, _ => none) (some (s0, r0)) = some (s1, r1) → ∃ s' c, s1 = s0 ++ s' ∧ r0 = c ++ r1 ∧ DenSegs ρ H O w s' c
  | [], s0, s1, r0, r1, h => by
    simp only [List.foldl_nil, Option.some.injEq, Prod.mk.injEq] at h
    obtain ⟨rfl, rfl⟩ := h
    exact ⟨[], [], by simp, rfl, DenSegs_nil.2 rfl⟩
  | f :: fs, s0, s1, r0, r1, h => by
    simp only [List.foldl_cons] at h
    have hnone : ∀ (fs : List Field), fs.foldl (fun (acc : Option (List AV × List Value)) f => match acc, szOf P f.type with
        | some (segs, rest), some n => (zeroSegs P d f.type (rest.take n)).map fun s => (segs ++ s, rest.drop n)
        | _, _ => none) none = none := by
      intro fs
      induction fs with
      | nil => rfl
      | cons f fs ih => simp only [List.foldl_cons]; exact ih
    cases hsz : szOf P f.type with
    | none => rw [hsz] at h; simp only [hnone] at h; cases h
    | some n =>
      rw [hsz] at h
      simp only [] at h
      cases hz : zeroSegs P d f.type (r0.take n) with
      | none => rw [hz] at h; simp only [Option.map_none, hnone] at h; cases h
      | some s =>
        rw [hz] at h
        simp only [Option.map_some] at h
        obtain ⟨s', c, rfl, h1, h2⟩ := zeroFold P d ih fs _ _ _ _ h
        refine ⟨s ++ s', r0.take n ++ c, by simp, ?_, DenSegs_append.2 ⟨_, _, rfl, ih _ _ _ hz, h2⟩⟩
        rw [List.append_assoc, ← h1, List.take_append_drop]

theorem zeroSegs_ok (P : Program) : ∀ (d : Nat) (t : TypeId) (cs : List Value) (segs : List AV), zeroSegs P d t cs = some segs → DenSegs ρ H O w segs cs
  | 0, t, cs, segs, h => by simp [zeroSegs] at h
  | d + 1, t, cs, segs, h => by
    simp only [zeroSegs] at h
    split at h
    · simp only [Option.bind_eq_some_iff] at h
      obtain ⟨⟨s, rest⟩, h1, h2⟩ := h
      obtain ⟨s', c, rfl, rfl, h3⟩ := zeroFold P d (zeroSegs_ok P d) _ _ _ _ _ h1
      simp only [] at h2
      split at h2
      · simp only [Option.some.injEq] at h2
        subst h2
        simpa using h3
      · cases h2
    · split at h
      · rename_i k hk
        rw [Bool.cond_eq_ite] at h
        split at h
        · rename_i hc
          simp only [Bool.and_eq_true, beq_iff_eq] at hc
          obtain ⟨hz, rfl⟩ := hc
          simp only [Option.some.injEq] at h
          subst h
          exact DenSegs_cons.2 ⟨cs, [], by simp, DenC_ints.2 ⟨by simp, zeroNums_ok k cs hz⟩, DenSegs_nil.2 rfl⟩
        · exact allOf_ok cs h
      · exact allOf_ok cs h
    · exact allOf_ok cs h

theorem segs_ofSegs (segs : List AV) : (AV.ofSegs segs).segs? = some segs := by
  unfold AV.ofSegs
  split <;> rfl

theorem zeroOf_ok {t : TypeId} {segs : List AV} (h : (zeroOf P t).bind AV.segs? = some segs) : ∃ i v, P.info? t = some i ∧ i.zero = some v ∧ DenSegs ρ H O w segs v.cells.toList := by
  simp only [Option.bind_eq_some_iff] at h
  obtain ⟨z, h1, h2⟩ := h
  unfold zeroOf at h1
  split at h1
  · rename_i cs hz ha
    simp only [Option.bind_eq_some_iff] at hz
    obtain ⟨i, hi, hz⟩ := hz
    simp only [Option.map_eq_some_iff] at h1
    obtain ⟨ss, h3, rfl⟩ := h1
    rw [segs_ofSegs] at h2
    simp only [Option.some.injEq] at h2
    subst h2
    exact ⟨i, _, hi, hz, by simpa [Value.cells] using zeroSegs_ok P 20 t _ _ h3⟩
  · skip
    rename_i v hz ha
    simp only [Option.bind_eq_some_iff] at hz
    obtain ⟨i, hi, hz⟩ := hz
    refine ⟨i, v, hi, hz, ?_⟩
    have hc := av1Of_ok (ρ := ρ) (H := H) (O := O) (w := w) h1
    have hv : v.oneCell' = true ∧ z.segs? = some [z] := by
      unfold av1Of at h1
      split at h1
      · simp only [Option.some.injEq] at h1; subst h1; exact ⟨rfl, rfl⟩
      · simp only [Option.map_eq_some_iff] at h1
        obtain ⟨x, h3, rfl⟩ := h1
        refine ⟨(svOf_ok (O := O) (w := w) h3).one, ?_⟩
        unfold svOf at h3
        split at h3 <;> simp only [Option.some.injEq, reduceCtorEq] at h3 <;> subst h3 <;> rfl
    rw [hv.2] at h2
    simp only [Option.some.injEq] at h2
    subst h2
    rw [cells_one hv.1]
    exact DenSegs_cons.2 ⟨[v], [], rfl, hc, DenSegs_nil.2 rfl⟩
  · cases h1

theorem fresh_own (hs : Sat ρ H G w) {n : Nat} (hn : H n = none) {segs : List AV} {e : TypeId} {cells : List Value} (hd : DenSegs ρ H (Hot ρ H G) w segs cells) :
    Good ρ H G w (updH H n (.own segs e)) (.ptr n 0) (.pointer (some ⟨w.heap.size, 0, none⟩)) (w.alloc (.cells cells.toArray e)) := by
  have st : Step ρ H (Hot ρ H G) w (fun j => if j = n then .pointer (some ⟨w.heap.size, 0, none⟩) else ρ j) (updH H n (.own segs e)) (Hot (fun j => if j = n then .pointer (some ⟨w.heap.size, 0, none⟩) else ρ j) (updH H n (.own segs e)) G) (w.alloc (.cells cells.toArray e)) := by
    have ne : ∀ j x, H j = some x → j ≠ n := fun j x hx e => by subst e; rw [hn] at hx; cases hx
    refine ⟨fun j x hx => by simp [ne j x hx], fun j x hx => ⟨x, by simp [updH, ne j x hx, hx], fun c' e' hc => ⟨c', e', hc, rfl, rfl⟩⟩, fun b hb => ?_, fun b hb _ => alloc_old hb, by rw [alloc_size]; omega⟩
    rcases hb with ⟨j, x, hx, h1, h2⟩ | hb
    · by_cases hj : j = n
      · subst hj; simp only [if_true, blk, Option.some.injEq] at h2; exact .inr (by omega)
      · simp only [updH, hj, if_false] at hx h2
        exact .inl (.inl ⟨j, x, hx, h1, h2⟩)
    · exact .inl (.inr hb)
  refine Good.fresh (root := .pointer (some ⟨w.heap.size, 0, none⟩)) hs hn rfl rfl rfl rfl (fun b hb => by simpa [blk] using hb.symm) ?_ ?_
  · exact ⟨w.heap.size, cells, (0, 0), rfl, alloc_get, fun off _ h => by omega, hd.step st⟩
  · unfold DenV Den1
    exact ⟨w.heap.size, by simp, rfl, by simp [updH]⟩

theorem allocR_ok {t : TypeId} {q : Res} (h : (allocR P t).eval H = some q) (hs : Sat ρ H G w) {base : Nat} (hb : ∀ i, i < q.new.length → H (base + i) = none) (old : Value) :
    ∃ v w', (Instr.alloc t true old).run P w = .ok v w' ∧ Good ρ H G w (resH H q.up base q.new) (q.r base) v w' := by
  unfold allocR at h
  split at h
  · rename_i segs hz
    simp only [RM.eval, Option.some.injEq] at h
    subst h
    obtain ⟨i, v, hi, hv, hd⟩ := zeroOf_ok (ρ := ρ) (H := H) (O := Hot ρ H G) (w := w) hz
    have hn : H base = none := by simpa using hb 0 (by simp)
    refine ⟨.pointer (some ⟨w.heap.size, 0, none⟩), w.alloc (.cells v.cells t), ?_, ?_⟩
    · simp [Instr.alloc, zeroValue, typeInfo, hi, hv, newVar, newRow]; try rfl
    · simp only [resH_new]
      have := fresh_own hs hn (e := t) hd
      simpa using this
  · cases h

theorem boxR_ok {t : TypeId} {x : AV} {vx : Value} {q : Res} (h : (boxR t x).eval H = some q) (hs : Sat ρ H G w) (hd : DenV ρ H (Hot ρ H G) w x vx) {base : Nat} (hb : ∀ i, i < q.new.length → H (base + i) = none) :
    ∃ v w', (Instr.box t vx).run P w = .ok v w' ∧ Good ρ H G w (resH H q.up base q.new) (q.r base) v w' := by
  unfold boxR at h
  split at h
  · rename_i segs hz
    simp only [RM.eval, Option.some.injEq] at h
    subst h
    have hn : H base = none := by simpa using hb 0 (by simp)
    refine ⟨.pointer (some ⟨w.heap.size, 0, none⟩), w.alloc (.cells vx.cells t), ?_, ?_⟩
    · simp [Instr.box, newVar, newRow]; try rfl
    · simp only [resH_new]
      have := fresh_own hs hn (e := t) (segsQ_ok hz hd)
      simpa using this
  · cases h
end
end Go.Sx
