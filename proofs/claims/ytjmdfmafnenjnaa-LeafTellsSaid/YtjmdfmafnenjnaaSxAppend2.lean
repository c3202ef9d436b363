import Derived.Test.YtjmdfmafnenjnaaSxOver
/-! append, whole. -/
namespace Go.Sx
open Go

section
variable {ρ ρ' : Nat → Value} {H H' : AHeap} {G O O' : Nat → Prop} {w w' : World} {P : Program}

theorem conApp_typ {cs cs' : List CK} (xs : List (CL cs)) (ys : List (CL cs')) (p : Con → Prop) (h1 : ∀ e : cs' = cs, p (.typ cs (xs ++ e ▸ ys)))
    (h2 : p (.recs (CL.wide cs) (xs.length + ys.length) fun i j => bif i.blt xs.length then (Con.typ cs xs).cell i j else (Con.typ cs' ys).cell (i - xs.length) j)) : p (conApp (.typ cs xs) (.typ cs' ys)) := by
  simp only [conApp]
  split
  · rename_i h _
    exact h1 h.down
  · exact h2

theorem conApp_n (c d : Con) : (conApp c d).n = c.n + d.n := by
  by_cases ht : ∃ cs xs cs' ys, c = .typ cs xs ∧ d = .typ cs' ys
  · obtain ⟨cs, xs, cs', ys, rfl, rfl⟩ := ht
    refine conApp_typ xs ys (fun r => r.n = _) (fun e => ?_) rfl
    subst e
    simp [Con.n]
  cases c <;> cases d <;> first | (exact absurd ⟨_, _, _, _, rfl, rfl⟩ ht) | skip
  all_goals simp only [conApp, Con.n, List.length_append]
  rename_i k xs k' ys
  cases kindEq k k' <;> simp

theorem conApp_size (c d : Con) (h : d.size = c.size) : (conApp c d).size = c.size := by
  by_cases ht : ∃ cs xs cs' ys, c = .typ cs xs ∧ d = .typ cs' ys
  · obtain ⟨cs, xs, cs', ys, rfl, rfl⟩ := ht
    exact conApp_typ xs ys (fun r => r.size = _) (fun e => by subst e; rfl) rfl
  cases c <;> cases d <;> first | (exact absurd ⟨_, _, _, _, rfl, rfl⟩ ht) | skip
  all_goals simp only [conApp, Con.size] at h ⊢
  rename_i k xs k' ys
  cases kindEq k k' <;> rfl

theorem getD_app1 {α : Type} (xs ys : List α) (d : α) {i : Nat} (h : i < xs.length) : (xs ++ ys).getD i d = xs.getD i d := by
  simp [List.getD, List.getElem?_append_left h]
theorem getD_app2 {α : Type} (xs ys : List α) (d : α) {i : Nat} (h : ¬ i < xs.length) : (xs ++ ys).getD i d = ys.getD (i - xs.length) d := by
  simp [List.getD, List.getElem?_append_right (Nat.le_of_not_lt h)]
theorem blt_true {i n : Nat} (h : i < n) : i.blt n = true := by simpa [Nat.blt, Nat.lt_iff_add_one_le] using h
theorem blt_false {i n : Nat} (h : ¬ i < n) : i.blt n = false := by
  cases hb : i.blt n with
  | false => rfl
  | true => exact absurd (by simpa [Nat.blt, Nat.lt_iff_add_one_le] using hb) h

theorem conApp_cell1 (c d : Con) {i : Nat} (j : Nat) (h : i < c.n) : (conApp c d).cell i j = c.cell i j := by
  by_cases ht : ∃ cs xs cs' ys, c = .typ cs xs ∧ d = .typ cs' ys
  · obtain ⟨cs, xs, cs', ys, rfl, rfl⟩ := ht
    simp only [Con.n] at h
    refine conApp_typ xs ys (fun r => r.cell i j = _) (fun e => ?_) ?_
    · subst e
      simp only [Con.cell, getD_app1 _ _ _ h]
    · simp only [Con.cell, blt_true h, cond_true]
  cases c <;> cases d <;> first | (exact absurd ⟨_, _, _, _, rfl, rfl⟩ ht) | skip
  all_goals simp only [conApp, Con.cell, Con.n] at h ⊢
  all_goals first
    | (rw [getD_app1 _ _ _ h]; done)
    | (simp only [blt_true h, cond_true]; done)
    | (rename_i k xs k' ys
       cases hk : kindEq k k'
       · simp only [cond_false, blt_true h, cond_true]
       · simp only [cond_true, getD_app1 _ _ _ h])

theorem conApp_cell2 (c d : Con) {i : Nat} (j : Nat) (h : ¬ i < c.n) : (conApp c d).cell i j = d.cell (i - c.n) j := by
  by_cases ht : ∃ cs xs cs' ys, c = .typ cs xs ∧ d = .typ cs' ys
  · obtain ⟨cs, xs, cs', ys, rfl, rfl⟩ := ht
    simp only [Con.n] at h
    refine conApp_typ xs ys (fun r => r.cell i j = _) (fun e => ?_) ?_
    · subst e
      simp only [Con.cell, Con.n, getD_app2 _ _ _ h]
    · simp only [Con.cell, Con.n, blt_false h, cond_false]
  cases c <;> cases d <;> first | (exact absurd ⟨_, _, _, _, rfl, rfl⟩ ht) | skip
  all_goals simp only [conApp, Con.cell, Con.n] at h ⊢
  all_goals first
    | (rw [getD_app2 _ _ _ h]; done)
    | (simp only [blt_false h, cond_false]; done)
    | (rename_i k xs k' ys
       cases hk : kindEq k k'
       · simp only [cond_false, blt_false h]
       · obtain rfl := kindEq_eq hk
         simp only [cond_true, getD_app2 _ _ _ h])

theorem kill_step {id : Nat} {o : AObj} (ho : H id = some o) : Step ρ H (Hot ρ H G) w ρ (updH H id .dead) (Hot ρ (updH H id .dead) G) w := by
  refine ⟨fun _ _ _ => rfl, fun j x hx => ?_, fun b hb => ?_, fun _ _ _ => rfl, Nat.le_refl _⟩
  · by_cases hj : j = id
    · subst hj
      exact ⟨.dead, by simp [updH], by simp⟩
    · exact ⟨x, by simp [updH, hj, hx], fun c' e' hc => ⟨c', e', hc, rfl, rfl⟩⟩
  · rcases hb with ⟨j, x, hx, h1, h2⟩ | hb
    · by_cases hj : j = id
      · subst hj
        simp only [updH, if_true, Option.some.injEq] at hx
        subst hx
        simp [AObj.alive] at h1
      · exact .inl (.inl ⟨j, x, by simpa [updH, hj] using hx, h1, h2⟩)
    · exact .inl (.inr hb)

theorem own_kill {id : Nat} {b : Nat} (h : Own ρ (updH H id .dead) b) : Own ρ H b := by
  obtain ⟨j, x, hx, h1, h2⟩ := h
  by_cases hj : j = id
  · subst hj
    simp only [updH, if_true, Option.some.injEq] at hx
    subst hx
    simp [AObj.alive] at h1
  · exact ⟨j, x, by simpa [updH, hj] using hx, h1, h2⟩

theorem Sat.kill (hs : Sat ρ H G w) {id : Nat} {o : AObj} (ho : H id = some o) : Sat ρ (updH H id .dead) G w := by
  have st := kill_step (ρ := ρ) (G := G) (w := w) ho
  refine ⟨fun j x hx => ?_, fun i j oi oj b h1 h2 h3 h4 h5 h6 => ?_, fun b hb => hs.apart b (own_kill hb), hs.low⟩
  · by_cases hj : j = id
    · subst hj
      simp only [updH, if_true, Option.some.injEq] at hx
      subst hx
      trivial
    · exact (hs.obj j x (by simpa [updH, hj] using hx)).step st (fun _ _ _ => rfl)
  · have f : ∀ i oi, updH H id .dead i = some oi → oi.alive = true → H i = some oi := by
      intro i oi hi hal
      by_cases hi' : i = id
      · subst hi'
        simp only [updH, if_true, Option.some.injEq] at hi
        subst hi
        simp [AObj.alive] at hal
      · simpa [updH, hi'] using hi
    exact hs.inj i j oi oj b (f i oi h1 h3) (f j oj h2 h4) h3 h4 h5 h6

theorem Good.after {H1 H2 : AHeap} (hst : Step ρ H (Hot ρ H G) w ρ H1 (Hot ρ H1 G) w) (hown : ∀ b, Own ρ H1 b → Own ρ H b) {r : AV} {v : Value} (h : Good ρ H1 G w H2 r v w') : Good ρ H G w H2 r v w' := by
  obtain ⟨ρ', h1, h2, h3, h4⟩ := h
  exact ⟨ρ', h1, h2, hst.trans h3, h4.os, h4.tape, h4.output, fun b hb hO => h4.heap b hb (fun hx => hO (hown b hx))⟩

/-- A new name for a row without a block of its own. -/
theorem fresh_nob (hs : Sat ρ H G w) {n : Nat} (hn : H n = none) {c : Con} {e : TypeId} (h0 : c.n = 0) (a : Option Addr) :
    Good ρ H G w (updH H n (.vec c e)) (.vec n) (.slice a c.n 0) w := by
  have ne : ∀ j x, H j = some x → j ≠ n := fun j x hx e => by subst e; rw [hn] at hx; cases hx
  have hb : blk (.slice a c.n 0) = none := by cases a <;> simp [blk]
  have own' : ∀ b, Own (fun j => if j = n then .slice a c.n 0 else ρ j) (updH H n (.vec c e)) b → Own ρ H b := by
    rintro b ⟨j, x, hx, h1, h2⟩
    by_cases hj : j = n
    · subst hj; simp only [if_true] at h2; rw [hb] at h2; cases h2
    · simp only [updH, hj, if_false] at hx h2
      exact ⟨j, x, hx, h1, h2⟩
  have st : Step ρ H (Hot ρ H G) w (fun j => if j = n then .slice a c.n 0 else ρ j) (updH H n (.vec c e)) (Hot (fun j => if j = n then .slice a c.n 0 else ρ j) (updH H n (.vec c e)) G) w :=
    ⟨fun j x hx => by simp [ne j x hx], fun j x hx => ⟨x, by simp [updH, ne j x hx, hx], fun c' e' hc => ⟨c', e', hc, rfl, rfl⟩⟩, fun b hb => .inl (hb.imp (own' b) id), fun b hb _ => rfl, Nat.le_refl _⟩
  refine ⟨_, ⟨fun j x hx => ?_, fun i j oi oj b h1 h2 h3 h4 h5 h6 => ?_, fun b hb => hs.apart b (own' b hb), hs.low⟩, ?_, st, rfl, rfl, rfl, fun _ _ _ => rfl⟩
  · by_cases hj : j = n
    · subst hj
      simp only [updH, if_true, Option.some.injEq] at hx
      subst hx
      simp only [if_true]
      exact ⟨a, 0, rfl, by omega, by simp [maxLen], .inl rfl⟩
    · have hx' : H j = some x := by simpa [updH, hj] using hx
      simp only [hj, if_false]
      exact (hs.obj j x hx').step st (fun _ _ _ => rfl)
  · by_cases hi : i = n
    · subst hi; simp only [if_true] at h5; rw [hb] at h5; cases h5
    · by_cases hj : j = n
      · subst hj; simp only [if_true] at h6; rw [hb] at h6; cases h6
      · simp only [updH, hi, hj, if_false] at h1 h2 h5 h6
        exact hs.inj i j oi oj b h1 h2 h3 h4 h5 h6
  · unfold DenV Den1
    exact ⟨rfl, .vec c e, by simp [updH], fun c' e' hc => by simp⟩

/-- A row that takes over an own row's block. -/
theorem adopt (hs : Sat ρ H G w) {id n : Nat} {o : AObj} (ho : H id = some o) (ha : o.alive = true) (hn : H n = none) {b f : Nat} (hb : blk (ρ id) = some b) {c : Con} {e : TypeId} {cap : Nat} {cells : List Value} {fr : Nat × Nat} {old : Obj}
    (hold : w.heap[b]? = some old) (hu : unm fr cells.length) (h1 : c.n ≤ cap) (h2 : cap ≤ maxLen) (h3 : f + cap * c.size ≤ cells.length) (us : Nat → Nat → Value)
    (hd : ∀ i j, i < c.n → j < c.size → cells[f + i * c.size + j]? = some (us i j) ∧ DenS (Hot ρ H G) w (c.cell i j) (us i j)) :
    Good ρ H G w (updH (updH H id .dead) n (.vec c e)) (.vec n) (.slice (some ⟨b, f, none⟩) c.n cap) (World.setBlk w b (.cells cells.toArray e fr)) := by
  have ne : ∀ j x, H j = some x → j ≠ n := fun j x hx e => by subst e; rw [hn] at hx; cases hx
  have hidn : id ≠ n := ne id o ho
  have hown : Own ρ H b := ⟨id, o, ho, ha, hb⟩
  have hblk : ∀ b', blk (.slice (some ⟨b, f, none⟩) c.n cap) = some b' → b' = b := by
    intro b' hb'
    simp only [blk] at hb'
    split at hb'
    · cases hb'
    · simpa using hb'.symm
  have own' : ∀ b', Own (fun j => if j = n then .slice (some ⟨b, f, none⟩) c.n cap else ρ j) (updH (updH H id .dead) n (.vec c e)) b' → Own ρ H b' := by
    rintro b' ⟨j, x, hx, g1, g2⟩
    by_cases hj : j = n
    · subst hj
      simp only [if_true] at g2
      rw [hblk b' g2]
      exact hown
    · by_cases hi : j = id
      · subst hi
        simp only [updH, hj, if_false, if_true, Option.some.injEq] at hx
        subst hx
        simp [AObj.alive] at g1
      · simp only [updH, hj, hi, if_false] at hx g2
        exact ⟨j, x, hx, g1, g2⟩
  have st : Step ρ H (Hot ρ H G) w (fun j => if j = n then .slice (some ⟨b, f, none⟩) c.n cap else ρ j) (updH (updH H id .dead) n (.vec c e)) (Hot (fun j => if j = n then .slice (some ⟨b, f, none⟩) c.n cap else ρ j) (updH (updH H id .dead) n (.vec c e)) G) (World.setBlk w b (.cells cells.toArray e fr)) := by
    refine ⟨fun j x hx => by simp [ne j x hx], fun j x hx => ?_, fun b' hb' => .inl (hb'.imp (own' b') _root_.id), fun b' hb' hO => setBlk_ne (fun e => hO (.inl (by subst e; exact hown))), by rw [setBlk_size]; exact Nat.le_refl _⟩
    by_cases hi : j = id
    · subst hi
      exact ⟨.dead, by simp [updH, hidn], by simp⟩
    · exact ⟨x, by simp [updH, ne j x hx, hi, hx], fun c' e' hc => ⟨c', e', hc, rfl, rfl⟩⟩
  refine ⟨_, ⟨fun j x hx => ?_, fun i j oi oj b' g1 g2 g3 g4 g5 g6 => ?_, fun b' hb' => hs.apart b' (own' b' hb'), fun b' hb' => by rw [setBlk_size]; exact hs.low b' hb'⟩, ?_, st, rfl, rfl, rfl, fun b' hb' hO => setBlk_ne (fun e => hO (by subst e; exact hown))⟩
  · by_cases hj : j = n
    · subst hj
      simp only [updH, if_true, Option.some.injEq] at hx
      subst hx
      simp only [if_true]
      refine ⟨_, cap, rfl, h1, h2, .inr ⟨b, f, cells, fr, us, rfl, setBlk_get hold, hu, h3, fun i j hi hj => ?_⟩⟩
      obtain ⟨k1, k2⟩ := hd i j hi hj
      exact ⟨k1, k2.step st.hot st.heap st.size⟩
    · by_cases hi : j = id
      · subst hi
        simp only [updH, hj, if_false, if_true, Option.some.injEq] at hx
        subst hx
        trivial
      · have hx' : H j = some x := by simpa [updH, hj, hi] using hx
        simp only [hj, if_false]
        refine (hs.obj j x hx').step st (fun b' hal hb' => setBlk_ne (fun e => hi ?_))
        subst e
        exact hs.inj j id x o b' hx' ho hal ha hb' hb
  · have f' : ∀ i oi, updH (updH H id .dead) n (.vec c e) i = some oi → oi.alive = true → i ≠ n → i ≠ id ∧ H i = some oi := by
      intro i oi hi hal hne
      by_cases hi' : i = id
      · subst hi'
        simp only [updH, hne, if_false, if_true, Option.some.injEq] at hi
        subst hi
        simp [AObj.alive] at hal
      · exact ⟨hi', by simpa [updH, hne, hi'] using hi⟩
    by_cases hi : i = n <;> by_cases hj : j = n
    · rw [hi, hj]
    · obtain ⟨k1, k2⟩ := f' j oj g2 g4 hj
      simp only [hi, hj, if_true, if_false] at g5 g6
      have := hblk b' g5
      subst this
      exact absurd (hs.inj j id oj o b' k2 ho g4 ha g6 hb) k1
    · obtain ⟨k1, k2⟩ := f' i oi g1 g3 hi
      simp only [hi, hj, if_true, if_false] at g5 g6
      have := hblk b' g6
      subst this
      exact absurd (hs.inj i id oi o b' k2 ho g3 ha g5 hb) k1
    · simp only [hi, hj, if_false] at g5 g6
      exact hs.inj i j oi oj b' (f' i oi g1 g3 hi).2 (f' j oj g2 g4 hj).2 g3 g4 g5 g6
  · unfold DenV Den1
    exact ⟨rfl, .vec c e, by simp [updH], fun c' e' hc => by simp⟩

/-- The two ways of an append. -/
theorem run_append_in {t t' ty e : TypeId} {i : TypeInfo} {a : Option Addr} {n cap m : Nat} {vy : Value} {news : List Value}
    (ht : P.underlying t = some (.slice e)) (hi : P.info? e = some i) (hzero : (∃ e', P.underlying t' = some (.slice e')) ∨ P.underlying t' = some .string)
    (hlen : (Builtin.lenOf vy).run P w = .ok m w) (hfirst : (Builtin.firstCells i.size m vy).run P w = .ok news.toArray w) (hfit : n + m ≤ cap)
    (hst : ∀ x, a = some x → (storeCells (x.add (n * i.size)) news 0).run P w = .ok () w') (hno : a = none → w' = w) :
    (Builtin.append_ #[t, t'] ty #[.slice a n cap, vy]).run P w = .ok (.slice a (n + m) cap) w' := by
  rcases hzero with ⟨e', hd⟩ | hd <;> cases a with
  | none =>
    rw [hno rfl]
    simp [Builtin.append_, run_underlying ht, run_underlying hd, sizeOf, typeInfo, hi, hlen, hfit, hfirst]
  | some x =>
    have := hst x rfl
    simp [Builtin.append_, run_underlying ht, run_underlying hd, sizeOf, typeInfo, hi, hlen, hfit, hfirst, this]

theorem run_append_new {t t' ty e : TypeId} {i : TypeInfo} {z : Value} {a : Option Addr} {n cap m : Nat} {vy : Value} {olds news : List Value}
    (ht : P.underlying t = some (.slice e)) (hi : P.info? e = some i) (hz : i.zero = some z) (hzero : (∃ e', P.underlying t' = some (.slice e')) ∨ P.underlying t' = some .string)
    (hlen : (Builtin.lenOf vy).run P w = .ok m w) (hold : (Builtin.firstCells i.size n (.slice a n cap)).run P w.drew = .ok olds.toArray w.drew) (hfirst : (Builtin.firstCells i.size m vy).run P w.drew = .ok news.toArray w.drew) (hfit : ¬ n + m ≤ cap)
    (hsm : n + m ≤ 4294967296) (hby : i.bytes ≤ 256) :
    ∃ ncap, n + m ≤ ncap ∧ ncap ≤ maxLen ∧ (Builtin.append_ #[t, t'] ty #[.slice a n cap, vy]).run P w =
      .ok (.slice (some ⟨w.heap.size, 0, none⟩) (n + m) ncap) (w.drew.alloc (.cells (olds ++ news ++ (Builtin.zeroCells z.cells (ncap - (n + m))).toList).toArray e)) := by
  refine ⟨grownCap w (n + m) cap e, grownCap_ge w _ _ _, grownCap_le_maxLen w _ _ _ (by simp only [maxLen]; omega), ?_⟩
  have hbig : ¬ (281474976710656 < Builtin.nextslicecap (n + m) cap * i.bytes) := by
    have h1 := nextslicecap_le (need := n + m) (old := cap) (by omega)
    have h2 : Builtin.nextslicecap (n + m) cap * i.bytes ≤ (2 * (n + m) + 192) * 256 := Nat.mul_le_mul h1 hby
    omega
  have hmax : ¬ (9223372036854775807 < (n : Int) + (m : Int)) := by omega
  have happ : ∀ X : Array Value, olds.toArray ++ (news.toArray ++ X) = (olds ++ (news ++ X.toList)).toArray := fun X => by
    apply Array.toList_inj.1
    simp
  have hq : ¬ ((Question.appendCap (n + m) cap e).forced = true) := by simp [Question.forced]
  rcases hzero with ⟨e', hd⟩ | hd
  · simp [Builtin.append_, run_underlying ht, run_underlying hd, sizeOf, typeInfo, hi, hlen, hfit, hmax, hbig, hold, hfirst, zeroValue, hz, newRow]
    rw [if_neg hq, happ]
    rfl
  · simp [Builtin.append_, run_underlying ht, run_underlying hd, sizeOf, typeInfo, hi, hlen, hfit, hmax, hbig, hold, hfirst, zeroValue, hz, newRow]
    rw [if_neg hq, happ]
    rfl

theorem vec_row (hs : Sat ρ H G w) {id : Nat} {c : Con} {e : TypeId} (ho : H id = some (.vec c e)) : RowVal (Hot ρ H G) w c (ρ id) := by
  obtain ⟨a, cap, h1, h2, h3, h4⟩ := hs.obj id _ ho
  rcases h4 with rfl | ⟨b, o, cells, fr, us, rfl, h5, h6, h7, h8⟩
  · exact ⟨a, 0, fun _ _ => undef, h1, h2, h3, fun h0 => by omega⟩
  · refine ⟨_, cap, us, h1, h2, h3, fun _ => ⟨b, o, rfl, (Array.getElem?_eq_some_iff.1 h5).1, fun i j hi hj => ?_⟩⟩
    obtain ⟨h9, h10⟩ := h8 i j hi hj
    exact ⟨by rw [cell_of_blk h5]; exact h9, h10⟩

theorem srcOf_ok {sh : Shape} {size : Nat} {x : AV} {k : Con → Option Nat → RM Res} {v : Value} {q : Res} (h : (srcOf sh size x k).eval H = some q) (hs : Sat ρ H G w) (hd : DenV ρ H (Hot ρ H G) w x v) (h1 : 1 ≤ size) :
    ∃ c idy, (k c idy).eval H = some q ∧ (c.size = size → ∃ news, Src P (Hot ρ H G) w size c v news) := by
  unfold srcOf at h
  split at h
  · rename_i s
    obtain rfl := str_den hd
    refine ⟨_, _, h, fun hsz => ?_⟩
    simp only [Con.size] at hsz
    subst hsz
    exact str_src
  · obtain ⟨c, idy, h2, h3⟩ := rowOf_ok h hs hd
    exact ⟨c, idy, h2, fun hsz => row_src h3 hsz h1⟩

/-- Cells of both rows, one behind the other. -/
theorem app_cells {c d : Con} {size : Nat} {olds news rest : List Value} (hc : c.size = size) (hdz : d.size = size) (_h1 : 1 ≤ size) (ho : olds.length = c.n * size) (_hn : news.length = d.n * size)
    (h2 : ∀ i j, i < c.n → j < size → ∃ u, olds[i * size + j]? = some u ∧ DenS O w (c.cell i j) u) (h3 : ∀ i j, i < d.n → j < size → ∃ u, news[i * size + j]? = some u ∧ DenS O w (d.cell i j) u) (pre : List Value) :
    ∀ i j, i < (conApp c d).n → j < (conApp c d).size → (pre ++ (olds ++ news ++ rest))[pre.length + i * (conApp c d).size + j]? = some ((pre ++ (olds ++ news ++ rest)).getD (pre.length + i * (conApp c d).size + j) undef) ∧
      DenS O w ((conApp c d).cell i j) ((pre ++ (olds ++ news ++ rest)).getD (pre.length + i * (conApp c d).size + j) undef) := by
  intro i j hi hj
  have hsz : (conApp c d).size = size := by rw [conApp_size c d (by omega), hc]
  rw [conApp_n] at hi
  rw [hsz] at hj ⊢
  have key : ∃ u, (pre ++ (olds ++ news ++ rest))[pre.length + i * size + j]? = some u ∧ DenS O w ((conApp c d).cell i j) u := by
    rw [Nat.add_assoc, List.getElem?_append_right (by omega), Nat.add_sub_cancel_left, List.append_assoc]
    by_cases hlt : i < c.n
    · obtain ⟨u, g1, g2⟩ := h2 i j hlt hj
      refine ⟨u, ?_, by rw [conApp_cell1 c d j hlt]; exact g2⟩
      rw [List.getElem?_append_left (List.getElem?_eq_some_iff.1 g1).1]
      exact g1
    · obtain ⟨u, g1, g2⟩ := h3 (i - c.n) j (by omega) hj
      refine ⟨u, ?_, by rw [conApp_cell2 c d j hlt]; exact g2⟩
      have hm : c.n * size + (i - c.n) * size = i * size := by rw [← Nat.add_mul]; congr 1; omega
      rw [List.getElem?_append_right (by omega)]
      rw [show i * size + j - olds.length = (i - c.n) * size + j from by omega]
      rw [List.getElem?_append_left (List.getElem?_eq_some_iff.1 g1).1]
      exact g1
  obtain ⟨u, g1, g2⟩ := key
  have hlt := (List.getElem?_eq_some_iff.1 g1).1
  have g1' := g1
  rw [get_getD _ _ undef hlt] at g1'
  simp only [Option.some.injEq] at g1'
  exact ⟨get_getD _ _ _ hlt, by rw [g1']; exact g2⟩

theorem appendR_ok {t t' ty : TypeId} {x y : AV} {vx vy : Value} {q : Res} (h : (appendR P t x y).eval H = some q) (hn : Needs q.need) (hs : Sat ρ H G w)
    (hx : DenV ρ H (Hot ρ H G) w x vx) (hy : DenV ρ H (Hot ρ H G) w y vy) (hzero : (∃ e', P.underlying t' = some (.slice e')) ∨ P.underlying t' = some .string) {base : Nat} (hb : ∀ i, i < q.new.length → H (base + i) = none) :
    ∃ v w', (Builtin.append_ #[t, t'] ty #[vx, vy]).run P w = .ok v w' ∧ Good ρ H G w (resH H q.up base q.new) (q.r base) v w' := by
  unfold appendR at h
  split at h
  · rename_i e ht
    split at h
    · rename_i i hi
      simp only [] at h
      rw [Bool.cond_eq_ite] at h
      split at h
      · rename_i hc
        simp only [Bool.and_eq_true] at hc
        obtain ⟨⟨c1, c2⟩, c3⟩ := hc
        have c1 := Nat.le_of_ble_eq_true c1
        have c2 := Nat.le_of_ble_eq_true c2
        obtain ⟨z, hz, hzs⟩ : ∃ z, i.zero = some z ∧ z.cells.size = i.size := by
          cases hz : i.zero with
          | none => simp [hz] at c3
          | some z => exact ⟨z, rfl, by simpa [hz] using c3⟩
        obtain ⟨d, idy, h1, hsrc⟩ := srcOf_ok (P := P) h hs hy c1
        rw [Bool.cond_eq_ite] at h1
        split at h1
        · rename_i hds
          have hds : d.size = i.size := by simpa using hds
          obtain ⟨news, src⟩ := hsrc hds
          split at h1
          · -- emp
            simp only [RM.eval, Option.some.injEq] at h1
            subst h1
            have hnone : H base = none := by simpa using hb 0 (by simp)
            have hsm : d.n ≤ 4294967296 := hn.1
            unfold DenV at hx
            obtain ⟨a, rfl⟩ := hx
            simp only [resH_new]
            by_cases hm : d.n = 0
            · have hnews : news = [] := List.eq_nil_of_length_eq_zero (by rw [src.length, hm]; simp)
              refine ⟨.slice a (0 + d.n) 0, w, run_append_in ht hi hzero src.len (src.first w rfl) (by omega) (fun x _ => by rw [hnews]; rfl) (fun _ => rfl), ?_⟩
              rw [Nat.zero_add]
              exact fresh_nob hs hnone hm a
            · obtain ⟨ncap, g1, g2, g3⟩ := run_append_new (ty := ty) (olds := []) (a := a) (n := 0) (cap := 0) ht hi hz hzero src.len (by cases a <;> simp [Builtin.firstCells, loadCells, loadCellsFrom]) (src.first w.drew rfl) (by omega) (by omega) c2
              refine ⟨_, _, g3, ?_⟩
              rw [Nat.zero_add] at *
              simp only [List.nil_append]
              refine fresh_vec (w1 := w.drew) hs rfl rfl rfl rfl hnone g1 g2 ?_ (fun i' j' => (news ++ (Builtin.zeroCells z.cells (ncap - d.n)).toList).getD (i' * d.size + j') undef) (fun i' j' hi' hj' => ?_)
              · simp only [List.length_append, src.length, Array.length_toList, size_zeroCells, hzs, hds]
                rw [← Nat.add_mul]
                exact Nat.mul_le_mul_right _ (by omega)
              · obtain ⟨u, k1, k2⟩ := src.den i' j' hi' (by omega)
                rw [← hds] at k1
                have hlt := (List.getElem?_eq_some_iff.1 k1).1
                have k3 : (news ++ (Builtin.zeroCells z.cells (ncap - d.n)).toList)[i' * d.size + j']? = some u := by rw [List.getElem?_append_left hlt]; exact k1
                have k4 := k3
                rw [get_getD _ _ undef (List.getElem?_eq_some_iff.1 k3).1] at k4
                simp only [Option.some.injEq] at k4
                rw [k4]
                exact ⟨k3, k2⟩
          · -- vec
            rename_i idx
            simp only [RM.eval] at h1
            split at h1
            · rename_i c e' ho
              rw [Bool.cond_eq_ite] at h1
              split at h1
              · rename_i hc
                simp only [Bool.and_eq_true, Nat.beq_eq] at hc
                obtain ⟨⟨hcs, rfl⟩, _⟩ := hc
                simp only [RM.eval, Option.some.injEq] at h1
                subst h1
                have hnone : H base = none := by simpa using hb 0 (by simp)
                have hsm : c.n + d.n ≤ 4294967296 := hn.1
                have hidx : idx ≠ base := fun e => by rw [← e, ho] at hnone; cases hnone
                unfold DenV Den1 at hx
                obtain ⟨_, o, ho', hv⟩ := hx
                rw [ho] at ho'
                cases ho'
                obtain rfl := hv c e' rfl
                obtain ⟨olds, osrc⟩ := row_src (P := P) (vec_row hs ho) hcs c1
                obtain ⟨a, cap, r1, r2, r3, r4⟩ := hs.obj idx _ ho
                have hcd : d.size = c.size := by omega
                have hasz := conApp_size c d hcd
                have han := conApp_n c d
                have hmul : (c.n + d.n) * i.size = c.n * i.size + d.n * i.size := Nat.add_mul _ _ _
                simp only [resH_both _ _ _ _ hidx]
                by_cases hfit : c.n + d.n ≤ cap
                · rcases r4 with rfl | ⟨b, o, cells, fr, us, rfl, q1, q2, q3, q4⟩
                  · -- nothing at all
                    have hd0 : d.n = 0 := by omega
                    have hnews : news = [] := List.eq_nil_of_length_eq_zero (by rw [src.length, hd0]; simp)
                    refine ⟨.slice a (c.n + d.n) 0, w, by rw [r1]; exact run_append_in ht hi hzero src.len (src.first w rfl) hfit (fun x _ => by rw [hnews]; rfl) (fun _ => rfl), ?_⟩
                    have st := kill_step (ρ := ρ) (G := G) (w := w) ho
                    refine Good.after st (fun b hb => own_kill hb) ?_
                    rw [← han]
                    exact fresh_nob (hs.kill ho) (by simp [updH, Ne.symm hidx, hnone]) (by omega) a
                  · by_cases hcap : cap = 0
                    · subst hcap
                      have hd0 : d.n = 0 := by omega
                      have hnews : news = [] := List.eq_nil_of_length_eq_zero (by rw [src.length, hd0]; simp)
                      refine ⟨.slice (some ⟨b, o, none⟩) (c.n + d.n) 0, w, by rw [r1]; exact run_append_in ht hi hzero src.len (src.first w rfl) hfit (fun x _ => by rw [hnews]; rfl) (fun _ => rfl), ?_⟩
                      have st := kill_step (ρ := ρ) (G := G) (w := w) ho
                      refine Good.after st (fun b hb => own_kill hb) ?_
                      rw [← han]
                      exact fresh_nob (hs.kill ho) (by simp [updH, Ne.symm hidx, hnone]) (by omega) _
                    · have hbk : blk (ρ idx) = some b := by rw [r1]; simp [blk, hcap]
                      have hcap' : (c.n + d.n) * i.size ≤ cap * i.size := Nat.mul_le_mul_right _ hfit
                      have hlen : o + c.n * i.size + news.length ≤ cells.length := by rw [src.length]; rw [hcs] at q3; omega
                      refine ⟨.slice (some ⟨b, o, none⟩) (c.n + d.n) cap, World.setBlk w b (.cells (cells.take (o + c.n * i.size) ++ news ++ cells.drop (o + c.n * i.size + news.length)).toArray e' fr), ?_, ?_⟩
                      · rw [r1]
                        refine run_append_in ht hi hzero src.len (src.first w rfl) hfit (fun x hx => ?_) (fun hx => by cases hx)
                        cases hx
                        rw [add_zero_spot]
                        have := run_storeCells_blk (P := P) (o + c.n * i.size) news 0 q1 q2 (by omega) src.one
                        simpa using this
                      · rw [← han]
                        have hl2 : (cells.take (o + c.n * i.size) ++ news ++ cells.drop (o + c.n * i.size + news.length)).length = cells.length := by
                          simp only [List.length_append, List.length_take, List.length_drop]; omega
                        have hsplit : cells.take (o + c.n * i.size) ++ news ++ cells.drop (o + c.n * i.size + news.length) = cells.take o ++ ((cells.drop o).take (c.n * i.size) ++ news ++ cells.drop (o + c.n * i.size + news.length)) := by
                          rw [List.take_add]
                          simp only [List.append_assoc]
                        have hto : (cells.take o).length = o := by simp; omega
                        refine adopt hs ho rfl hnone hbk q1 (by rw [hl2]; exact q2) (by omega) r3 (by rw [hl2, hasz]; exact q3) (fun i' j' => (cells.take o ++ ((cells.drop o).take (c.n * i.size) ++ news ++ cells.drop (o + c.n * i.size + news.length))).getD ((cells.take o).length + i' * (conApp c d).size + j') undef) (fun i' j' hi' hj' => ?_)
                        have := app_cells (O := Hot ρ H G) (w := w) (c := c) (d := d) (size := i.size) (olds := (cells.drop o).take (c.n * i.size)) (news := news) (rest := cells.drop (o + c.n * i.size + news.length)) hcs hds c1 (by simp; omega) src.length (fun i2 j2 hi2 hj2 => by
                          obtain ⟨k1, k2⟩ := q4 i2 j2 hi2 (by omega)
                          refine ⟨_, ?_, k2⟩
                          have hb2 : i2 * i.size + j2 < c.n * i.size := by
                            have : (i2 + 1) * i.size ≤ c.n * i.size := Nat.mul_le_mul_right _ (by omega)
                            rw [Nat.succ_mul] at this
                            omega
                          rw [List.getElem?_take, if_pos hb2, List.getElem?_drop, ← Nat.add_assoc]
                          rw [hcs] at k1
                          exact k1) src.den (cells.take o) i' j' hi' hj'
                        rw [hsplit]
                        rw [hto] at this ⊢
                        exact this
                · obtain ⟨ncap, g1, g2, g3⟩ := run_append_new (ty := ty) (olds := olds) (a := a) (n := c.n) (cap := cap) ht hi hz hzero src.len (by rw [← r1]; exact osrc.first w.drew rfl) (src.first w.drew rfl) hfit hsm c2
                  refine ⟨_, _, by rw [r1]; exact g3, ?_⟩
                  have st := kill_step (ρ := ρ) (G := G) (w := w) ho
                  refine Good.after st (fun b hb => own_kill hb) ?_
                  rw [← han]
                  refine fresh_vec (w1 := w.drew) (hs.kill ho) rfl rfl rfl rfl (by simp [updH, Ne.symm hidx, hnone]) (by omega) g2 ?_ (fun i' j' => (olds ++ news ++ (Builtin.zeroCells z.cells (ncap - (conApp c d).n)).toList).getD (i' * (conApp c d).size + j') undef) (fun i' j' hi' hj' => ?_)
                  · simp only [List.length_append, src.length, osrc.length, Array.length_toList, size_zeroCells, hzs, hasz, hcs, han]
                    rw [← Nat.add_mul, ← Nat.add_mul]
                    exact Nat.mul_le_mul_right _ (by omega)
                  · have := app_cells (O := Hot ρ H G) (w := w) (c := c) (d := d) (size := i.size) (olds := olds) (news := news) (rest := (Builtin.zeroCells z.cells (ncap - (conApp c d).n)).toList) hcs hds c1 osrc.length src.length osrc.den src.den [] i' j' hi' hj'
                    simp only [List.nil_append, List.length_nil, Nat.zero_add] at this
                    exact ⟨this.1, this.2.step st.hot st.heap st.size⟩
              · cases h1
            · cases h1
          · -- part
            rename_i idx lo n
            simp only [RM.eval] at h1
            split at h1
            · rename_i c e' ho
              rw [Bool.cond_eq_ite] at h1
              split at h1
              · rename_i hcs
                have hcs : c.size = i.size := by simpa using hcs
                simp only [RM.eval, Option.some.injEq] at h1
                subst h1
                have hfit : lo + n + d.n ≤ c.n := hn.1
                obtain ⟨g0, a, cap, a', g1, g2, g3, rfl, g4, g5⟩ := part_val hs ho hx
                obtain ⟨w', k1, k2, k3⟩ := vec_over (P := P) hs ho (lo := lo + n) (k := d.n) (d := d) hfit (Nat.le_refl _) (by omega) (news := news) (by rw [src.length, hcs]) src.one (fun i' j' hi' hj' => by rw [hcs] at *; exact src.den i' j' hi' hj')
                obtain ⟨z1, z2, _⟩ := conCopy_all c d hfit (Nat.le_refl _)
                refine ⟨.slice a' (n + d.n) (cap - lo), w', run_append_in ht hi hzero src.len (src.first w rfl) (by omega) (fun x hx => ?_) (fun hx => ?_), ?_⟩
                · refine k1 a cap _ g1 ?_
                  by_cases h0 : d.n = 0
                  · exact .inl h0
                  · refine .inr ?_
                    have hne : cap ≠ lo := by omega
                    rw [g4 hne] at hx
                    obtain ⟨b, o, rfl⟩ := g5 (by omega)
                    simp only [Option.map_some, add_zero_spot, Option.some.injEq] at hx ⊢
                    subst hx
                    rw [add_zero_spot, hcs, Nat.add_mul, Nat.add_assoc]
                · refine k2 ?_
                  by_cases hne : cap = lo
                  · omega
                  · rw [g4 hne] at hx
                    obtain ⟨b, o, rfl⟩ := g5 (by omega)
                    cases hx
                · simp only [resH_up]
                  refine k3 _ _ (fun w2 => ?_)
                  unfold DenV Den1
                  refine ⟨rfl, .vec (conCopy c (lo + n) d.n d) e', by simp [updH], fun c1 e1 hc => ?_⟩
                  cases hc
                  exact ⟨by rw [z1]; omega, a, cap, a', by rw [z1]; exact g1, by omega, rfl, by rw [z2]; exact g4⟩
              · cases h1
            · cases h1
          · cases h1
        · cases h1
      · cases h
    · cases h
  · cases h
end
end Go.Sx
