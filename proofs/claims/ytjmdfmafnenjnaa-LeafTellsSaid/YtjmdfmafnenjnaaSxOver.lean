import Derived.Test.YtjmdfmafnenjnaaSxAppend
/-! Parts of own rows: written over, cleared; rows that are made. -/
namespace Go.Sx
open Go

section
variable {ρ ρ' : Nat → Value} {H H' : AHeap} {G O O' : Nat → Prop} {w w' : World} {P : Program}

theorem over_length {α : Type} (xs ys : List α) {lo k : Nat} (h : lo + k ≤ xs.length) (hk : k ≤ ys.length) : (over xs lo k ys).length = xs.length := by
  simp only [over, List.length_append, List.length_take, List.length_drop]; omega

theorem over_getD {α : Type} (xs ys : List α) (d : α) {lo k : Nat} (h : lo + k ≤ xs.length) (hk : k ≤ ys.length) (i : Nat) :
    (over xs lo k ys).getD i d = if lo ≤ i ∧ i < lo + k then ys.getD (i - lo) d else xs.getD i d := by
  have hto : (xs.take lo).length = lo := by simp; omega
  have hty : (ys.take k).length = k := by simp; omega
  simp only [over, List.getD]
  by_cases h1 : i < lo
  · rw [if_neg (by omega), List.append_assoc, List.getElem?_append_left (by omega), List.getElem?_take, if_pos h1]
  · by_cases h2 : i < lo + k
    · rw [if_pos (by omega), List.append_assoc, List.getElem?_append_right (by omega), hto, List.getElem?_append_left (by omega), List.getElem?_take, if_pos (by omega)]
    · rw [if_neg (by omega), List.append_assoc, List.getElem?_append_right (by omega), hto, List.getElem?_append_right (by omega), hty, List.getElem?_drop]
      congr 2
      omega

theorem cond_over {α : Type} {lo i k : Nat} {a b : α} : (bif lo.ble i && i.blt (lo + k) then a else b) = if lo ≤ i ∧ i < lo + k then a else b := by
  rw [Bool.cond_eq_ite]
  congr 1
  simp [Nat.blt, Nat.lt_iff_add_one_le, Nat.ble_eq]

theorem conCopy_typ {cs cs' : List CK} (xs : List (CL cs)) (ys : List (CL cs')) (lo k : Nat) (p : Con → Prop) (h1 : ∀ e : cs' = cs, p (.typ cs (over xs lo k (e ▸ ys))))
    (h2 : p (.recs (CL.wide cs) xs.length fun i j => bif lo.ble i && i.blt (lo + k) then (Con.typ cs' ys).cell (i - lo) j else (Con.typ cs xs).cell i j)) : p (conCopy (.typ cs xs) lo k (.typ cs' ys)) := by
  simp only [conCopy]
  split
  · rename_i h _; exact h1 h.down
  · exact h2

/-- What a row is, over which another one's elements were written. -/
theorem conCopy_all (c d : Con) {lo k : Nat} (h : lo + k ≤ c.n) (hk : k ≤ d.n) :
    (conCopy c lo k d).n = c.n ∧ (conCopy c lo k d).size = c.size ∧ ∀ i j, i < c.n → (conCopy c lo k d).cell i j = if lo ≤ i ∧ i < lo + k then d.cell (i - lo) j else c.cell i j := by
  have other : ∀ c' : Con, c' = .recs c.size c.n (fun i j => bif lo.ble i && i.blt (lo + k) then d.cell (i - lo) j else c.cell i j) →
      c'.n = c.n ∧ c'.size = c.size ∧ ∀ i j, i < c.n → c'.cell i j = if lo ≤ i ∧ i < lo + k then d.cell (i - lo) j else c.cell i j := by
    rintro c' rfl
    exact ⟨rfl, rfl, fun i j _ => cond_over⟩
  cases c <;> cases d
  case ints.ints k1 xs k2 ys =>
    simp only [conCopy]
    cases hkk : kindEq k1 k2
    · exact other _ rfl
    · obtain rfl := kindEq_eq hkk
      simp only [Con.n] at h hk
      refine ⟨over_length xs ys h hk, rfl, fun i j _ => ?_⟩
      simp only [Con.cell, over_getD xs ys _ h hk, cond_true]
      split <;> rfl
  case strs.strs xs ys =>
    simp only [Con.n] at h hk
    refine ⟨over_length xs ys h hk, rfl, fun i j _ => ?_⟩
    simp only [conCopy, Con.cell, over_getD xs ys _ h hk]
    split <;> rfl
  case bools.bools xs ys =>
    simp only [Con.n] at h hk
    refine ⟨over_length xs ys h hk, rfl, fun i j _ => ?_⟩
    simp only [conCopy, Con.cell, over_getD xs ys _ h hk]
    split <;> rfl
  case typ.typ cs xs cs' ys =>
    simp only [Con.n] at h hk
    refine conCopy_typ xs ys lo k (fun c' => c'.n = (Con.typ cs xs).n ∧ c'.size = (Con.typ cs xs).size ∧ ∀ i j, i < (Con.typ cs xs).n → c'.cell i j = if lo ≤ i ∧ i < lo + k then (Con.typ cs' ys).cell (i - lo) j else (Con.typ cs xs).cell i j) ?_ (other _ rfl)
    rintro rfl
    refine ⟨over_length xs ys h hk, rfl, fun i j _ => ?_⟩
    simp only [Con.cell, over_getD xs ys _ h hk]
    split <;> rfl
  all_goals exact other _ rfl

/-- An own object is told in other words; the world stands. -/
theorem Good.upd (hs : Sat ρ H G w) {id : Nat} {o o' : AObj} (ho : H id = some o) (ha : o.alive = o'.alive)
    (hvec : ∀ c' e', o' = .vec c' e' → ∃ c e, o = .vec c e ∧ c'.n = c.n ∧ c'.size = c.size) {r : AV} {v : Value}
    (hobj : ObjSat ρ (updH H id o') (Hot ρ H G) w (ρ id) o') (hr : DenV ρ (updH H id o') (Hot ρ H G) w r v) : Good ρ H G w (updH H id o') r v w := by
  have hh := Hot_upd (ρ := ρ) (G := G) ho ha
  have st : Step ρ H (Hot ρ H G) w ρ (updH H id o') (Hot ρ (updH H id o') G) w := by
    refine ⟨fun _ _ _ => rfl, fun j x hx => ?_, fun c hc => .inl (by rw [hh] at hc; exact hc), fun c hc hO => rfl, Nat.le_refl _⟩
    by_cases hj : j = id
    · subst hj
      rw [ho] at hx
      cases hx
      exact ⟨o', by simp [updH], hvec⟩
    · exact ⟨x, by simp [updH, hj, hx], fun c' e' hc => ⟨c', e', hc, rfl, rfl⟩⟩
  refine ⟨ρ, ⟨fun j x hx => ?_, fun i j oi oj c h1 h2 h3 h4 h5 h6 => ?_, fun c hc => ?_, hs.low⟩, by rw [hh]; exact hr, st, ⟨rfl, rfl, rfl, fun _ _ _ => rfl⟩⟩
  · by_cases hj : j = id
    · subst hj
      simp only [updH, if_true, Option.some.injEq] at hx
      subst hx
      rw [hh]
      exact hobj
    · have hx' : H j = some x := by simpa [updH, hj] using hx
      exact (hs.obj j x hx').step st (fun _ _ _ => rfl)
  · have f : ∀ i oi, updH H id o' i = some oi → oi.alive = true → ∃ x, H i = some x ∧ x.alive = true := by
      intro i oi hi hal
      by_cases hi' : i = id
      · subst hi'
        simp only [updH, if_true, Option.some.injEq] at hi
        subst hi
        exact ⟨o, ho, ha.trans hal⟩
      · exact ⟨oi, by simpa [updH, hi'] using hi, hal⟩
    obtain ⟨x, hx, hxa⟩ := f i oi h1 h3
    obtain ⟨y, hy, hya⟩ := f j oj h2 h4
    exact hs.inj i j x y c hx hy hxa hya h5 h6
  · exact hs.apart c ((Own_upd ho ha c).1 hc)

/-- Elements over an own row's. -/
theorem vec_over (hs : Sat ρ H G w) {id : Nat} {c d : Con} {e : TypeId} (ho : H id = some (.vec c e)) {lo k : Nat} (hlo : lo + k ≤ c.n) (hk : k ≤ d.n) (h1 : 1 ≤ c.size) {news : List Value}
    (hlen : news.length = k * c.size) (hone : ∀ u ∈ news, u.oneCell' = true) (hden : ∀ i j, i < k → j < c.size → ∃ u, news[i * c.size + j]? = some u ∧ DenS (Hot ρ H G) w (d.cell i j) u) :
    ∃ w', (∀ a cap x, ρ id = .slice a c.n cap → (k = 0 ∨ a.map (·.add (lo * c.size)) = some x) → (storeCells x news 0).run P w = .ok () w') ∧ (k = 0 → w' = w) ∧
      ∀ r v, (∀ w2, DenV ρ (updH H id (.vec (conCopy c lo k d) e)) (Hot ρ H G) w2 r v) → Good ρ H G w (updH H id (.vec (conCopy c lo k d) e)) r v w' := by
  obtain ⟨hn, hsz, hcell⟩ := conCopy_all c d hlo hk
  obtain ⟨a, cap, hroot, q1, q2, q3⟩ := hs.obj id _ ho
  have hvec : ∀ c' e', AObj.vec (conCopy c lo k d) e = .vec c' e' → ∃ c1 e1, AObj.vec c e = .vec c1 e1 ∧ c'.n = c1.n ∧ c'.size = c1.size := fun c' e' hc => by cases hc; exact ⟨c, e, rfl, hn, hsz⟩
  have hh := Hot_upd (ρ := ρ) (G := G) ho (show (AObj.vec c e).alive = (AObj.vec (conCopy c lo k d) e).alive from rfl)
  rcases Nat.eq_zero_or_pos k with h0 | h0
  · subst h0
    have hnews : news = [] := List.eq_nil_of_length_eq_zero (by rw [hlen]; simp)
    subst hnews
    refine ⟨w, fun a cap x _ _ => rfl, fun _ => rfl, fun r v hr => Good.upd (o' := .vec (conCopy c lo 0 d) e) hs ho rfl hvec ?_ (hr w)⟩
    have hc : ∀ i j, i < c.n → (conCopy c lo 0 d).cell i j = c.cell i j := fun i j hi => by rw [hcell i j hi, if_neg (by omega)]
    refine ⟨a, cap, by rw [hn]; exact hroot, by omega, q2, ?_⟩
    rcases q3 with q3 | ⟨b, o, cells, fr, us, e1, e2, e3, e4, e5⟩
    · exact .inl q3
    · exact .inr ⟨b, o, cells, fr, us, e1, e2, e3, by rw [hsz]; exact e4, fun i j hi hj => by rw [hn] at hi; rw [hsz] at hj ⊢; rw [hc i j hi]; exact e5 i j hi hj⟩
  · rcases q3 with q3 | ⟨b, o, cells, fr, us, rfl, e2, e3, e4, e5⟩
    · omega
    · have hbk : blk (ρ id) = some b := by rw [hroot]; simp only [blk]; rw [if_neg (by omega)]
      have hm1 : (lo + k) * c.size ≤ cap * c.size := Nat.mul_le_mul_right _ (by omega)
      rw [Nat.add_mul] at hm1
      have hl : o + lo * c.size + news.length ≤ cells.length := by omega
      have hl2 : (cells.take (o + lo * c.size) ++ news ++ cells.drop (o + lo * c.size + news.length)).length = cells.length := by
        simp only [List.length_append, List.length_take, List.length_drop]; omega
      let obj : Obj := .cells (cells.take (o + lo * c.size) ++ news ++ cells.drop (o + lo * c.size + news.length)).toArray e fr
      refine ⟨World.setBlk w b obj, fun a' cap' x hr hx => ?_, fun h => by omega, fun r v hr => ?_⟩
      · rw [hroot] at hr
        cases hr
        rcases hx with hx | hx
        · omega
        · simp only [Option.map_some, add_zero_spot, Option.some.injEq] at hx
          subst hx
          have := run_storeCells_blk (P := P) (o + lo * c.size) news 0 e2 e3 (by omega) hone
          rw [Nat.add_zero] at this
          exact this
      · have st := write_step (G := G) (w := w) (o' := .vec (conCopy c lo k d) e) ho rfl hbk hvec obj
        refine Good.write hs ho rfl rfl hbk hvec ?_ (hr _)
        refine ⟨some ⟨b, o, none⟩, cap, by rw [hn]; exact hroot, by omega, q2, .inr ⟨b, o, _, fr, fun i j => if lo ≤ i ∧ i < lo + k then news.getD ((i - lo) * c.size + j) undef else us i j, rfl, setBlk_get e2, by rw [hl2]; exact e3, by rw [hl2, hsz]; exact e4, fun i j hi hj => ?_⟩⟩
        rw [hn] at hi
        rw [hsz] at hj ⊢
        rw [hcell i j hi, mid_get _ _ _ hl]
        dsimp only
        by_cases hin : lo ≤ i ∧ i < lo + k
        · obtain ⟨u, g1, g2⟩ := hden (i - lo) j (by omega) hj
          have hmul : i * c.size = lo * c.size + (i - lo) * c.size := by rw [← Nat.add_mul]; congr 1; omega
          have hlt := (List.getElem?_eq_some_iff.1 g1).1
          simp only [if_pos hin]
          rw [if_pos (by omega), show o + i * c.size + j - (o + lo * c.size) = (i - lo) * c.size + j from by omega, g1]
          have : news.getD ((i - lo) * c.size + j) undef = u := by simp [List.getD, g1]
          rw [this]
          exact ⟨rfl, g2.step st.hot st.heap st.size⟩
        · simp only [if_neg hin]
          have hout : ¬ (o + lo * c.size ≤ o + i * c.size + j ∧ o + i * c.size + j < o + lo * c.size + news.length) := by
            intro hc
            rcases Nat.lt_or_ge i lo with h2 | h2
            · have : (i + 1) * c.size ≤ lo * c.size := Nat.mul_le_mul_right _ (by omega)
              rw [Nat.succ_mul] at this
              omega
            · have : (lo + k) * c.size ≤ i * c.size := Nat.mul_le_mul_right _ (by omega)
              rw [Nat.add_mul] at this
              omega
          rw [if_neg hout]
          obtain ⟨g1, g2⟩ := e5 i j hi hj
          exact ⟨g1, g2.step st.hot st.heap st.size⟩
end
end Go.Sx
