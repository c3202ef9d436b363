import Derived.Test.YtjofgphbmdbkmaaDoorBx14
namespace Bx
open Go Go.Sx Go.Proofs
/-! BitsSets: rising lists -/
def Srt (l : List Int) : Prop := l.Pairwise (· < ·)

theorem srt_ext : ∀ {a b : List Int}, Srt a → Srt b → (∀ x, x ∈ a ↔ x ∈ b) → a = b
  | [], [], _, _, _ => rfl
  | [], y :: ys, _, _, h => by have := (h y).2 (by simp); simp at this
  | x :: xs, [], _, _, h => by have := (h x).1 (by simp); simp at this
  | x :: xs, y :: ys, ha, hb, h => by
    unfold Srt at ha hb
    rw [List.pairwise_cons] at ha hb
    have hxy : x = y := by
      rcases List.mem_cons.1 ((h x).1 (by simp)) with h1 | h1
      · exact h1
      · rcases List.mem_cons.1 ((h y).2 (by simp)) with h2 | h2
        · exact h2.symm
        · have := hb.1 x h1; have := ha.1 y h2; omega
    subst hxy
    rw [srt_ext (a := xs) (b := ys) ha.2 hb.2 (fun z => ?_)]
    constructor
    · intro hz
      rcases List.mem_cons.1 ((h z).1 (by simp [hz])) with h1 | h1
      · have := ha.1 z hz; omega
      · exact h1
    · intro hz
      rcases List.mem_cons.1 ((h z).2 (by simp [hz])) with h1 | h1
      · have := hb.1 z hz; omega
      · exact h1

theorem range_srt : ∀ m, Srt (toI (List.range m))
  | 0 => by simp [toI, Srt]
  | m + 1 => by
    have ih := range_srt m
    unfold Srt at *
    rw [List.range_succ, show toI (List.range m ++ [m]) = toI (List.range m) ++ [(m : Int)] from by simp [toI], List.pairwise_append]
    refine ⟨ih, by simp, fun a ha b hb => ?_⟩
    simp only [toI, List.mem_map, List.mem_range] at ha
    obtain ⟨k, h1, rfl⟩ := ha
    rw [List.mem_singleton.1 hb]
    omega

theorem all_srt (ws : List Int) : Srt (toI (allN ws)) := by
  have h := range_srt 1024
  unfold Srt toI allN fr at *
  rw [List.pairwise_map] at *
  exact h.filter _

theorem mem_toI_all {ws : List Int} {x : Int} : x ∈ toI (allN ws) ↔ 0 ≤ x ∧ x < 1024 ∧ bit ws x.toNat = true := by
  simp only [toI, List.mem_map, mem_all]
  constructor
  · rintro ⟨k, ⟨h1, h2⟩, rfl⟩
    exact ⟨by omega, by omega, by simpa using h2⟩
  · rintro ⟨h1, h2, h3⟩
    exact ⟨x.toNat, ⟨by omega, h3⟩, by omega⟩

theorem rep_eq {ws l : List Int} (hl : Srt l) (h : ∀ x, x ∈ l ↔ 0 ≤ x ∧ x < 1024 ∧ bit ws x.toNat = true) : toI (allN ws) = l :=
  srt_ext (all_srt ws) hl fun x => by rw [mem_toI_all, h x]

theorem like_of {ws l : List Int} (hw : okW ws) (hl : Srt l) (h : ∀ x, x ∈ l ↔ 0 ≤ x ∧ x < 1024 ∧ bit ws x.toNat = true) : likeF ws l = true := by
  have e := rep_eq hl h
  unfold likeF
  rw [decide_eq_true e, Bool.true_and, len_all hw.1, ← e]
  simp [toI]

theorem wr_mem (n : Int) : ∀ (l : List Int) (x : Int), x ∈ wr n false l ↔ x = n ∨ x ∈ l
  | [], x => by simp [wr]
  | y :: ys, x => by
    unfold wr
    split
    · rw [wr_true]; simp
    · have := wr_mem n ys x
      simp only [List.mem_cons, this]
      constructor
      · rintro (h | h | h) <;> simp [h]
      · rintro (h | h | h) <;> simp [h]

theorem wr_srt (n : Int) : ∀ (l : List Int), Srt l → n ∉ l → Srt (wr n false l)
  | [], _, _ => by simp [wr, Srt]
  | y :: ys, hl, hn => by
    unfold Srt at *
    have h2 := List.pairwise_cons.1 hl
    unfold wr
    split
    · rename_i h
      rw [wr_true, List.pairwise_cons]
      refine ⟨fun z hz => ?_, hl⟩
      rcases List.mem_cons.1 hz with h1 | h1
      · omega
      · have := h2.1 z h1; omega
    · rename_i h
      rw [List.pairwise_cons]
      refine ⟨fun z hz => ?_, wr_srt n ys h2.2 (fun h3 => hn (by simp [h3]))⟩
      have hne : n ≠ y := fun e => hn (by simp [e])
      rcases (wr_mem n ys z).1 hz with h1 | h1
      · have : ¬ y > n := fun h4 => h ⟨h4, rfl⟩
        omega
      · exact h2.1 z h1

theorem rw_mem (l : List Int) (n x : Int) : x ∈ rWith l n ↔ x ∈ l ∨ (x = n ∧ 0 ≤ n ∧ n < 1024) := by
  unfold rWith
  split
  · rename_i h
    constructor
    · exact .inl
    · rintro (h1 | ⟨h1, h2, h3⟩)
      · exact h1
      · rcases h with h | h | h
        · omega
        · omega
        · rw [h1]; exact h
  · rename_i h
    rw [wr_mem]
    constructor
    · rintro (h1 | h1)
      · exact .inr ⟨h1, by omega, by omega⟩
      · exact .inl h1
    · rintro (h1 | ⟨h1, _⟩)
      · exact .inr h1
      · exact .inl h1

theorem rw_srt {l : List Int} (hl : Srt l) (n : Int) : Srt (rWith l n) := by
  unfold rWith
  split
  · exact hl
  · rename_i h
    exact wr_srt n l hl fun h1 => h (.inr (.inr h1))

theorem fold_srt (m : List Int) : ∀ {l : List Int}, Srt l → Srt (m.foldl rWith l) := by
  induction m with
  | nil => intro l hl; exact hl
  | cons x xs ih => intro l hl; exact ih (rw_srt hl x)

theorem fold_mem (m : List Int) : ∀ (l : List Int) (x : Int), x ∈ m.foldl rWith l ↔ x ∈ l ∨ (x ∈ m ∧ 0 ≤ x ∧ x < 1024) := by
  induction m with
  | nil => intro l x; simp
  | cons y ys ih =>
    intro l x
    simp only [List.foldl_cons]
    rw [ih, rw_mem]
    constructor
    · rintro ((h | ⟨rfl, h1, h2⟩) | ⟨h, h1, h2⟩)
      · exact .inl h
      · exact .inr ⟨by simp, h1, h2⟩
      · exact .inr ⟨by simp [h], h1, h2⟩
    · rintro (h | ⟨h, h1, h2⟩)
      · exact .inl (.inl h)
      · rcases List.mem_cons.1 h with rfl | h
        · exact .inl (.inr ⟨rfl, h1, h2⟩)
        · exact .inr ⟨h, h1, h2⟩

theorem of_mem (l : List Int) (x : Int) : x ∈ rOf l ↔ 0 ≤ x ∧ x < 1024 ∧ bit (ofF l) x.toNat = true := by
  unfold rOf
  rw [fold_mem]
  constructor
  · rintro (h | ⟨h, h1, h2⟩)
    · simp at h
    · refine ⟨h1, h2, ?_⟩
      rw [(ofF_ok l).2 _ (by omega)]
      exact decide_eq_true (by rw [show (x.toNat : Int) = x from by omega]; exact h)
  · rintro ⟨h1, h2, h3⟩
    rw [(ofF_ok l).2 _ (by omega)] at h3
    have := of_decide_eq_true h3
    rw [show (x.toNat : Int) = x from by omega] at this
    exact .inr ⟨this, h1, h2⟩

theorem of_srt (l : List Int) : Srt (rOf l) := fold_srt l (by simp [Srt])

theorem rlen (l : List Int) : (rOf l).length ≤ 1024 := by
  rw [← rep_eq (of_srt l) (of_mem l)]
  have := fr_length (bit (ofF l)) 1024
  simpa [toI, allN] using this

theorem next_find {ws l : List Int} (hw : okW ws) (hl : Srt l) (h : ∀ x, x ∈ l ↔ 0 ≤ x ∧ x < 1024 ∧ bit ws x.toNat = true) (n : Int) : nextO ws n = rNextO l n := by
  cases hn : nextO ws n with
  | none =>
    symm
    refine List.find?_eq_none.2 fun x hx => ?_
    obtain ⟨h1, h2, h3⟩ := (h x).1 hx
    intro h4
    have := nextO_none hw hn x.toNat (by omega) (by have := of_decide_eq_true h4; omega)
    rw [this] at h3; cases h3
  | some v =>
    obtain ⟨p, rfl, h1, h2, h3, h4⟩ := nextO_some hw hn
    have hp : (p : Int) ∈ l := (h p).2 ⟨by omega, by omega, by simpa using h2⟩
    have low : ∀ x ∈ l, x < (p : Int) → ¬ x ≥ n := by
      intro x hx hlt hge
      obtain ⟨g1, g2, g3⟩ := (h x).1 hx
      rw [h4 x.toNat (by omega) (by omega)] at g3
      cases g3
    clear h h4
    unfold rNextO
    induction l with
    | nil => simp at hp
    | cons y ys ih =>
      have hc := List.pairwise_cons.1 hl
      rw [List.find?_cons]
      rcases List.mem_cons.1 hp with h5 | h5
      · rw [← h5, decide_eq_true (p := (p : Int) ≥ n) h3]
      · have := hc.1 _ h5
        rw [decide_eq_false (low y (by simp) this)]
        exact ih hc.2 h5 fun x hx => low x (by simp [hx])

theorem sets_ok : FnOk P zTab 6 [tInts, tInts, tInt] [tBool] (fun _ => []) (fun _ => (true, ())) := by
  refine fnOk_of_safe Tryd.func6 (by kernel_rfl) (by kernel_rfl) ?_
  rintro ⟨(l : List Int), (m : List Int), (n : Int), ⟨⟩⟩ _ _ X hX hz
  refine go hz hX tabL_ok Tryd.func6 (tree6 l m n) ⟨fun _ => ends_lit, fun h => ?_⟩
  have hl : l.length ≤ 200 ∧ m.length ≤ 200 := by simp [largeF] at h; exact h
  have ha := (ofF_ok l).1
  have hb := (ofF_ok m).1
  have sa := of_srt l
  have sb := of_srt m
  have ma := of_mem l
  have mb := of_mem m
  have la := rlen l
  have lb := rlen m
  refine ⟨by omega, by omega, ?_⟩
  generalize ofF l = s at *
  generalize ofF m = t at *
  generalize rOf l = a at *
  generalize rOf m = b at *
  refine ⟨ha, ha, when (like_of ha sa ma) ⟨(belowF_ok n).1, when ?_ ⟨by omega, (withF_ok ha n).1, when ?_ ⟨by omega, (withoutF_ok ha n).1, when ?_ ⟨by omega, zo ha hb, when ?_ ⟨by omega, za ha hb, when ?_ ⟨by omega, zl ha hb, when ?_ ?_⟩⟩⟩⟩⟩⟩⟩
  · refine like_of (belowF_ok n).1 (range_srt _) fun x => ?_
    simp only [rBelow, toI, List.mem_map, List.mem_range]
    constructor
    · rintro ⟨k, h1, rfl⟩
      refine ⟨by omega, by omega, ?_⟩
      rw [(belowF_ok n).2 _ (by omega)]
      exact decide_eq_true (by omega)
    · rintro ⟨h1, h2, h3⟩
      rw [(belowF_ok n).2 _ (by omega)] at h3
      have := of_decide_eq_true h3
      exact ⟨x.toNat, by omega, by omega⟩
  · refine like_of (withF_ok ha n).1 (rw_srt sa n) fun x => ?_
    rw [rw_mem, ma x]
    constructor
    · rintro (⟨h1, h2, h3⟩ | ⟨rfl, h1, h2⟩)
      · refine ⟨h1, h2, ?_⟩
        rw [(withF_ok ha n).2 _ (by omega), h3]; rfl
      · refine ⟨h1, h2, ?_⟩
        rw [(withF_ok ha x).2 _ (by omega), decide_eq_true (p := x = (x.toNat : Int)) (by omega), Bool.or_true]
    · rintro ⟨h1, h2, h3⟩
      rw [(withF_ok ha n).2 _ (by omega)] at h3
      simp only [Bool.or_eq_true, decide_eq_true_eq] at h3
      rcases h3 with h3 | h3
      · exact .inl ⟨h1, h2, h3⟩
      · exact .inr ⟨by omega, by omega, by omega⟩
  · refine like_of (withoutF_ok ha n).1 (List.Pairwise.filter _ sa) fun x => ?_
    simp only [rWithout, List.mem_filter, ma x]
    constructor
    · rintro ⟨⟨h1, h2, h3⟩, h4⟩
      refine ⟨h1, h2, ?_⟩
      rw [(withoutF_ok ha n).2 _ (by omega), h3, decide_eq_false (by have := bne_iff_ne.1 h4; omega)]; rfl
    · rintro ⟨h1, h2, h3⟩
      rw [(withoutF_ok ha n).2 _ (by omega)] at h3
      simp only [Bool.and_eq_true, Bool.not_eq_true', decide_eq_false_iff_not] at h3
      exact ⟨⟨h1, h2, h3.1⟩, bne_iff_ne.2 (by omega)⟩
  · refine like_of (zo ha hb) (fold_srt b sa) fun x => ?_
    unfold rOr
    rw [fold_mem, ma x, mb x]
    constructor
    · rintro (⟨h1, h2, h3⟩ | ⟨⟨h1, h2, h3⟩, _⟩)
      · exact ⟨h1, h2, by rw [bo ha hb (by omega), h3]; rfl⟩
      · exact ⟨h1, h2, by rw [bo ha hb (by omega), h3, Bool.or_true]⟩
    · rintro ⟨h1, h2, h3⟩
      rw [bo ha hb (by omega), Bool.or_eq_true] at h3
      rcases h3 with h3 | h3
      · exact .inl ⟨h1, h2, h3⟩
      · exact .inr ⟨⟨h1, h2, h3⟩, h1, h2⟩
  · refine like_of (za ha hb) (List.Pairwise.filter _ sa) fun x => ?_
    simp only [rAnd, rHas, List.mem_filter, decide_eq_true_eq, ma x, mb x]
    constructor
    · rintro ⟨⟨h1, h2, h3⟩, _, _, h4⟩
      exact ⟨h1, h2, by rw [ba ha hb (by omega), h3, h4]; rfl⟩
    · rintro ⟨h1, h2, h3⟩
      rw [ba ha hb (by omega), Bool.and_eq_true] at h3
      exact ⟨⟨h1, h2, h3.1⟩, h1, h2, h3.2⟩
  · refine like_of (zl ha hb) (List.Pairwise.filter _ sa) fun x => ?_
    simp only [rLess, rHas, List.mem_filter, Bool.not_eq_true', decide_eq_false_iff_not, ma x, mb x]
    constructor
    · rintro ⟨⟨h1, h2, h3⟩, h4⟩
      refine ⟨h1, h2, ?_⟩
      rw [bl ha hb (by omega), h3]
      cases hbb : bit t x.toNat
      · rfl
      · exact absurd ⟨h1, h2, hbb⟩ h4
    · rintro ⟨h1, h2, h3⟩
      rw [bl ha hb (by omega), Bool.and_eq_true] at h3
      refine ⟨⟨h1, h2, h3.1⟩, ?_⟩
      rintro ⟨_, _, h4⟩
      rw [h4] at h3; simp at h3
  · have e := next_find ha sa ma n
    refine when ?_ (when ?_ (ends_true ?_))
    · rw [beq_iff_eq, hasF_eq ha, rHas, Bool.eq_iff_iff]
      simp only [Bool.and_eq_true, decide_eq_true_eq, ma n]
      constructor
      · rintro ⟨⟨h1, h2⟩, h3⟩; exact ⟨h1, h2, h3⟩
      · rintro ⟨h1, h2, h3⟩; exact ⟨⟨h1, h2⟩, h3⟩
    · rw [beq_iff_eq, nextN, rNextN, e]
    · rw [beq_iff_eq, nextIs, rNextIs, e]
end Bx
