import Derived.Test.YtjofgphbmdbkmaaDoorBx13
namespace Bx
open Go Go.Sx Go.Proofs
/-! BitsValues -/
theorem no_at {b : Bool} {A B : Prop} (hb : b = false) (h : B) : (b = true → A) ∧ (b = false → B) := ⟨fun h2 => (by rw [hb] at h2; cases h2), fun _ => h⟩
theorem toI_inj : ∀ {a b : List Nat}, toI a = toI b → a = b
  | [], [], _ => rfl
  | [], _ :: _, h => by simp [toI] at h
  | _ :: _, [], h => by simp [toI] at h
  | x :: xs, y :: ys, h => by
    simp only [toI, List.map_cons, List.cons.injEq] at h
    obtain ⟨h1, h2⟩ := h
    rw [toI_inj (a := xs) (b := ys) h2, show x = y from by omega]

theorem mem_all {ws : List Int} {k : Nat} : k ∈ allN ws ↔ k < 1024 ∧ bit ws k = true := by
  unfold allN fr
  rw [List.mem_filter, List.mem_range]

theorem all_inj {a b : List Int} (ha : okW a) (hb : okW b) (h : allN a = allN b) : a = b := by
  refine ext_bit ha hb fun k hk => ?_
  have h1 := @mem_all a k
  have h2 := @mem_all b k
  rw [h] at h1
  rw [Bool.eq_iff_iff]
  constructor
  · intro h3; exact (h2.1 (h1.2 ⟨hk, h3⟩)).2
  · intro h3; exact (h1.1 (h2.2 ⟨hk, h3⟩)).2

theorem zeros_getD (j : Nat) : zeros.getD j 0 = 0 := by
  unfold zeros
  rw [List.getD, List.getElem?_replicate]
  split <;> rfl
theorem lenI_zeros : lenI zeros = 0 := by decide

theorem values_ok : FnOk P zTab 5 [tInts, tInts, tInt, tInt] [tBool] (fun _ => []) (fun _ => (true, ())) := by
  refine fnOk_of_safe Tryd.func5 (by kernel_rfl) (by kernel_rfl) ?_
  rintro ⟨(l : List Int), (m : List Int), (n : Int), (one : Int), ⟨⟩⟩ _ _ X hX hz
  have ha := (ofF_ok l).1
  have hb := (ofF_ok m).1
  refine go hz hX tabL_ok Tryd.func5 (tree5 l m n one) (no_then ⟨fun _ => ends_true rfl, fun _ => ⟨ha, ?_⟩⟩)
  have hal : (toI (allN (ofF l))).length ≤ 1024 := by
    have := fr_length (bit (ofF l)) 1024
    simp only [toI, List.length_map]; exact this
  generalize ofF l = s at *
  have second : Safe P 5 X (Ends [tBool] (true, ())) (c5b s s s 0) := by
    refine safe_loop (fun (x : List Int × Int) => c5b s s x.1 x.2) (fun x => 0 ≤ x.2 ∧ x.2 ≤ 16 ∧ x.1.length = 16 ∧ ∀ j : Nat, j < 16 → (j : Int) < x.2 → x.1.getD j 0 = 0) (fun x => (16 - x.2).toNat) ?_ (s, 0) ⟨by simp only []; omega, by simp only []; omega, ha.1, fun j _ h => by simp only [] at h; omega⟩
    rintro ⟨d, i⟩ ⟨(h0 : 0 ≤ i), (h1 : i ≤ 16), (h2 : d.length = 16), h3⟩ ih
    simp only [] at h3
    refine go hz hX tabL_ok Tryd.func5 (loop5b s s d i) ⟨fun h => ?_, fun h => ?_⟩
    · have hi : i < (16 : Int) := of_decide_eq_true h
      refine ⟨h0, hi, ⟨by omega, by omega⟩, ih (d.set i.toNat 0, i + 1) ⟨by simp only []; omega, by simp only []; omega, by simpa using h2, fun j hj hji => ?_⟩ (by simp only []; omega)⟩
      simp only [] at hji ⊢
      rw [set_getD]
      split
      · rfl
      · rename_i hne; exact h3 j hj (by rw [h2] at hne; omega)
    · have hi : ¬ i < (16 : Int) := of_decide_eq_false h
      have hd : d = zeros := ext_getD h2 rfl fun j hj => by
        rw [h3 j hj (by omega), zeros_getD]
      subst hd
      exact when (decide_eq_true rfl) ⟨zeros_ok.1, ends_true (by rw [lenI_zeros]; rfl)⟩
  suffices first : ∀ al i, (0 ≤ i ∧ i ≤ al.length ∧ al.length ≤ 1024) → Safe P 5 X (Ends [tBool] (true, ())) (c5a m s s al i) from first (toI (allN s)) 0 ⟨by omega, by omega, hal⟩
  intro al i hI
  refine safe_loop (fun (x : List Int × Int) => c5a m s s x.1 x.2) (fun x => 0 ≤ x.2 ∧ x.2 ≤ x.1.length ∧ x.1.length ≤ 1024) (fun x => (x.1.length - x.2).toNat) ?_ (al, i) hI
  clear hI al i
  rintro ⟨al, i⟩ ⟨(h0 : 0 ≤ i), (h1 : i ≤ al.length), (h2 : al.length ≤ 1024)⟩ ih
  refine go hz hX tabL_ok Tryd.func5 (loop5a m s s al i) ⟨fun h => ?_, fun h => no_at (by simp) ⟨ha, hb, fun h3 => ?_, fun _ => second⟩⟩
  · have hi : i < (al.length : Int) := of_decide_eq_true h
    exact ⟨h0, hi, ⟨by omega, by omega⟩, ih (al.set i.toNat 5, i + 1) ⟨by simp only []; omega, by simp only [List.length_set]; omega, by simpa using h2⟩ (by simp only [List.length_set]; omega)⟩
  · exfalso
    by_cases he : s = ofF m
    · subst he; simp at h3
    · have : toI (allN s) ≠ toI (allN (ofF m)) := fun h => he (all_inj ha hb (toI_inj h))
      simp [he, this] at h3

/-! BitsNext -/
theorem fr_ins (a : Nat → Bool) (n : Int) (m : Nat) : (fr (fun k => a k || decide (n = (k : Int))) m).length ≤ (fr a m).length + (if n < m then 1 else 0) := by
  induction m with
  | zero => simp [fr]
  | succ m ih =>
    simp only [fr_succ, List.length_append]
    by_cases h1 : n = (m : Int)
    · subst h1
      rw [if_neg (by omega)] at ih
      have e1 : (m : Int) < ((m + 1 : Nat) : Int) := by omega
      simp only [decide_true, Bool.or_true, if_true, if_pos e1, List.length_cons, List.length_nil]
      omega
    · have e : decide (n = (m : Int)) = false := decide_eq_false h1
      rw [e, Bool.or_false]
      have : (if n < (m : Int) then 1 else 0) ≤ (if n < ((m + 1 : Nat) : Int) then 1 else 0) := by
        split <;> split <;> omega
      omega

theorem all_fold (l : List Int) : ∀ (ws : List Int), okW ws → (allN (l.foldl withF ws)).length ≤ (allN ws).length + l.length := by
  induction l with
  | nil => intro ws _; simp
  | cons x xs ih =>
    intro ws hw
    have h1 := ih (withF ws x) (withF_ok hw x).1
    have h2 : (allN (withF ws x)).length ≤ (allN ws).length + 1 := by
      unfold allN
      rw [fr_congr 1024 (fun k hk => (withF_ok hw x).2 k hk)]
      have := fr_ins (bit ws) x 1024
      split at this <;> omega
    simp only [List.foldl_cons, List.length_cons]
    omega

theorem all_zeros : allN zeros = [] := by
  unfold allN fr
  exact List.filter_eq_nil_iff.2 fun k _ => by rw [zeros_ok.2 k]; simp

theorem all_of_len (l : List Int) : (allN (ofF l)).length ≤ l.length := by
  have := all_fold l zeros zeros_ok.1
  rw [all_zeros] at this
  simpa [ofF] using this

theorem of_all {s : List Int} (hs : okW s) : ofF (toI (allN s)) = s := by
  refine ext_bit (ofF_ok _).1 hs fun k hk => ?_
  rw [(ofF_ok _).2 k hk, Bool.eq_iff_iff]
  simp only [decide_eq_true_eq, toI, List.mem_map]
  constructor
  · rintro ⟨j, h1, h2⟩
    obtain rfl : j = k := by omega
    exact (mem_all.1 h1).2
  · intro h
    exact ⟨k, mem_all.2 ⟨hk, h⟩, rfl⟩

theorem nextIs_iff {s : List Int} (hs : okW s) (f : Int) : nextIs s f = true ↔ ∃ k : Nat, k < 1024 ∧ f ≤ k ∧ bit s k = true := by
  constructor
  · intro h
    obtain ⟨v, hv⟩ := Option.isSome_iff_exists.1 h
    obtain ⟨p, _, h1, h2, h3, _⟩ := nextO_some hs hv
    exact ⟨p, h1, h3, h2⟩
  · rintro ⟨k, h1, h2, h3⟩
    cases hh : nextO s f with
    | none => rw [nextO_none hs hh k h1 h2] at h3; cases h3
    | some v => unfold nextIs; rw [hh]; rfl

theorem rest_iff {s : List Int} (hs : okW s) (f : Int) : zipF .andNot s (belowF f) = List.replicate 16 0 ↔ ∀ k : Nat, k < 1024 → f ≤ k → bit s k = false := by
  constructor
  · intro h k hk hf
    have h1 := bl hs (belowF_ok f).1 hk
    rw [h, show bit (List.replicate 16 0) k = false from zeros_ok.2 k, (belowF_ok f).2 k hk, decide_eq_false (by omega)] at h1
    simpa using h1.symm
  · intro h
    refine ext_bit (zl hs (belowF_ok f).1) zeros_ok.1 fun k hk => ?_
    rw [bl hs (belowF_ok f).1 hk, show bit (List.replicate 16 0) k = false from zeros_ok.2 k, (belowF_ok f).2 k hk]
    by_cases hf : f ≤ k
    · rw [h k hk hf]; rfl
    · rw [decide_eq_true (by omega)]; simp

theorem next_law : FnOk P zTab 4 [tInts, tInt] [tBool] (fun _ => []) (fun _ => (true, ())) := by
  refine fnOk_of_safe Tryd.func4 (by kernel_rfl) (by kernel_rfl) ?_
  rintro ⟨(l : List Int), (from_ : Int), ⟨⟩⟩ _ _ X hX hz
  have hs := (ofF_ok l).1
  refine go hz hX tabL_ok Tryd.func4 (tree4 l from_) (no_then ⟨fun _ => ends_true rfl, fun h => ⟨hs, ?_⟩⟩)
  have hlen : (allN (ofF l)).length ≤ 200 := by
    have h1 := all_of_len l
    simp [largeF] at h
    omega
  clear h
  generalize ofF l = s at *
  have tail : nextIs s from_ = !decide (zipF .andNot s (belowF from_) = List.replicate 16 0) := by
    rw [Bool.eq_iff_iff, nextIs_iff hs]
    simp only [Bool.not_eq_true', decide_eq_false_iff_not]
    rw [rest_iff hs]
    constructor
    · rintro ⟨k, h1, h2, h3⟩ h4
      rw [h4 k h1 h2] at h3; cases h3
    · intro h1
      refine Classical.byContradiction fun h2 => h1 fun k hk hf => ?_
      cases hb : bit s k
      · rfl
      · exact absurd ⟨k, hk, hf, hb⟩ h2
  have low : nextIs s from_ = true → ∃ p : Nat, nextN s from_ = p ∧ from_ ≤ (p : Int) ∧ hasF s p = true ∧ zipF .andNot (zipF .and s (belowF p)) (belowF from_) = List.replicate 16 0 := by
    intro h
    obtain ⟨v, hv⟩ := Option.isSome_iff_exists.1 h
    obtain ⟨p, rfl, h1, h2, h3, h4⟩ := nextO_some hs hv
    refine ⟨p, by unfold nextN; rw [hv]; rfl, h3, ?_, ?_⟩
    · rw [hasF_eq hs, decide_eq_true (by omega)]; simpa using h2
    · rw [rest_iff (za hs (belowF_ok p).1)]
      intro k hk hf
      rw [ba hs (belowF_ok p).1 hk, (belowF_ok p).2 k hk]
      by_cases hkp : (k : Int) < p
      · rw [h4 k (by omega) hf]; rfl
      · rw [decide_eq_false hkp]; simp
  refine safe_loop (fun (m : Nat) => c4 from_ s (toI (fr (bit s) m)) (nextN s m) (nextIs s m) (toI (fr (bit s) m)).length) (fun m => m ≤ 1024) (fun m => 1024 - m) ?_ 0 (by omega)
  rintro m (hm : m ≤ 1024) ih
  have hml : (toI (fr (bit s) m)).length ≤ (allN s).length := by
    have h1 : ∀ p, m ≤ p → (fr (bit s) m).length ≤ (fr (bit s) p).length := by
      intro p hp
      induction p with
      | zero => rw [show m = 0 from by omega]; exact Nat.le_refl _
      | succ p ihp =>
        by_cases h2 : m = p + 1
        · rw [h2]; exact Nat.le_refl _
        · have := ihp (by omega)
          rw [fr_succ, List.length_append]; omega
    have := h1 1024 hm
    simpa [toI, allN] using this
  have stop : nextIs s m = false → toI (fr (bit s) m) = toI (allN s) := by
    intro h
    have hv : nextO s m = none := by
      unfold nextIs at h
      cases hh : nextO s m with
      | none => rfl
      | some v => rw [hh] at h; cases h
    rw [show allN s = fr (bit s) m from fr_extend 1024 hm (fun k h1 h2 => nextO_none hs hv k h2 (by omega))]
  refine go hz hX tabL_ok Tryd.func4 (loop4 from_ s _ _ _ _) ⟨fun h => ⟨fun h => ?_, fun h => ?_⟩, fun h => ?_⟩
  · obtain ⟨v, hv⟩ := Option.isSome_iff_exists.1 h
    obtain ⟨p, rfl, g1, g2, g3, g4⟩ := nextO_some hs hv
    have hn : nextN s m = (p : Int) := by unfold nextN; rw [hv]; rfl
    rw [hn]
    have hhas : hasF s p = true := by rw [hasF_eq hs, decide_eq_true (by omega)]; simpa using g2
    have := ih (p + 1) (by omega) (by omega)
    rw [fr_succ, if_pos g2, fr_extend (m := m) p (by omega) (fun k h1 h2 => g4 k h2 (by omega))] at this
    rw [show toI (fr (bit s) m ++ [p]) = toI (fr (bit s) m) ++ [(p : Int)] from by simp [toI]] at this
    rw [Int.natCast_add, List.length_append, List.length_cons, List.length_nil, Int.natCast_add] at this
    have last : ∀ x ∈ toI (fr (bit s) m), x < (p : Int) := by
      intro x hx
      simp only [toI, List.mem_map, fr, List.mem_filter, List.mem_range] at hx
      obtain ⟨k, ⟨h1, _⟩, rfl⟩ := hx
      omega
    generalize toI (fr (bit s) m) = met at *
    have hrest : (!hasF s p) = false := by rw [hhas]; rfl
    refine ⟨fun h5 => ⟨⟨by omega, by omega⟩, by have := of_decide_eq_true h5; omega, by omega, fun h6 => ?_, fun h6 => ⟨fun h7 => absurd (hrest.symm.trans h7) (by simp), fun _ => ⟨by omega, ⟨by omega, by omega⟩, hs, ⟨by omega, by omega⟩, this⟩⟩⟩, fun h5 => ⟨fun h7 => absurd (hrest.symm.trans h7) (by simp), fun _ => ⟨by omega, ⟨by omega, by omega⟩, hs, ⟨by omega, by omega⟩, this⟩⟩⟩
    have h5 := of_decide_eq_true h5
    have h6 := of_decide_eq_true h6
    have := last (met.getD ((met.length : Int) - 1).toNat 0) (by rw [List.getD, List.getElem?_eq_getElem (by omega)]; exact List.getElem_mem _)
    omega
  · have e := stop h
    refine no_at h ⟨hs, no_at (by rw [e]; simp) (no_at (by rw [e, of_all hs]; simp) ⟨hs, no_at (by rw [e, len_all hs.1]; simp [toI]) ⟨hs, when (by rw [tail]; simp) ⟨fun _ => ends_lit, fun h9 => ?_⟩⟩⟩)⟩
    obtain ⟨p, h1, h2, h3, h4⟩ := low (by simpa using h9)
    rw [h1]
    exact when (decide_eq_true h2) (when h3 (ends_true (decide_eq_true h4)))
  · have hk : ¬ ((toI (fr (bit s) m)).length : Int) < 300 := of_decide_eq_false h
    omega
end Bx
