import Derived.Test.YtjofgphbmdbkmaaDoorBx12
namespace Bx
open Go Go.Sx Go.Proofs
/-! BitsIn, BitsNames -/
theorem has_eq {ws : List Int} (hw : okW ws) {n : Int} {f : Bool} (h : ∀ k : Nat, n = k → k < 1024 → bit ws k = f) (hf : f = true → 0 ≤ n ∧ n < 1024) : hasF ws n = f := by
  rw [hasF_eq hw]
  by_cases hn : 0 ≤ n ∧ n < 1024
  · rw [decide_eq_true hn, Bool.true_and]
    exact h n.toNat (by omega) (by omega)
  · rw [decide_eq_false hn, Bool.false_and]
    cases f
    · rfl
    · exact absurd (hf rfl) hn

theorem in_ok : FnOk P zTab 7 [tInts, tInts, tInt, tInt] [tBool] (fun _ => []) (fun _ => (true, ())) := by
  refine fnOk_of_safe Tryd.func7 (by kernel_rfl) (by kernel_rfl) ?_
  rintro ⟨(l : List Int), (m : List Int), (n : Int), (one : Int), ⟨⟩⟩ ⟨(hl : l.length ≤ maxLen), _⟩ _ X hX hz
  rw [maxLen_eq] at hl
  have ha := ofF_ok l
  have hb := ofF_ok m
  have key : Safe P 7 X (Ends [tBool] (true, ())) (c7 l (ofF l) (ofF m) n one (hasF (ofF l) n) (hasF (ofF m) n) (decide (0 ≤ n ∧ n < 1024)) false 0) := by
    have fa : hasF (ofF l) n = (decide (n ∈ l) && decide (0 ≤ n ∧ n < 1024)) := by
      refine has_eq ha.1 (fun k hk h1 => ?_) (fun h => by simp at h; omega)
      subst hk
      rw [ha.2 k h1, decide_eq_true (p := 0 ≤ (k : Int) ∧ (k : Int) < 1024) (by omega), Bool.and_true]
    have fo : hasF (zipF .or (ofF l) (ofF m)) n = (hasF (ofF l) n || hasF (ofF m) n) := by
      rw [hasF_eq ha.1, hasF_eq hb.1]
      refine has_eq (zo ha.1 hb.1) (fun k hk h1 => ?_) (fun h => by simp at h; omega)
      subst hk
      rw [bo ha.1 hb.1 h1, decide_eq_true (p := 0 ≤ (k : Int) ∧ (k : Int) < 1024) (by omega)]; rfl
    have fn : hasF (zipF .and (ofF l) (ofF m)) n = (hasF (ofF l) n && hasF (ofF m) n) := by
      rw [hasF_eq ha.1, hasF_eq hb.1]
      refine has_eq (za ha.1 hb.1) (fun k hk h1 => ?_) (fun h => by simp at h; omega)
      subst hk
      rw [ba ha.1 hb.1 h1, decide_eq_true (p := 0 ≤ (k : Int) ∧ (k : Int) < 1024) (by omega)]; rfl
    have fl : hasF (zipF .andNot (ofF l) (ofF m)) n = (hasF (ofF l) n && !hasF (ofF m) n) := by
      rw [hasF_eq ha.1, hasF_eq hb.1]
      refine has_eq (zl ha.1 hb.1) (fun k hk h1 => ?_) (fun h => by simp at h; omega)
      subst hk
      rw [bl ha.1 hb.1 h1, decide_eq_true (p := 0 ≤ (k : Int) ∧ (k : Int) < 1024) (by omega)]; rfl
    have fw : hasF (withF (ofF l) one) n = (hasF (ofF l) n || ((n == one) && decide (0 ≤ n ∧ n < 1024))) := by
      rw [hasF_eq ha.1]
      refine has_eq (withF_ok ha.1 one).1 (fun k hk h1 => ?_) (fun h => by simp at h; omega)
      subst hk
      rw [(withF_ok ha.1 one).2 k h1, decide_eq_true (p := 0 ≤ (k : Int) ∧ (k : Int) < 1024) (by omega), Bool.and_true, Bool.true_and, Bool.beq_comm]
      congr 1
    have fx : hasF (withoutF (ofF l) one) n = (hasF (ofF l) n && (n != one)) := by
      rw [hasF_eq ha.1]
      refine has_eq (withoutF_ok ha.1 one).1 (fun k hk h1 => ?_) (fun h => by simp at h; omega)
      subst hk
      rw [(withoutF_ok ha.1 one).2 k h1, decide_eq_true (p := 0 ≤ (k : Int) ∧ (k : Int) < 1024) (by omega), Bool.true_and]
      by_cases h : one = (k : Int)
      · subst h; simp
      · rw [decide_eq_false h, bne_iff_ne.2 (fun e => h e.symm)]; rfl
    have fb : hasF (belowF one) n = (decide (0 ≤ n ∧ n < 1024) && decide (n < one)) := by
      refine has_eq (belowF_ok one).1 (fun k hk h1 => ?_) (fun h => by simp at h; omega)
      subst hk
      rw [(belowF_ok one).2 k h1, decide_eq_true (p := 0 ≤ (k : Int) ∧ (k : Int) < 1024) (by omega), Bool.true_and]
    generalize hA : hasF (ofF l) n = a at *
    generalize hasF (ofF m) n = b at *
    generalize hI : decide (0 ≤ n ∧ n < 1024) = inn at *
    have last : Safe P 7 X (Ends [tBool] (true, ())) (c7c (ofF l) n one a inn) := by
      refine go hz hX tabL_ok Tryd.func7 (loop7c (ofF l) n one a inn) ?_
      rw [fw, fx, fb]
      have d : decide (n < one) = true → n != one := fun h => by simp at h; simp; omega
      have q : ∀ L, Ends [tBool] (true, ()) L (AV.s (SV.bool true)) := fun L => ends_true rfl
      cases a <;> cases inn <;> cases h1 : (n == one) <;> simp [bne, h1, Tree.Holds, q]
    have mid : ∀ st, a = (st && inn) → Safe P 7 X (Ends [tBool] (true, ())) (c7b (ofF l) (ofF m) n one a b inn st) := by
      intro st hst
      refine go hz hX tabL_ok Tryd.func7 (loop7b (ofF l) (ofF m) n one a b inn st) ?_
      rw [fo, fn, fl]
      have last : Safe P 7 X (Ends [tBool] (true, ())) ⟨_, _, _⟩ := last
      cases st <;> cases inn <;> cases b <;> simp at hst <;> subst hst <;> simpa [Tree.Holds] using last
    refine safe_loop (fun (x : Bool × Int) => c7 l (ofF l) (ofF m) n one a b inn x.1 x.2) (fun x => 0 ≤ x.2 ∧ x.2 ≤ l.length ∧ x.1 = decide (n ∈ l.take x.2.toNat)) (fun x => (l.length - x.2).toNat) ?_ (false, 0) ⟨by simp only []; omega, by simp only []; omega, by simp⟩
    rintro ⟨st, i⟩ ⟨(h0 : 0 ≤ i), (h1 : i ≤ l.length), (h2 : st = decide (n ∈ l.take i.toNat))⟩ ih
    refine go hz hX tabL_ok Tryd.func7 (loop7 l (ofF l) (ofF m) n one a b inn st i) ⟨fun h => ?_, fun h => ?_⟩
    · have hi : i < (l.length : Int) := of_decide_eq_true h
      have ht : l.take (i + 1).toNat = l.take i.toNat ++ [l.getD i.toNat 0] := by
        rw [show (i + 1).toNat = i.toNat + 1 from by omega, getD_take l i.toNat 0 (by omega)]
      refine ⟨fun h3 => ⟨⟨by omega, by omega⟩, ih (true, i + 1) ⟨by simp only []; omega, by simp only []; omega, ?_⟩ (by simp only []; omega)⟩, fun h3 => ⟨h0, hi, ⟨by omega, by omega⟩, ih (_, i + 1) ⟨by simp only []; omega, by simp only []; omega, ?_⟩ (by simp only []; omega)⟩⟩
      · simp only []
        rw [h3] at h2
        have h2 := of_decide_eq_true h2.symm
        rw [ht]
        exact (decide_eq_true (List.mem_append.2 (.inl h2))).symm
      · simp only []
        rw [h3] at h2
        have h2 := of_decide_eq_false h2.symm
        rw [ht]
        rw [Bool.eq_iff_iff]
        simp only [beq_iff_eq, decide_eq_true_eq, List.mem_append, List.mem_singleton]
        exact ⟨fun h => .inr h.symm, fun h => h.elim (fun h => absurd h h2) (fun h => h.symm)⟩
    · have hi : ¬ i < (l.length : Int) := of_decide_eq_false h
      rw [List.take_of_length_le (by omega)] at h2
      exact mid st (by rw [h2]; exact fa)
  refine go hz hX tabL_ok Tryd.func7 (tree7 l m n one) (no_then ⟨fun _ => ends_true rfl, fun _ => ⟨fun h => ?_, fun h => ?_⟩⟩)
  · have h : n ≥ 0 := of_decide_eq_true h
    have e : decide (0 ≤ n ∧ n < 1024) = decide (n < 1024) := by
      by_cases h1 : n < 1024
      · rw [decide_eq_true h1, decide_eq_true ⟨by omega, h1⟩]
      · rw [decide_eq_false h1, decide_eq_false (by omega)]
    rw [e] at key
    exact key
  · have h : ¬ n ≥ 0 := of_decide_eq_false h
    rw [decide_eq_false (by omega : ¬ (0 ≤ n ∧ n < 1024))] at key
    exact key

theorem names_ok : FnOk P zTab 3 [] [tBool] (fun _ => []) (fun _ => (true, ())) := by
  refine fnOk_of_safe Tryd.func3 (by kernel_rfl) (by kernel_rfl) ?_
  rintro ⟨⟩ _ _ X hX hz
  have h1 := (ofF_ok [0, 63, 65, 1023]).1
  refine go hz hX tabL_ok Tryd.func3 tree3 (no_then ⟨h1, h1, zeros_ok.1, yes_then (yes_then (yes_then (yes_then (yes_then (yes_then (yes_then ⟨(belowF_ok _).1, yes_then ⟨(belowF_ok _).1, yes_then ⟨(belowF_ok _).1, yes_then (yes_then (yes_then (yes_then (yes_then (yes_then (ends_true rfl))))))⟩⟩⟩))))))⟩)
end Bx
