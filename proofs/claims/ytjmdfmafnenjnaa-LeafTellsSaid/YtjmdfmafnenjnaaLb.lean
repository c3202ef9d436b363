import Derived.Test.YtjmdfmafnenjnaaSxSpec
import Derived.Test.YtjmdfmafnenjnaaSxLoop
import Derived.Lib.Bytealg
/-! What all texts share: ends, orders of texts, bytes. -/
namespace Lf
open Go Go.Sx

section
variable {L : List AObj}
theorem ends_b {b : Bool} : Ends [.b .bool] (b, ()) L (.s (.bool b)) := rfl
theorem ends_bl {b : Bool} : Ends [.b .bool] (b, ()) L (.s (.blit b)) := rfl
theorem ends_i {n : Int} : Ends [.b (.int .i64)] (n, ()) L (.s (.int .i64 n)) := rfl
theorem ends_il {n : Int} : Ends [.b (.int .i64)] (n, ()) L (.s (.ilit .i64 n)) := rfl
theorem ends_s {s : ByteArray} : Ends [.b .str] (s, ()) L (.s (.str s)) := rfl
theorem ends_si {s : ByteArray} {n : Int} : Ends [.b .str, .b (.int .i64)] (s, n, ()) L (.tup [.s (.str s), .s (.ilit .i64 n)]) := rfl
theorem ends_is {b : Bool} {b' : Bool} (h : b = b') : Ends [.b .bool] (b, ()) L (.s (.bool b')) := by subst h; rfl
theorem ends_isl {b : Bool} {b' : Bool} (h : b = b') : Ends [.b .bool] (b, ()) L (.s (.blit b')) := by subst h; rfl
theorem ends_ii {b b' : Int} (h : b = b') : Ends [.b (.int .i64)] (b, ()) L (.s (.int .i64 b')) := by subst h; rfl
theorem ends_iil {b b' : Int} (h : b = b') : Ends [.b (.int .i64)] (b, ()) L (.s (.ilit .i64 b')) := by subst h; rfl
end

theorem all_no {p : Nat → Bool} {n i : Nat} (hi : i < n) (h : p i = false) : (List.range n).all p = false := by
  rw [List.all_eq_false]
  exact ⟨i, List.mem_range.2 hi, by simp [h]⟩
theorem all_yes {p : Nat → Bool} {n : Nat} (h : ∀ i, i < n → p i = true) : (List.range n).all p = true := by
  rw [List.all_eq_true]
  exact fun i hi => h i (List.mem_range.1 hi)
theorem all_range {p : Nat → Bool} {n : Nat} : (List.range n).all p = true ↔ ∀ i, i < n → p i = true := by
  simp [List.all_eq_true]
theorem any_range {p : Nat → Bool} {n : Nat} : (List.range n).any p = true ↔ ∃ i, i < n ∧ p i = true := by
  simp [List.any_eq_true]
theorem any_yes {p : Nat → Bool} {n i : Nat} (hi : i < n) (h : p i = true) : (List.range n).any p = true := any_range.2 ⟨i, hi, h⟩
theorem any_no {p : Nat → Bool} {n : Nat} (h : ∀ i, i < n → p i = false) : (List.range n).any p = false := by
  rw [List.any_eq_false]
  exact fun i hi => by simp [h i (List.mem_range.1 hi)]

theorem getD_lt {α : Type} {l : List α} {i : Nat} {d : α} (h : i < l.length) : l.getD i d = l[i] := by simp [List.getD, h]

/-! ### the order of texts -/
theorem ba_ext {a b : ByteArray} (h : a.data.toList = b.data.toList) : a = b := by
  cases a; cases b
  simp only [ByteArray.mk.injEq]
  exact Array.toList_inj.1 h

theorem less_irrefl : ∀ (x : List UInt8), Op.bytesLess x x = false
  | [] => rfl
  | a :: x => by simp [Op.bytesLess, less_irrefl x]

theorem less_trans : ∀ {x y z : List UInt8}, Op.bytesLess x y = true → Op.bytesLess y z = true → Op.bytesLess x z = true
  | _, [], _, h, _ => by simp [Op.bytesLess] at h
  | _, _ :: _, [], _, h => by simp [Op.bytesLess] at h
  | [], b :: y, c :: z, _, _ => rfl
  | a :: x, b :: y, c :: z, h1, h2 => by
    simp only [Op.bytesLess, Bool.or_eq_true, decide_eq_true_eq, Bool.and_eq_true, beq_iff_eq] at *
    rcases h1 with h1 | ⟨rfl, h1⟩
    · rcases h2 with h2 | ⟨rfl, h2⟩
      · exact .inl (UInt8.lt_trans h1 h2)
      · exact .inl h1
    · rcases h2 with h2 | ⟨rfl, h2⟩
      · exact .inl h2
      · exact .inr ⟨rfl, less_trans h1 h2⟩

theorem less_total : ∀ (x y : List UInt8), Op.bytesLess x y = true ∨ x = y ∨ Op.bytesLess y x = true
  | [], [] => .inr (.inl rfl)
  | [], _ :: _ => .inl rfl
  | _ :: _, [] => .inr (.inr rfl)
  | a :: x, b :: y => by
    simp only [Op.bytesLess, Bool.or_eq_true, decide_eq_true_eq, Bool.and_eq_true, beq_iff_eq, List.cons.injEq]
    rcases UInt8.lt_or_lt_of_ne (a := a) (b := b) |> fun h => (Decidable.em (a = b)).imp id h with rfl | h | h
    · rcases less_total x y with h | rfl | h
      · exact .inl (.inr ⟨rfl, h⟩)
      · exact .inr (.inl ⟨rfl, rfl⟩)
      · exact .inr (.inr (.inr ⟨rfl, h⟩))
    · exact .inl (.inl h)
    · exact .inr (.inr (.inl h))

theorem compare_less : ∀ (x y : List UInt8), (Lib.compareBytes x y < 0 ↔ Op.bytesLess x y = true) ∧ (Lib.compareBytes x y = 0 ↔ x = y) ∧ (-1 ≤ Lib.compareBytes x y ∧ Lib.compareBytes x y ≤ 1)
  | [], [] => by simp [Lib.compareBytes, Op.bytesLess]
  | [], _ :: _ => by simp [Lib.compareBytes, Op.bytesLess]
  | _ :: _, [] => by simp [Lib.compareBytes, Op.bytesLess]
  | a :: x, b :: y => by
    obtain ⟨h1, h2, h3⟩ := compare_less x y
    simp only [Lib.compareBytes, Op.bytesLess, List.cons.injEq]
    by_cases h : a < b
    · rw [if_pos h]
      have : a ≠ b := fun e => by subst e; exact absurd h (UInt8.lt_irrefl a)
      simp [h, this]
    · rw [if_neg h]
      by_cases h' : b < a
      · rw [if_pos h']
        have : a ≠ b := fun e => by subst e; exact absurd h' (UInt8.lt_irrefl a)
        simp [h, this]
      · rw [if_neg h']
        have : a = b := UInt8.toNat_inj.1 (by rw [UInt8.lt_iff_toNat_lt] at h h'; omega)
        subst this
        simp [h, h1, h2, h3]

def cmpS (a b : ByteArray) : Int := Lib.compareBytes a.data.toList b.data.toList
theorem cmpS_lt (a b : ByteArray) : cmpS a b < 0 ↔ slt a b = true := (compare_less _ _).1
theorem cmpS_eq (a b : ByteArray) : cmpS a b = 0 ↔ a = b := by
  rw [show a = b ↔ a.data.toList = b.data.toList from ⟨fun h => by rw [h], ba_ext⟩]
  exact (compare_less _ _).2.1
theorem cmpS_range (a b : ByteArray) : -1 ≤ cmpS a b ∧ cmpS a b ≤ 1 := (compare_less _ _).2.2

theorem slt_irrefl (a : ByteArray) : slt a a = false := less_irrefl _
theorem slt_trans {a b c : ByteArray} (h1 : slt a b = true) (h2 : slt b c = true) : slt a c = true := less_trans h1 h2
theorem slt_total (a b : ByteArray) : slt a b = true ∨ a = b ∨ slt b a = true := by
  rcases less_total a.data.toList b.data.toList with h | h | h
  · exact .inl h
  · exact .inr (.inl (ba_ext h))
  · exact .inr (.inr h)
theorem slt_asymm {a b : ByteArray} (h : slt a b = true) : slt b a = false := by
  cases h2 : slt b a
  · rfl
  · have := slt_trans h h2
    rw [slt_irrefl] at this
    cases this
theorem slt_ne {a b : ByteArray} (h : slt a b = true) : a ≠ b := fun e => by subst e; rw [slt_irrefl] at h; cases h
theorem slt_of_not {a b : ByteArray} (h : slt a b = false) (h2 : a ≠ b) : slt b a = true := by
  rcases slt_total a b with h3 | h3 | h3
  · rw [h] at h3; cases h3
  · exact absurd h3 h2
  · exact h3
theorem slt_empty (a : ByteArray) : slt a ByteArray.empty = false := by
  unfold slt
  cases h : a.data.toList <;> rfl
theorem slt_of_slt_not {a b c : ByteArray} (h1 : slt a b = true) (h2 : slt c b = false) : slt a c = true := by
  rcases slt_total b c with h3 | rfl | h3
  · exact slt_trans h1 h3
  · exact h1
  · rw [h2] at h3; cases h3

theorem size_zero {a : ByteArray} (h : a.size = 0) : a = ByteArray.empty := by
  apply ba_ext
  have : a.data.toList.length = 0 := by rw [Array.length_toList]; exact h
  rw [List.eq_nil_of_length_eq_zero this]
  rfl
theorem empty_lit : ({ data := #[] } : ByteArray) = ByteArray.empty := rfl
end Lf
