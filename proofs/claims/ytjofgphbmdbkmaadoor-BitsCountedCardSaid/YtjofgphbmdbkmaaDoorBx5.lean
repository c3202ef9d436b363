import Derived.Test.YtjofgphbmdbkmaaDoorBx4
namespace Bx
open Go Go.Sx Go.Proofs
/-! sets, number by number -/
def okW (ws : List Int) : Prop := ws.length = 16 ∧ ∀ w ∈ ws, 0 ≤ w ∧ w < 18446744073709551616
def wd (ws : List Int) (i : Nat) : Nat := (ws.getD i 0).toNat
def bit (ws : List Int) (k : Nat) : Bool := (wd ws (k / 64)).testBit (k % 64)
def opb : BinOp → Bool → Bool → Bool
  | .or, x, y => x || y
  | .andNot, x, y => x && !y
  | _, x, y => x && y

theorem ok_wd {ws : List Int} (h : okW ws) (i : Nat) : wd ws i < 18446744073709551616 ∧ (ws.getD i 0) = (wd ws i : Int) := by
  unfold wd
  by_cases hi : i < ws.length
  · have := h.2 (ws.getD i 0) (by rw [List.getD, List.getElem?_eq_getElem hi]; exact List.getElem_mem hi)
    omega
  · have : ws.getD i 0 = 0 := by simp [List.getD, List.getElem?_eq_none (Nat.le_of_not_lt hi)]
    rw [this]; simp

theorem bitop_nat (op : BinOp) (hop : op = .or ∨ op = .and ∨ op = .andNot) (a b : Nat) (ha : a < 18446744073709551616) (hb : b < 18446744073709551616) :
    ∃ r : Nat, bitop op .u64 (a : Int) (b : Int) = (r : Int) ∧ r < 18446744073709551616 ∧ ∀ i, i < 64 → r.testBit i = opb op (a.testBit i) (b.testBit i) := by
  have h1 : BitVec.ofInt 64 (a : Int) = BitVec.ofNat 64 a := BitVec.ofInt_natCast 64 a
  have h2 : BitVec.ofInt 64 (b : Int) = BitVec.ofNat 64 b := BitVec.ofInt_natCast 64 b
  have key : ∀ v : BitVec 64, IntKind.u64.wrap (v.toNat : Int) = (v.toNat : Int) := fun v => by
    have := v.isLt
    show (v.toNat : Int) % 18446744073709551616 = _
    omega
  rcases hop with rfl | rfl | rfl
  · refine ⟨(BitVec.ofNat 64 a ||| BitVec.ofNat 64 b).toNat, ?_, (BitVec.ofNat 64 a ||| BitVec.ofNat 64 b).isLt, fun i hi => ?_⟩
    · show IntKind.u64.wrap ((BitVec.ofInt 64 (a : Int) ||| BitVec.ofInt 64 (b : Int)).toNat : Int) = _
      rw [h1, h2, key]
    · rw [BitVec.testBit_toNat, BitVec.getLsbD_or, BitVec.getLsbD_ofNat, BitVec.getLsbD_ofNat]
      simp [opb, hi]
  · refine ⟨(BitVec.ofNat 64 a &&& BitVec.ofNat 64 b).toNat, ?_, (BitVec.ofNat 64 a &&& BitVec.ofNat 64 b).isLt, fun i hi => ?_⟩
    · show IntKind.u64.wrap ((BitVec.ofInt 64 (a : Int) &&& BitVec.ofInt 64 (b : Int)).toNat : Int) = _
      rw [h1, h2, key]
    · rw [BitVec.testBit_toNat, BitVec.getLsbD_and, BitVec.getLsbD_ofNat, BitVec.getLsbD_ofNat]
      simp [opb, hi]
  · refine ⟨(BitVec.ofNat 64 a &&& ~~~ BitVec.ofNat 64 b).toNat, ?_, (BitVec.ofNat 64 a &&& ~~~ BitVec.ofNat 64 b).isLt, fun i hi => ?_⟩
    · show IntKind.u64.wrap ((BitVec.ofInt 64 (a : Int) &&& ~~~ BitVec.ofInt 64 (b : Int)).toNat : Int) = _
      rw [h1, h2, key]
    · rw [BitVec.testBit_toNat, BitVec.getLsbD_and, BitVec.getLsbD_not, BitVec.getLsbD_ofNat, BitVec.getLsbD_ofNat]
      simp [opb, hi]

theorem okW_getD {ws : List Int} (hl : ws.length = 16) (h : ∀ i, i < 16 → 0 ≤ ws.getD i 0 ∧ ws.getD i 0 < 18446744073709551616) : okW ws := by
  refine ⟨hl, fun w hw => ?_⟩
  obtain ⟨i, hi, rfl⟩ := List.getElem_of_mem hw
  have := h i (by omega)
  rwa [List.getD, List.getElem?_eq_getElem hi] at this

theorem zip_getD {op : BinOp} {a b : List Int} (ha : a.length = 16) (hb : b.length = 16) {i : Nat} (hi : i < 16) : (zipF op a b).getD i 0 = bitop op .u64 (a.getD i 0) (b.getD i 0) := by
  have h1 : i < a.length := by omega
  have h2 : i < b.length := by omega
  simp [zipF, List.getD, List.getElem?_zipWith, h1, h2]

theorem zip_ok {op : BinOp} (hop : op = .or ∨ op = .and ∨ op = .andNot) {a b : List Int} (ha : okW a) (hb : okW b) : okW (zipF op a b) ∧ ∀ k, k < 1024 → bit (zipF op a b) k = opb op (bit a k) (bit b k) := by
  have key : ∀ i, i < 16 → ∃ r : Nat, (zipF op a b).getD i 0 = (r : Int) ∧ r < 18446744073709551616 ∧ ∀ j, j < 64 → r.testBit j = opb op ((wd a i).testBit j) ((wd b i).testBit j) := fun i hi => by
    rw [zip_getD ha.1 hb.1 hi, (ok_wd ha i).2, (ok_wd hb i).2]
    exact bitop_nat op hop _ _ (ok_wd ha i).1 (ok_wd hb i).1
  refine ⟨okW_getD (by simp [zipF, ha.1, hb.1]) fun i hi => ?_, fun k hk => ?_⟩
  · obtain ⟨r, h1, h2, _⟩ := key i hi
    rw [h1]; omega
  · obtain ⟨r, h1, h2, h3⟩ := key (k / 64) (by omega)
    unfold bit
    rw [show wd (zipF op a b) (k / 64) = r from by unfold wd; rw [h1]; rfl]
    exact h3 _ (by omega)

theorem zeros_ok : okW zeros ∧ ∀ k, bit zeros k = false := by
  refine ⟨⟨rfl, fun w hw => ?_⟩, fun k => ?_⟩
  · have := List.eq_of_mem_replicate hw
    omega
  · have : wd zeros (k / 64) = 0 := by
      unfold wd zeros
      rw [List.getD, List.getElem?_replicate]
      split <;> rfl
    simp [bit, this]

theorem pow_bit {j i : Nat} : (2 ^ j).testBit i = decide (j = i) := by
  rw [Nat.testBit_two_pow]

theorem bitB_nat {n : Int} (h : 0 ≤ n ∧ n < 1024) : bitB n = ((2 ^ (n.toNat % 64) : Nat) : Int) ∧ 2 ^ (n.toNat % 64) < 18446744073709551616 ∧ bitW n = ((n.toNat / 64 : Nat) : Int) := by
  unfold bitB bitW
  rw [if_pos h, if_pos h]
  have e : (n % 64).toNat = n.toNat % 64 := by omega
  rw [e]
  have h2 : (2 : Nat) ^ (n.toNat % 64) < 2 ^ 64 := Nat.pow_lt_pow_right (by omega) (by omega)
  refine ⟨by simp, h2, by omega⟩

theorem bitIs_iff {n : Int} : bitIs n = true ↔ 0 ≤ n ∧ n < 1024 := by simp [bitIs]

theorem set_ok (op : BinOp) (hop : op = .or ∨ op = .andNot) {ws : List Int} (hw : okW ws) {n : Int} (h : 0 ≤ n ∧ n < 1024) :
    okW (ws.set (bitW n).toNat (bitop op .u64 (ws.getD (bitW n).toNat 0) (bitB n))) ∧ ∀ k, k < 1024 → bit (ws.set (bitW n).toNat (bitop op .u64 (ws.getD (bitW n).toNat 0) (bitB n))) k = opb op (bit ws k) (decide (n = (k : Int))) := by
  obtain ⟨e1, e2, e3⟩ := bitB_nat h
  rw [e1, e3, Int.toNat_natCast]
  obtain ⟨m, rfl⟩ := Int.eq_ofNat_of_zero_le h.1
  simp only [Int.toNat_natCast] at *
  have hb := ok_wd hw (m / 64)
  rw [hb.2]
  obtain ⟨r, h1, h2, h3⟩ := bitop_nat op (by rcases hop with h | h <;> simp [h]) _ _ hb.1 e2
  rw [h1]
  have hm : m / 64 < ws.length := by rw [hw.1]; omega
  refine ⟨okW_getD (by simpa using hw.1) fun i hi => ?_, fun k hk => ?_⟩
  · rw [set_getD]
    split
    · omega
    · have := ok_wd hw i; omega
  · unfold bit wd
    rw [set_getD]
    by_cases hk2 : k / 64 = m / 64
    · rw [if_pos ⟨hk2, hm⟩, Int.toNat_natCast, h3 _ (by omega), pow_bit]
      have : decide (m % 64 = k % 64) = decide ((m : Int) = (k : Int)) := by
        apply decide_eq_decide.2; omega
      rw [this, hk2]
      rfl
    · rw [if_neg (fun h => hk2 h.1)]
      have : decide ((m : Int) = (k : Int)) = false := decide_eq_false (by omega)
      rw [this]
      rcases hop with rfl | rfl <;> simp [opb]

theorem withF_ok {ws : List Int} (hw : okW ws) (n : Int) : okW (withF ws n) ∧ ∀ k, k < 1024 → bit (withF ws n) k = (bit ws k || decide (n = (k : Int))) := by
  unfold withF
  by_cases h : 0 ≤ n ∧ n < 1024
  · rw [if_pos (bitIs_iff.2 h)]
    exact set_ok .or (.inl rfl) hw h
  · rw [if_neg (fun h2 => h (bitIs_iff.1 h2))]
    refine ⟨hw, fun k hk => ?_⟩
    rw [decide_eq_false (by omega), Bool.or_false]

theorem withoutF_ok {ws : List Int} (hw : okW ws) (n : Int) : okW (withoutF ws n) ∧ ∀ k, k < 1024 → bit (withoutF ws n) k = (bit ws k && !decide (n = (k : Int))) := by
  unfold withoutF
  by_cases h : 0 ≤ n ∧ n < 1024
  · rw [if_pos (bitIs_iff.2 h)]
    exact set_ok .andNot (.inr rfl) hw h
  · rw [if_neg (fun h2 => h (bitIs_iff.1 h2))]
    refine ⟨hw, fun k hk => ?_⟩
    rw [decide_eq_false (by omega)]
    simp

theorem ofF_ok (l : List Int) : okW (ofF l) ∧ ∀ k, k < 1024 → bit (ofF l) k = decide ((k : Int) ∈ l) := by
  have : ∀ (l : List Int) (ws : List Int), okW ws → okW (l.foldl withF ws) ∧ ∀ k, k < 1024 → bit (l.foldl withF ws) k = (bit ws k || decide ((k : Int) ∈ l)) := by
    intro l
    induction l with
    | nil => intro ws h; exact ⟨h, fun k _ => by simp⟩
    | cons n l ih =>
      intro ws h
      obtain ⟨h1, h2⟩ := withF_ok h n
      obtain ⟨h3, h4⟩ := ih _ h1
      refine ⟨h3, fun k hk => ?_⟩
      rw [List.foldl_cons, h4 k hk, h2 k hk]
      by_cases hn : n = (k : Int)
      · simp [hn]
      · simp [hn, Ne.symm hn]
  obtain ⟨h1, h2⟩ := this l zeros zeros_ok.1
  exact ⟨h1, fun k hk => by rw [ofF, h2 k hk, zeros_ok.2]; simp⟩

theorem and_pow (w j : Nat) : w &&& 2 ^ j = if w.testBit j = true then 2 ^ j else 0 := by
  apply Nat.eq_of_testBit_eq
  intro i
  rw [Nat.testBit_and, pow_bit]
  by_cases h : j = i
  · subst h
    cases h2 : w.testBit j
    · simp
    · simp [pow_bit]
  · cases h2 : w.testBit j
    · simp [h]
    · simp [pow_bit, h]

theorem hasF_eq {ws : List Int} (hw : okW ws) (n : Int) : hasF ws n = (decide (0 ≤ n ∧ n < 1024) && bit ws n.toNat) := by
  unfold hasF
  by_cases h : 0 ≤ n ∧ n < 1024
  · rw [show bitIs n = true from bitIs_iff.2 h, decide_eq_true h]
    obtain ⟨e1, e2, e3⟩ := bitB_nat h
    rw [e1, e3, Int.toNat_natCast]
    have hb := ok_wd hw (n.toNat / 64)
    rw [hb.2]
    have := ub_nat _ _ hb.1 e2
    unfold ub at this
    rw [this, and_pow]
    unfold bit
    have hp : (0 : Nat) < 2 ^ (n.toNat % 64) := Nat.two_pow_pos _
    generalize (2 : Nat) ^ (n.toNat % 64) = p at *
    cases (wd ws (n.toNat / 64)).testBit (n.toNat % 64)
    · rfl
    · rw [if_pos rfl]
      simp
      omega
  · rw [show bitIs n = false from by simp [bitIs]; omega, decide_eq_false h]
    rfl

theorem ext_bit {a b : List Int} (ha : okW a) (hb : okW b) (h : ∀ k, k < 1024 → bit a k = bit b k) : a = b := by
  refine ext_getD ha.1 hb.1 fun i hi => ?_
  have h1 := ok_wd ha i
  have h2 := ok_wd hb i
  rw [h1.2, h2.2]
  congr 1
  apply Nat.eq_of_testBit_eq
  intro j
  by_cases hj : j < 64
  · have := h (64 * i + j) (by omega)
    unfold bit at this
    rwa [show (64 * i + j) / 64 = i from by omega, show (64 * i + j) % 64 = j from by omega] at this
  · rw [Nat.testBit_lt_two_pow (Nat.lt_of_lt_of_le h1.1 (Nat.pow_le_pow_right (by omega) (Nat.le_of_not_lt hj) : 2 ^ 64 ≤ 2 ^ j)), Nat.testBit_lt_two_pow (Nat.lt_of_lt_of_le h2.1 (Nat.pow_le_pow_right (by omega) (Nat.le_of_not_lt hj) : 2 ^ 64 ≤ 2 ^ j))]

theorem belowW_nat (n i : Int) : ∃ m : Nat, m ≤ 64 ∧ lftF n i = m ∧ belowW n i = ((2 ^ m - 1 : Nat) : Int) := by
  obtain ⟨h0, h1⟩ := lftF_range n i
  obtain ⟨m, hm⟩ := Int.eq_ofNat_of_zero_le h0
  refine ⟨m, by omega, hm, ?_⟩
  unfold belowW
  rw [hm, Int.toNat_natCast, show IntKind.u64.bits = 64 from rfl, Nat.min_eq_left (by omega), Int.one_mul]
  show ((2 : Int) ^ m % 18446744073709551616 - 1) % 18446744073709551616 = _
  have hp := Nat.two_pow_pos m
  by_cases h64 : m = 64
  · subst h64; decide
  · have h2 : (2 : Nat) ^ m < 2 ^ 64 := Nat.pow_lt_pow_right (by omega) (by omega)
    rw [show (2 : Int) ^ m = ((2 ^ m : Nat) : Int) from by simp]
    generalize (2 : Nat) ^ m = p at *
    omega

theorem belowF_ok (n : Int) : okW (belowF n) ∧ ∀ k, k < 1024 → bit (belowF n) k = decide ((k : Int) < n) := by
  have hg : ∀ i : Nat, i < 16 → (belowF n).getD i 0 = belowW n i := fun i hi => by simp [belowF, List.getD, hi]
  refine ⟨okW_getD (by simp [belowF]) fun i hi => ?_, fun k hk => ?_⟩
  · rw [hg i hi]
    obtain ⟨m, h1, _, h2⟩ := belowW_nat n i
    rw [h2]
    have : (2 : Nat) ^ m ≤ 2 ^ 64 := Nat.pow_le_pow_right (by omega) h1
    omega
  · unfold bit wd
    rw [hg _ (by omega)]
    obtain ⟨m, h1, h3, h2⟩ := belowW_nat n ((k / 64 : Nat) : Int)
    rw [h2, Int.toNat_natCast, Nat.testBit_two_pow_sub_one]
    apply decide_eq_decide.2
    unfold lftF imin imax at h3
    split at h3 <;> (split at h3 <;> (split at h3 <;> split at h3 <;> omega))
end Bx
