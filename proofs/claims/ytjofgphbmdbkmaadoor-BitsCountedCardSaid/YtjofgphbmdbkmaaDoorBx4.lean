import Derived.Test.YtjofgphbmdbkmaaDoorBx3
namespace Bx
open Go Go.Sx Go.Proofs
/-! OnesCount64 -/
def u64w (n : Int) : Int := IntKind.u64.wrap n
def ub (a b : Int) : Int := bitop .and .u64 a b
def sh (x k : Int) : Int := x.fdiv ((2 : Int) ^ min (Int.toNat k) IntKind.u64.bits)
def oc1 (x : Int) : Int := u64w (ub (sh x 1) 6148914691236517205 + ub x 6148914691236517205)
def oc2 (x : Int) : Int := u64w (ub (sh x 2) 3689348814741910323 + ub x 3689348814741910323)
def oc3 (x : Int) : Int := ub (u64w (sh x 4 + x)) 1085102592571150095
def oc4 (x : Int) : Int := u64w (x + sh x 8)
def oc5 (x : Int) : Int := u64w (x + sh x 16)
def oc6 (x : Int) : Int := u64w (x + sh x 32)
def ocF (x : Int) : Int := bitop .and .i64 (oc6 (oc5 (oc4 (oc3 (oc2 (oc1 x)))))) 127
theorem tree35 (x : Int) : run P tab0.sum Tryd.f35 [] (start Tryd.f35 [.s (.int .u64 x)] []) =
  Tree.need ((0 : Int) ≤ 1) (Tree.need ((0 : Int) ≤ 2) (Tree.need ((0 : Int) ≤ 4) (Tree.need ((0 : Int) ≤ 8) (Tree.need ((0 : Int) ≤ 16) (Tree.need ((0 : Int) ≤ 32) (Tree.need (inI64 (oc6 (oc5 (oc4 (oc3 (oc2 (oc1 x))))))) (Tree.ret [] (.s (.int .i64 (ocF x)))))))))) := by kernel_rfl

/-- How many of the first n bits are set. -/
def pc : Nat → Nat → Nat
  | 0, _ => 0
  | n + 1, x => x % 2 + pc n (x / 2)

theorem ub_nat (a b : Nat) (ha : a < 18446744073709551616) (hb : b < 18446744073709551616) : ub (a : Int) (b : Int) = ((a &&& b : Nat) : Int) := by
  have hx : a &&& b < 2 ^ 64 := Nat.and_lt_two_pow _ (by omega)
  have h1 : (BitVec.ofInt 64 (a : Int)).toNat = a := by
    rw [BitVec.ofInt_natCast, BitVec.toNat_ofNat]; exact Nat.mod_eq_of_lt (by omega)
  have h2 : (BitVec.ofInt 64 (b : Int)).toNat = b := by
    rw [BitVec.ofInt_natCast, BitVec.toNat_ofNat]; exact Nat.mod_eq_of_lt (by omega)
  show ((BitVec.ofInt 64 (a : Int) &&& BitVec.ofInt 64 (b : Int)).toNat : Int) % 18446744073709551616 = _
  rw [BitVec.toNat_and, h1, h2]
  omega

theorem u64w_eq (n : Int) : u64w n = n % 18446744073709551616 := rfl

theorem sh_nat (x k : Nat) (hk : k ≤ 64) : sh (x : Int) (k : Int) = ((x / 2 ^ k : Nat) : Int) := by
  unfold sh
  rw [show IntKind.u64.bits = 64 from rfl, Int.toNat_natCast, Nat.min_eq_left hk, Int.fdiv_eq_ediv_of_nonneg _ (Int.pow_nonneg (by omega))]
  simp

/-- A mask: m bits of each 2^k. -/
def msk (b c : Nat) : Nat → Nat
  | 0 => 0
  | n + 1 => (2 ^ b - 1) + 2 ^ c * msk b c n

theorem and_msk (b c n x : Nat) (hbc : b ≤ c) : x &&& msk b c (n + 1) = x % 2 ^ b + 2 ^ c * ((x / 2 ^ c) &&& msk b c n) := by
  have hlow : x % 2 ^ b < 2 ^ c := Nat.lt_of_lt_of_le (Nat.mod_lt _ (Nat.two_pow_pos _)) (Nat.pow_le_pow_right (by omega) hbc)
  have hm : 2 ^ b - 1 < 2 ^ c := Nat.lt_of_lt_of_le (by have := Nat.two_pow_pos b; omega) (Nat.pow_le_pow_right (by omega) hbc)
  apply Nat.eq_of_testBit_eq
  intro i
  rw [Nat.testBit_and, msk, Nat.add_comm (2 ^ b - 1), Nat.add_comm (x % 2 ^ b)]
  rw [Nat.testBit_two_pow_mul_add _ hm, Nat.testBit_two_pow_mul_add _ hlow]
  by_cases hi : i < c
  · rw [if_pos hi, if_pos hi, Nat.testBit_two_pow_sub_one, Nat.testBit_mod_two_pow, Bool.and_comm]
  · rw [if_neg hi, if_neg hi, Nat.testBit_and, Nat.testBit_div_two_pow]
    congr 2
    omega

/-- lanes of two bits -/
def st1 (n x : Nat) : Nat := ((x / 2) &&& msk 1 2 n) + (x &&& msk 1 2 n)
theorem st1_succ (n x : Nat) : st1 (n + 1) x = (x % 2 + x / 2 % 2) + 4 * st1 n (x / 4) := by
  unfold st1
  rw [and_msk 1 2 n x (by omega), and_msk 1 2 n (x / 2) (by omega)]
  rw [show x / 2 / 2 ^ 2 = x / 4 / 2 from by omega, show x / 2 ^ 2 = x / 4 from rfl]
  omega

/-- lanes of four -/
def st2 (n y : Nat) : Nat := ((y / 4) &&& msk 2 4 n) + (y &&& msk 2 4 n)
theorem st2_succ (n y : Nat) : st2 (n + 1) y = (y % 4 + y / 4 % 4) + 16 * st2 n (y / 16) := by
  unfold st2
  rw [and_msk 2 4 n y (by omega), and_msk 2 4 n (y / 4) (by omega)]
  rw [show y / 4 / 2 ^ 4 = y / 16 / 4 from by omega, show y / 2 ^ 4 = y / 16 from rfl]
  omega

theorem st1_lane (n x : Nat) : st1 (n + 2) x % 16 = x % 2 + x / 2 % 2 + 4 * (x / 4 % 2 + x / 4 / 2 % 2) ∧ st1 (n + 2) x / 16 = st1 n (x / 16) := by
  rw [st1_succ, st1_succ, show x / 16 = x / 4 / 4 from by omega]
  constructor <;> omega

theorem st12 : ∀ (n x : Nat), st2 (n + 1) (st1 (2 * (n + 1)) x) = pc 4 x + 16 * st2 n (st1 (2 * n) (x / 16)) := by
  intro n x
  rw [st2_succ, show 2 * (n + 1) = 2 * n + 2 from by omega]
  obtain ⟨h1, h2⟩ := st1_lane (2 * n) x
  rw [h2]
  have hp : pc 4 x = x % 2 + (x / 2 % 2 + (x / 2 / 2 % 2 + (x / 2 / 2 / 2 % 2 + 0))) := rfl
  rw [show x / 2 / 2 = x / 4 from by omega] at hp
  rw [hp]
  generalize st1 (2 * n + 2) x = y at *
  generalize x / 4 / 2 % 2 = b3 at *
  have : x % 2 < 2 ∧ x / 2 % 2 < 2 ∧ x / 4 % 2 < 2 := by omega
  generalize x % 2 = b0 at *
  generalize x / 2 % 2 = b1 at *
  generalize x / 4 % 2 = b2 at *
  omega

/-- lanes of eight -/
def st3 (n z : Nat) : Nat := (z / 16 + z) &&& msk 4 8 n

theorem pc_le : ∀ (n x : Nat), pc n x ≤ n
  | 0, x => Nat.le_refl _
  | n + 1, x => by have := pc_le n (x / 2); simp only [pc]; omega

theorem pc_add : ∀ (m n x : Nat), pc (m + n) x = pc m x + pc n (x / 2 ^ m)
  | 0, n, x => by simp [pc]
  | m + 1, n, x => by
    rw [show m + 1 + n = (m + n) + 1 from by omega]
    simp only [pc]
    rw [pc_add m n (x / 2), Nat.div_div_eq_div_mul, Nat.pow_succ, Nat.mul_comm 2]
    omega

/-- all lanes of four -/
def z4 (n x : Nat) : Nat := st2 n (st1 (2 * n) x)
theorem z4_succ (n x : Nat) : z4 (n + 1) x = pc 4 x + 16 * z4 n (x / 16) := st12 n x
theorem z4_zero (x : Nat) : z4 0 x = 0 := by simp [z4, st2, msk]

theorem st3_succ (n x : Nat) : st3 (n + 1) (z4 (2 * n + 2) x) = pc 8 x + 256 * st3 n (z4 (2 * n) (x / 256)) := by
  unfold st3
  rw [and_msk 4 8 n _ (by omega)]
  have e1 := z4_succ (2 * n + 1) x
  have e2 := z4_succ (2 * n) (x / 16)
  rw [Nat.div_div_eq_div_mul] at e2
  have e0 : pc 8 x = pc 4 x + pc 4 (x / 16) := pc_add 4 4 x
  have b1 := pc_le 4 x
  have b2 := pc_le 4 (x / 16)
  have b3 : z4 (2 * n) (x / (16 * 16)) % 16 ≤ 4 := by
    cases n with
    | zero => rw [z4_zero]; omega
    | succ n =>
      rw [show 2 * (n + 1) = (2 * n + 1) + 1 from by omega, z4_succ]
      have := pc_le 4 (x / (16 * 16))
      omega
  rw [show x / 256 = x / (16 * 16) from rfl]
  generalize z4 (2 * n) (x / (16 * 16)) = q at *
  generalize z4 (2 * n + 1) (x / 16) = r at *
  generalize z4 (2 * n + 2) x = t at *
  have ht : (t / 16 + t) / 2 ^ 8 = q / 16 + q := by omega
  rw [ht]
  have : (t / 16 + t) % 2 ^ 4 = pc 4 x + pc 4 (x / 16) := by omega
  omega

theorem bytes (x : Nat) : st3 8 (z4 16 x) = pc 8 x + 256 * (pc 8 (x / 2 ^ 8) + 256 * (pc 8 (x / 2 ^ 16) + 256 * (pc 8 (x / 2 ^ 24) + 256 * (pc 8 (x / 2 ^ 32) + 256 * (pc 8 (x / 2 ^ 40) + 256 * (pc 8 (x / 2 ^ 48) + 256 * pc 8 (x / 2 ^ 56))))))) := by
  have h (n x : Nat) := st3_succ n x
  have h0 : ∀ x, st3 0 (z4 0 x) = 0 := fun x => by simp [st3, msk]
  rw [h 7, h 6, h 5, h 4, h 3, h 2, h 1, h 0, h0]
  simp only [Nat.div_div_eq_div_mul]
  try rfl

theorem pc64 (x : Nat) : pc 64 x = pc 8 x + (pc 8 (x / 2 ^ 8) + (pc 8 (x / 2 ^ 16) + (pc 8 (x / 2 ^ 24) + (pc 8 (x / 2 ^ 32) + (pc 8 (x / 2 ^ 40) + (pc 8 (x / 2 ^ 48) + pc 8 (x / 2 ^ 56))))))) := by
  rw [pc_add 8 56 x, pc_add 8 48, pc_add 8 40, pc_add 8 32, pc_add 8 24, pc_add 8 16, pc_add 8 8]
  simp only [Nat.div_div_eq_div_mul]
  try rfl

theorem oc1_nat (x : Nat) (hx : x < 18446744073709551616) : oc1 (x : Int) = (st1 32 x : Nat) := by
  have hm : msk 1 2 32 = 6148914691236517205 := by decide
  unfold oc1 st1
  rw [show (1 : Int) = ((1 : Nat) : Int) from rfl, sh_nat x 1 (by omega), show (6148914691236517205 : Int) = ((6148914691236517205 : Nat) : Int) from rfl, ub_nat _ _ (by omega) (by omega), ub_nat _ _ hx (by omega), u64w_eq, hm]
  have h1 : x / 2 ^ 1 &&& 6148914691236517205 ≤ 6148914691236517205 := Nat.and_le_right
  have h2 : x &&& 6148914691236517205 ≤ 6148914691236517205 := Nat.and_le_right
  rw [show x / 2 ^ 1 = x / 2 from rfl] at *
  omega

theorem st1_lt (x : Nat) : st1 32 x < 18446744073709551616 := by
  have hm : msk 1 2 32 = 6148914691236517205 := by decide
  unfold st1
  rw [hm]
  have h1 : x / 2 &&& 6148914691236517205 ≤ 6148914691236517205 := Nat.and_le_right
  have h2 : x &&& 6148914691236517205 ≤ 6148914691236517205 := Nat.and_le_right
  omega

theorem oc2_nat (x : Nat) (hx : x < 18446744073709551616) : oc2 (x : Int) = (st2 16 x : Nat) := by
  have hm : msk 2 4 16 = 3689348814741910323 := by decide
  unfold oc2 st2
  rw [show (2 : Int) = ((2 : Nat) : Int) from rfl, sh_nat x 2 (by omega), show (3689348814741910323 : Int) = ((3689348814741910323 : Nat) : Int) from rfl, ub_nat _ _ (by omega) (by omega), ub_nat _ _ hx (by omega), u64w_eq, hm]
  have h1 : x / 2 ^ 2 &&& 3689348814741910323 ≤ 3689348814741910323 := Nat.and_le_right
  have h2 : x &&& 3689348814741910323 ≤ 3689348814741910323 := Nat.and_le_right
  rw [show x / 2 ^ 2 = x / 4 from rfl] at *
  omega

theorem st2_lt (x : Nat) : st2 16 x ≤ 7378697629483820646 := by
  have hm : msk 2 4 16 = 3689348814741910323 := by decide
  unfold st2
  rw [hm]
  have h1 : x / 4 &&& 3689348814741910323 ≤ 3689348814741910323 := Nat.and_le_right
  have h2 : x &&& 3689348814741910323 ≤ 3689348814741910323 := Nat.and_le_right
  omega

theorem oc3_nat (x : Nat) (hx : x ≤ 7378697629483820646) : oc3 (x : Int) = (st3 8 x : Nat) := by
  have hm : msk 4 8 8 = 1085102592571150095 := by decide
  unfold oc3 st3
  rw [show (4 : Int) = ((4 : Nat) : Int) from rfl, sh_nat x 4 (by omega), u64w_eq, hm]
  rw [show (((x / 2 ^ 4 : Nat) : Int) + (x : Int)) % 18446744073709551616 = ((x / 16 + x : Nat) : Int) from by omega, show (1085102592571150095 : Int) = ((1085102592571150095 : Nat) : Int) from rfl, ub_nat _ _ (by omega) (by omega)]

theorem oc_nat (x : Nat) (hx : x < 18446744073709551616) : ∃ t : Nat, oc6 (oc5 (oc4 (oc3 (oc2 (oc1 (x : Int)))))) = (t : Int) ∧ t < 9223372036854775808 ∧ t % 256 = pc 64 x := by
  rw [oc1_nat x hx, oc2_nat _ (st1_lt x), oc3_nat _ (st2_lt _)]
  have hb := bytes x
  rw [show z4 16 x = st2 16 (st1 32 x) from rfl] at hb
  have hp := pc64 x
  generalize st3 8 (st2 16 (st1 32 x)) = y at *
  have b0 := pc_le 8 x
  have b1 := pc_le 8 (x / 2 ^ 8)
  have b2 := pc_le 8 (x / 2 ^ 16)
  have b3 := pc_le 8 (x / 2 ^ 24)
  have b4 := pc_le 8 (x / 2 ^ 32)
  have b5 := pc_le 8 (x / 2 ^ 40)
  have b6 := pc_le 8 (x / 2 ^ 48)
  have b7 := pc_le 8 (x / 2 ^ 56)
  generalize pc 8 x = c0 at *
  generalize pc 8 (x / 2 ^ 8) = c1 at *
  generalize pc 8 (x / 2 ^ 16) = c2 at *
  generalize pc 8 (x / 2 ^ 24) = c3 at *
  generalize pc 8 (x / 2 ^ 32) = c4 at *
  generalize pc 8 (x / 2 ^ 40) = c5 at *
  generalize pc 8 (x / 2 ^ 48) = c6 at *
  generalize pc 8 (x / 2 ^ 56) = c7 at *
  generalize pc 64 x = p at *
  have e4 : oc4 (y : Int) = ((y + y / 256 : Nat) : Int) := by
    unfold oc4
    rw [show (8 : Int) = ((8 : Nat) : Int) from rfl, sh_nat y 8 (by omega), u64w_eq, show (2 : Nat) ^ 8 = 256 from rfl]
    omega
  have h8 : y / 256 = c1 + 256 * (c2 + 256 * (c3 + 256 * (c4 + 256 * (c5 + 256 * (c6 + 256 * c7))))) := by omega
  rw [e4]
  have hu : y + y / 256 = (c0 + c1) + 256 * ((c1 + c2) + 256 * ((c2 + c3) + 256 * ((c3 + c4) + 256 * ((c4 + c5) + 256 * ((c5 + c6) + 256 * ((c6 + c7) + 256 * c7)))))) := by omega
  generalize y + y / 256 = u at *
  clear h8 hb e4
  have e5 : oc5 (u : Int) = ((u + u / 65536 : Nat) : Int) := by
    unfold oc5
    rw [show (16 : Int) = ((16 : Nat) : Int) from rfl, sh_nat u 16 (by omega), u64w_eq, show (2 : Nat) ^ 16 = 65536 from rfl]
    omega
  have h16 : u / 65536 = (c2 + c3) + 256 * ((c3 + c4) + 256 * ((c4 + c5) + 256 * ((c5 + c6) + 256 * ((c6 + c7) + 256 * c7)))) := by omega
  rw [e5]
  have hv : ∃ a1 a2 a3 a5 a6 a7 : Nat, a1 ≤ 64 ∧ a2 ≤ 64 ∧ a3 ≤ 64 ∧ a5 ≤ 64 ∧ a6 ≤ 64 ∧ a7 ≤ 64 ∧ u + u / 65536 = (c0 + c1 + c2 + c3) + 256 * (a1 + 256 * (a2 + 256 * (a3 + 256 * ((c4 + c5 + c6 + c7) + 256 * (a5 + 256 * (a6 + 256 * a7)))))) :=
    ⟨c1 + c2 + c3 + c4, c2 + c3 + c4 + c5, c3 + c4 + c5 + c6, c5 + c6 + c7, c6 + c7, c7, by omega, by omega, by omega, by omega, by omega, by omega, by omega⟩
  obtain ⟨a1, a2, a3, a5, a6, a7, g1, g2, g3, g5, g6, g7, hv⟩ := hv
  generalize u + u / 65536 = v at *
  clear hu h16 e5
  have e6 : oc6 (v : Int) = ((v + v / 4294967296 : Nat) : Int) := by
    unfold oc6
    rw [show (32 : Int) = ((32 : Nat) : Int) from rfl, sh_nat v 32 (by omega), u64w_eq, show (2 : Nat) ^ 32 = 4294967296 from rfl]
    omega
  rw [e6]
  refine ⟨v + v / 4294967296, rfl, by omega, ?_⟩
  have : v / 4294967296 = (c4 + c5 + c6 + c7) + 256 * (a5 + 256 * (a6 + 256 * a7)) := by omega
  omega

theorem and127 (t : Nat) (ht : t < 9223372036854775808) : bitop .and .i64 (t : Int) 127 = ((t % 128 : Nat) : Int) := by
  have h1 : (BitVec.ofInt 64 (t : Int)).toNat = t := by
    rw [BitVec.ofInt_natCast, BitVec.toNat_ofNat]; exact Nat.mod_eq_of_lt (by omega)
  have h2 : (BitVec.ofInt 64 (127 : Int)).toNat = 127 := by decide
  show IntKind.i64.wrap ((BitVec.ofInt 64 (t : Int) &&& BitVec.ofInt 64 (127 : Int)).toNat : Int) = _
  rw [BitVec.toNat_and, h1, h2, show (127 : Nat) = 2 ^ 7 - 1 from rfl, Nat.and_two_pow_sub_one_eq_mod]
  generalize hm : t % 2 ^ 7 = m
  have : m < 128 := by omega
  simp only [IntKind.wrap, IntKind.signed, IntKind.bits]
  simp
  omega

theorem ocF_nat (x : Nat) (hx : x < 18446744073709551616) : ocF (x : Int) = (pc 64 x : Nat) := by
  obtain ⟨t, h1, h2, h3⟩ := oc_nat x hx
  unfold ocF
  rw [h1, and127 t h2]
  have := pc_le 64 x
  omega

theorem ones_ok {Z : Glob} : FnOk P Z 35 [tU] [tInt] (fun (x, ()) => [(0 : Int) ≤ x ∧ x < (18446744073709551616 : Int)]) (fun (x, ()) => (((pc 64 (Int.toNat x) : Nat) : Int), ())) := by
  refine fnOk_of_safe Tryd.func35 (by kernel_rfl) (by kernel_rfl) ?_
  rintro ⟨(x : Int), ⟨⟩⟩ _ ⟨(hx : 0 ≤ x ∧ x < 18446744073709551616), _⟩ X hX hz
  obtain ⟨n, rfl⟩ := Int.eq_ofNat_of_zero_le hx.1
  obtain ⟨t, h1, h2, h3⟩ := oc_nat n (by omega)
  refine go hz hX Tab.Ok.nil Tryd.func35 (tree35 n) ⟨by omega, by omega, by omega, by omega, by omega, by omega, ?_, ends_eq (ocF n, ()) ?_ (by kernel_rfl)⟩
  · rw [h1]; exact ⟨by omega, by omega⟩
  · rw [ocF_nat n (by omega)]; rfl
end Bx
