import Derived.Test.YtjofgphbmdbkmaaDoorBx5
import Derived.Lib.TrailingZeros
import Derived.Shelf.Spec.TrailingZeros
import Derived.Test.YtjofgphbmdbkmaaDoorRows
import Derived.WalkKit
import Derived.WalkSpells
import Derived.WalkLawsBesides
namespace Bx
open Go Go.Sx Go.Proofs
abbrev s35 := sumOf [tU] [tInt] (fun (x, ()) => [(0 : Int) ≤ x ∧ x < (18446744073709551616 : Int)]) (fun (x, ()) => (((pc 64 (Int.toNat x) : Nat) : Int), ()))
def tab5 : Tab := [(35, s35)]
def ns14 : List (Nat × Norm) := [(3, ⟨[], [3, 6, 7], 0, []⟩)]
noncomputable def c14 (ws : List Int) (n i : Int) : Cfg := ⟨sl 16 [(3, .s (.int .i64 n)), (6, .ints .u64 16 ws), (7, .s (.int .i64 i))], [], hd Tryd.f14 3⟩
theorem tree14 (ws : List Int) : run P tab5.sum Tryd.f14 ns14 (start Tryd.f14 [.ints .u64 16 ws] []) =
  Tree.at { tmps := sl (16 : Nat) [((3 : Nat), AV.s (SV.int IntKind.i64 (0 : Int))), ((6 : Nat), AV.ints IntKind.u64 (16 : Nat) ws), ((7 : Nat), AV.s (SV.int IntKind.i64 (0 : Int)))], H := [], todo := hd Tryd.f14 (3 : Nat) } := by kernel_rfl
theorem loop14 (ws : List Int) (n i : Int) : run P tab5.sum Tryd.f14 ns14 (c14 ws n i) =
  Tree.ite (decide (i < (16 : Int))) (Tree.need ((0 : Int) ≤ i) (Tree.need (i < (↑(16 : Nat) : Int)) (Tree.need ((0 : Int) ≤ ws.getD i.toNat (0 : Int) ∧ ws.getD i.toNat (0 : Int) < (18446744073709551616 : Int)) (Tree.need (inI64 (n + (↑(pc (64 : Nat) (ws.getD i.toNat (0 : Int)).toNat) : Int))) (Tree.need (inI64 (i + (1 : Int))) (Tree.at { tmps := sl (16 : Nat) [((3 : Nat), AV.s (SV.int IntKind.i64 (n + (↑(pc (64 : Nat) (ws.getD i.toNat (0 : Int)).toNat) : Int)))), ((6 : Nat), AV.ints IntKind.u64 (16 : Nat) ws), ((7 : Nat), AV.s (SV.int IntKind.i64 (i + (1 : Int))))], H := [], todo := hd Tryd.f14 (3 : Nat) })))))) (Tree.ret [] (AV.s (SV.int IntKind.i64 n))) := by kernel_rfl

def ctzI (x : Int) : Int := (Lib.ctz 64 x.toNat : Nat)
abbrev s34 := sumOf [tU] [tInt] (fun (x, ()) => [(0 : Int) ≤ x ∧ x < (18446744073709551616 : Int)]) (fun (x, ()) => (ctzI x, ()))
abbrev s13 := sumOf [tInt] [tSet] (fun _ => []) (fun (n, ()) => (belowF n, ()))
abbrev s21 := sumOf [tSet, tSet] [tSet] (fun _ => []) (fun (a, b, ()) => (zipF .andNot a b, ()))
def tab6 : Tab := [(13, s13), (21, s21), (34, s34)]
def ns12 : List (Nat × Norm) := [(6, ⟨[], [17, 18], 0, []⟩)]
noncomputable def c12 (ws : List Int) (i : Int) : Cfg := ⟨sl 30 [(17, .ints .u64 16 ws), (18, .s (.int .i64 i))], [], hd Tryd.f12 6⟩
theorem tree12 (ws : List Int) (n : Int) : run P tab6.sum Tryd.f12 ns12 (start Tryd.f12 [.ints .u64 16 ws, .s (.int .i64 n)] []) =
  Tree.ite (decide (imax n (0 : Int) ≥ (1024 : Int))) (Tree.ret [AObj.own [AV.ints IntKind.u64 (16 : Nat) ws] (25 : Nat)] (AV.tup [AV.s (SV.ilit IntKind.i64 (0 : Int)), AV.s (SV.blit false)])) (Tree.at { tmps := sl (30 : Nat) [((17 : Nat), AV.ints IntKind.u64 (16 : Nat) (zipF BinOp.andNot ws (belowF (imax n (0 : Int))))), ((18 : Nat), AV.s (SV.int IntKind.i64 (0 : Int)))], H := [], todo := hd Tryd.f12 (6 : Nat) }) := by kernel_rfl
theorem loop12 (ws : List Int) (i : Int) : run P tab6.sum Tryd.f12 ns12 (c12 ws i) =
  Tree.ite (decide (i < (16 : Int))) (Tree.need ((0 : Int) ≤ i) (Tree.need (i < (↑(16 : Nat) : Int)) (Tree.ite (ws.getD i.toNat (0 : Int) != (0 : Int)) (Tree.need (inI64 (i * (64 : Int))) (Tree.need ((0 : Int) ≤ ws.getD i.toNat (0 : Int) ∧ ws.getD i.toNat (0 : Int) < (18446744073709551616 : Int)) (Tree.need (inI64 (i * (64 : Int) + ctzI (ws.getD i.toNat (0 : Int)))) (Tree.ret [] (AV.tup [AV.s (SV.int IntKind.i64 (i * (64 : Int) + ctzI (ws.getD i.toNat (0 : Int)))), AV.s (SV.blit true)]))))) (Tree.need (inI64 (i + (1 : Int))) (Tree.at { tmps := sl (30 : Nat) [((17 : Nat), AV.ints IntKind.u64 (16 : Nat) ws), ((18 : Nat), AV.s (SV.int IntKind.i64 (i + (1 : Int))))], H := [], todo := hd Tryd.f12 (6 : Nat) }))))) (Tree.ret [] (AV.tup [AV.s (SV.ilit IntKind.i64 (0 : Int)), AV.s (SV.blit false)])) := by kernel_rfl

def firstNZ : List Int → Int → Option Int
  | [], _ => none
  | w :: ws, i => if w ≠ 0 then some (i * 64 + ctzI w) else firstNZ ws (i + 1)
def nextO (ws : List Int) (n : Int) : Option Int := if imax n 0 ≥ 1024 then none else firstNZ (zipF .andNot ws (belowF (imax n 0))) 0
def nextN (ws : List Int) (n : Int) : Int := (nextO ws n).getD 0
def nextIs (ws : List Int) (n : Int) : Bool := (nextO ws n).isSome
abbrev s12 := sumOf [tSet, tInt] [tInt, tBool] (fun (ws, _, ()) => [okW ws]) (fun (ws, n, ()) => (nextN ws n, nextIs ws n, ()))
def tab7 : Tab := [(12, s12)]
def ns20 : List (Nat × Norm) := [(3, ⟨[(3, .ints .i64 [], 3)], [1, 3, 4, 5], 0, []⟩)]
noncomputable def c20 (ws out : List Int) (n : Int) (is : Bool) : Cfg := ⟨sl 24 [(1, .ptr 0 0), (3, .vec 1), (4, .s (.int .i64 n)), (5, .s (.bool is))], [.own [.ints .u64 16 ws] 25, .vec (.ints .i64 out) 3], hd Tryd.f20 3⟩
theorem tree20 (ws : List Int) : run P tab7.sum Tryd.f20 ns20 (start Tryd.f20 [.ints .u64 16 ws] []) =
  Tree.need (okW ws) (Tree.at { tmps := sl (24 : Nat) [((1 : Nat), AV.ptr (0 : Nat) (0 : Nat)), ((3 : Nat), AV.vec (1 : Nat)), ((4 : Nat), AV.s (SV.int IntKind.i64 (nextN ws (0 : Int)))), ((5 : Nat), AV.s (SV.bool (nextIs ws (0 : Int))))], H := [AObj.own [AV.ints IntKind.u64 (16 : Nat) ws] (25 : Nat), AObj.vec (Con.ints IntKind.i64 []) (3 : Nat)], todo := hd Tryd.f20 (3 : Nat) }) := by kernel_rfl
theorem loop20 (ws out : List Int) (n : Int) (is : Bool) : run P tab7.sum Tryd.f20 ns20 (c20 ws out n is) =
  Tree.ite is (Tree.need (out.length + (1 : Nat) ≤ (4294967296 : Nat)) (Tree.need (inI64 (n + (1 : Int))) (Tree.need (okW ws) (Tree.at { tmps := sl (24 : Nat) [((1 : Nat), AV.ptr (0 : Nat) (0 : Nat)), ((3 : Nat), AV.vec (1 : Nat)), ((4 : Nat), AV.s (SV.int IntKind.i64 (nextN ws (n + (1 : Int))))), ((5 : Nat), AV.s (SV.bool (nextIs ws (n + (1 : Int)))))], H := [AObj.own [AV.ints IntKind.u64 (16 : Nat) ws] (25 : Nat), AObj.vec (Con.ints IntKind.i64 (out ++ [n])) (3 : Nat)], todo := hd Tryd.f20 (3 : Nat) })))) (Tree.ret [AObj.own [AV.ints IntKind.u64 (16 : Nat) ws] (25 : Nat), AObj.vec (Con.ints IntKind.i64 out) (3 : Nat)] (AV.vec (1 : Nat))) := by kernel_rfl
/-! which numbers are in a set, rising -/
def fr (b : Nat → Bool) (m : Nat) : List Nat := (List.range m).filter b
def allN (ws : List Int) : List Nat := fr (bit ws) 1024
def toI (l : List Nat) : List Int := l.map fun (k : Nat) => (k : Int)

theorem fr_succ (b : Nat → Bool) (m : Nat) : fr b (m + 1) = fr b m ++ (if b m = true then [m] else []) := by
  unfold fr
  rw [List.range_succ, List.filter_append]
  cases h : b m <;> simp [h]

theorem fr_extend {b : Nat → Bool} {m : Nat} : ∀ (p : Nat), m ≤ p → (∀ k, m ≤ k → k < p → b k = false) → fr b p = fr b m
  | 0, h, _ => by rw [show m = 0 from by omega]
  | p + 1, h, hb => by
    by_cases hm : m = p + 1
    · rw [hm]
    · rw [fr_succ, fr_extend p (by omega) (fun k h1 h2 => hb k h1 (by omega)), hb p (by omega) (by omega)]
      simp

theorem fr_length (b : Nat → Bool) (m : Nat) : (fr b m).length ≤ m := by
  have := List.length_filter_le b (List.range m)
  rwa [List.length_range] at this

theorem ctz_bits {x : Nat} (h0 : x ≠ 0) (h : x < 18446744073709551616) : Lib.ctz 64 x < 64 ∧ x.testBit (Lib.ctz 64 x) = true ∧ ∀ c, c < Lib.ctz 64 x → x.testBit c = false := by
  unfold Lib.ctz
  rw [if_neg h0]
  obtain ⟨m, h1, h2⟩ := Lib.ctzFrom_spec 64 x (by omega) h
  generalize Lib.ctzFrom 64 x = e at *
  refine ⟨h2, ?_, fun c hc => ?_⟩
  · rw [h1, Nat.testBit_two_pow_mul]
    simp
  · rw [h1, Nat.testBit_two_pow_mul]
    simp; omega

theorem firstNZ_spec : ∀ (l : List Int) (i : Int), (∀ w ∈ l, 0 ≤ w ∧ w < 18446744073709551616) →
    match firstNZ l i with
    | some v => ∃ j c : Nat, j < l.length ∧ c < 64 ∧ v = (i + j) * 64 + c ∧ (l.getD j 0).toNat.testBit c = true ∧ (∀ c', c' < c → (l.getD j 0).toNat.testBit c' = false) ∧ ∀ j', j' < j → l.getD j' 0 = 0
    | none => ∀ j, l.getD j 0 = 0
  | [], i, _ => fun j => by simp
  | w :: l, i, h => by
    unfold firstNZ
    have hw := h w (by simp)
    by_cases h0 : w ≠ 0
    · rw [if_pos h0]
      obtain ⟨h1, h2, h3⟩ := ctz_bits (x := w.toNat) (by omega) (by omega)
      exact ⟨0, Lib.ctz 64 w.toNat, by simp, h1, by simp [ctzI], by simpa using h2, by simpa using h3, fun j' hj => by omega⟩
    · rw [if_neg h0]
      have ih := firstNZ_spec l (i + 1) (fun x hx => h x (by simp [hx]))
      split
      · rename_i v hv
        rw [hv] at ih
        obtain ⟨j, c, h1, h2, h3, h4, h5, h6⟩ := ih
        refine ⟨j + 1, c, by simp; omega, h2, by rw [h3]; simp; omega, by simpa using h4, by simpa using h5, fun j' hj => ?_⟩
        cases j' with
        | zero => simp; omega
        | succ j' => simpa using h6 j' (by omega)
      · rename_i hv
        rw [hv] at ih
        intro j
        cases j with
        | zero => simp; omega
        | succ j => simpa using ih j

theorem nextO_some {ws : List Int} (hw : okW ws) {n v : Int} (h : nextO ws n = some v) : ∃ p : Nat, v = (p : Int) ∧ p < 1024 ∧ bit ws p = true ∧ n ≤ (p : Int) ∧ ∀ k : Nat, k < p → n ≤ (k : Int) → bit ws k = false := by
  unfold nextO at h
  split at h
  · cases h
  · rename_i h0
    obtain ⟨h1, h2⟩ := zip_ok (.inr (.inr rfl)) hw (belowF_ok (imax n 0)).1
    have hs := firstNZ_spec _ 0 h1.2
    rw [h] at hs
    obtain ⟨j, c, g1, g2, g3, g4, g5, g6⟩ := hs
    rw [h1.1] at g1
    have hm : ∀ k, k < 1024 → bit (zipF .andNot ws (belowF (imax n 0))) k = (bit ws k && !decide ((k : Int) < imax n 0)) := fun k hk => by
      rw [h2 k hk, (belowF_ok (imax n 0)).2 k hk]; rfl
    have hp : bit (zipF .andNot ws (belowF (imax n 0))) (64 * j + c) = true := by
      unfold bit wd
      rw [show (64 * j + c) / 64 = j from by omega, show (64 * j + c) % 64 = c from by omega]
      exact g4
    have hlow : ∀ k, k < 64 * j + c → bit (zipF .andNot ws (belowF (imax n 0))) k = false := fun k hk => by
      unfold bit wd
      by_cases hkj : k / 64 = j
      · rw [hkj]; exact g5 _ (by omega)
      · rw [g6 (k / 64) (by omega)]; simp
    have himax : imax n 0 = n ∧ 0 ≤ n ∨ imax n 0 = 0 ∧ n < 0 := by unfold imax; split <;> omega
    have hp2 := hp
    rw [hm _ (by omega)] at hp2
    simp only [Bool.and_eq_true, Bool.not_eq_true', decide_eq_false_iff_not] at hp2
    refine ⟨64 * j + c, by rw [g3]; simp; omega, by omega, hp2.1, by omega, fun k hk hn => ?_⟩
    have := hlow k hk
    rw [hm k (by omega)] at this
    simp only [Bool.and_eq_false_iff, Bool.not_eq_false', decide_eq_true_eq] at this
    rcases this with h | h
    · exact h
    · omega

theorem nextO_none {ws : List Int} (hw : okW ws) {n : Int} (h : nextO ws n = none) : ∀ k : Nat, k < 1024 → n ≤ (k : Int) → bit ws k = false := by
  intro k hk hn
  unfold nextO at h
  have himax : imax n 0 = n ∧ 0 ≤ n ∨ imax n 0 = 0 ∧ n < 0 := by unfold imax; split <;> omega
  split at h
  · omega
  · rename_i h0
    obtain ⟨h1, h2⟩ := zip_ok (.inr (.inr rfl)) hw (belowF_ok (imax n 0)).1
    have hs := firstNZ_spec _ 0 h1.2
    rw [h] at hs
    have hb : bit (zipF .andNot ws (belowF (imax n 0))) k = false := by
      unfold bit wd
      rw [hs]; simp
    rw [h2 k hk, (belowF_ok (imax n 0)).2 k hk, decide_eq_false (by omega)] at hb
    simpa [opb] using hb

/-! how many -/
def lenI (ws : List Int) : Int := ((ws.map fun w => pc 64 w.toNat).sum : Nat)

theorem len_ok {Z : Glob} : FnOk P Z 14 [tSet] [tInt] (fun (ws, ()) => [okW ws]) (fun (ws, ()) => (lenI ws, ())) := by
  refine fnOk_of_safe Tryd.func14 (by kernel_rfl) (by kernel_rfl) ?_
  rintro ⟨(ws : List Int), ⟨⟩⟩ _ ⟨(hw : okW ws), _⟩ X hX hz
  have hT : tab5.Ok P Z := Tab.Ok.cons ones_ok.sum Tab.Ok.nil
  refine go hz hX hT Tryd.func14 (tree14 ws) ?_
  have bound : ∀ l : List Int, (l.map fun w => pc 64 w.toNat).sum ≤ 64 * l.length := fun l => by
    induction l with
    | nil => simp
    | cons a l ih => have := pc_le 64 a.toNat; simp only [List.map_cons, List.sum_cons, List.length_cons]; omega
  refine safe_loop (fun (i : Int) => c14 ws (((ws.take i.toNat).map fun w => pc 64 w.toNat).sum : Nat) i) (fun i => 0 ≤ i ∧ i ≤ 16) (fun i => (16 - i).toNat) ?_ 0 ⟨by omega, by omega⟩
  rintro i ⟨(h0 : 0 ≤ i), (h1 : i ≤ 16)⟩ ih
  have hl := hw.1
  have hb := bound (ws.take i.toNat)
  rw [List.length_take] at hb
  refine go hz hX hT Tryd.func14 (loop14 ws _ i) ⟨fun h => ?_, fun h => ?_⟩
  · have hi : i < (16 : Int) := of_decide_eq_true h
    have hm := hw.2 (ws.getD i.toNat 0) (by rw [List.getD, List.getElem?_eq_getElem (by omega)]; exact List.getElem_mem (by omega))
    have hp := pc_le 64 (ws.getD i.toNat 0).toNat
    refine ⟨h0, hi, hm, ⟨by omega, by omega⟩, ⟨by omega, by omega⟩, ?_⟩
    have := ih (i + 1) ⟨by omega, by omega⟩ (by omega)
    rw [show (i + 1).toNat = i.toNat + 1 from by omega, getD_take ws i.toNat 0 (by omega)] at this
    rw [List.map_append, List.sum_append] at this
    simp only [List.map_cons, List.map_nil, List.sum_cons, List.sum_nil, Nat.add_zero] at this
    rw [Int.natCast_add] at this
    exact this
  · have hi : ¬ i < (16 : Int) := of_decide_eq_false h
    rw [List.take_of_length_le (by omega)]
    exact ends_eq (lenI ws, ()) rfl (by kernel_rfl)

theorem pc_filter : ∀ (n x : Nat), pc n x = ((List.range n).filter x.testBit).length
  | 0, x => rfl
  | n + 1, x => by
    rw [pc, pc_filter n (x / 2), List.range_succ_eq_map, List.filter_cons, List.filter_map]
    have e : (x.testBit ∘ Nat.succ) = (x / 2).testBit := by funext i; simp [Nat.testBit_succ]
    rw [e, Nat.testBit_zero]
    rcases Nat.mod_two_eq_zero_or_one x with h | h
    · rw [h]; simp
    · rw [h]; simp; omega

theorem len_all {ws : List Int} (hl : ws.length = 16) : lenI ws = ((allN ws).length : Nat) := by
  have : ∀ j, j ≤ 16 → (fr (bit ws) (64 * j)).length = ((ws.take j).map fun w => pc 64 w.toNat).sum := by
    intro j
    induction j with
    | zero => intro _; rfl
    | succ j ih =>
      intro hj
      rw [getD_take ws j 0 (by omega), List.map_append, List.sum_append, ← ih (by omega)]
      unfold fr
      rw [show 64 * (j + 1) = 64 * j + 64 from by omega, List.range_add, List.filter_append, List.length_append, List.filter_map, List.length_map]
      simp only [List.map_cons, List.map_nil, List.sum_cons, List.sum_nil, Nat.add_zero]
      rw [pc_filter]
      congr 2
      apply List.filter_congr
      intro i hi
      have hi := List.mem_range.1 hi
      simp only [Function.comp, bit, wd]
      rw [show (64 * j + i) / 64 = j from by omega, show (64 * j + i) % 64 = i from by omega]
  unfold lenI allN
  have h := this 16 (by omega)
  rw [show 64 * 16 = 1024 from rfl] at h
  rw [h, List.take_of_length_le (by omega)]

theorem next_ok {Z : Glob} (h34 : SOk1 P Z 34 s34) : FnOk P Z 12 [tSet, tInt] [tInt, tBool] (fun (ws, _, ()) => [okW ws]) (fun (ws, n, ()) => (nextN ws n, nextIs ws n, ())) := by
  refine fnOk_of_safe Tryd.func12 (by kernel_rfl) (by kernel_rfl) ?_
  rintro ⟨(ws : List Int), (n : Int), ⟨⟩⟩ _ ⟨(hw : okW ws), _⟩ X hX hz
  have hT : tab6.Ok P Z := Tab.Ok.cons below_ok.sum (Tab.Ok.cons less_ok.sum (Tab.Ok.cons h34 Tab.Ok.nil))
  refine go hz hX hT Tryd.func12 (tree12 ws n) ⟨fun h => ?_, fun h => ?_⟩
  · have h : imax n 0 ≥ 1024 := of_decide_eq_true h
    refine ends_eq (0, false, ()) ?_ (by kernel_rfl)
    simp only [nextN, nextIs, nextO, if_pos h]
    rfl
  · have h : ¬ imax n 0 ≥ 1024 := of_decide_eq_false h
    have e : nextO ws n = firstNZ (zipF .andNot ws (belowF (imax n 0))) 0 := by unfold nextO; rw [if_neg h]
    have hr := (zip_ok (.inr (.inr rfl)) hw (belowF_ok (imax n 0)).1).1
    simp only [nextN, nextIs, e]
    generalize zipF BinOp.andNot ws (belowF (imax n 0)) = rest at *
    refine safe_loop (fun (i : Int) => c12 rest i) (fun i => 0 ≤ i ∧ i ≤ 16 ∧ firstNZ rest 0 = firstNZ (rest.drop i.toNat) i) (fun i => (16 - i).toNat) ?_ 0 ⟨by omega, by omega, rfl⟩
    rintro i ⟨(h0 : 0 ≤ i), (h1 : i ≤ 16), h2⟩ ih
    have hl := hr.1
    refine go hz hX hT Tryd.func12 (loop12 rest i) ⟨fun h => ?_, fun h => ?_⟩
    · have hi : i < (16 : Int) := of_decide_eq_true h
      have hd : rest.drop i.toNat = rest.getD i.toNat 0 :: rest.drop (i.toNat + 1) := by
        rw [List.drop_eq_getElem_cons (by omega), List.getD, List.getElem?_eq_getElem (by omega)]; rfl
      have hm := hr.2 (rest.getD i.toNat 0) (by rw [List.getD, List.getElem?_eq_getElem (by omega)]; exact List.getElem_mem (by omega))
      rw [hd, firstNZ] at h2
      refine ⟨h0, hi, fun h3 => ?_, fun h3 => ⟨⟨by omega, by omega⟩, ih (i + 1) ⟨by omega, by omega, ?_⟩ (by omega)⟩⟩
      · have h3 : rest.getD i.toNat 0 ≠ 0 := by simpa using h3
        rw [if_pos h3] at h2
        have hc := (ctz_bits (x := (rest.getD i.toNat 0).toNat) (by omega) (by omega)).1
        refine ⟨⟨by omega, by omega⟩, hm, ⟨by unfold ctzI; omega, by unfold ctzI; omega⟩, ?_⟩
        rw [h2]
        exact ends_eq _ rfl (by kernel_rfl)
      · have h3 : ¬ rest.getD i.toNat 0 ≠ 0 := by simpa using h3
        rw [if_neg h3] at h2
        rw [h2, show (i + 1).toNat = i.toNat + 1 from by omega]
    · have hi : ¬ i < (16 : Int) := of_decide_eq_false h
      rw [List.drop_eq_nil_of_le (by omega)] at h2
      rw [h2]
      exact ends_eq (0, false, ()) rfl (by kernel_rfl)

theorem all_ok {Z : Glob} (h34 : SOk1 P Z 34 s34) : FnOk P Z 20 [tSet] [tInts] (fun (ws, ()) => [okW ws]) (fun (ws, ()) => (toI (allN ws), ())) := by
  refine fnOk_of_safe Tryd.func20 (by kernel_rfl) (by kernel_rfl) ?_
  rintro ⟨(ws : List Int), ⟨⟩⟩ _ ⟨(hw : okW ws), _⟩ X hX hz
  have hT : tab7.Ok P Z := Tab.Ok.cons (next_ok h34).sum Tab.Ok.nil
  refine go hz hX hT Tryd.func20 (tree20 ws) ⟨hw, ?_⟩
  refine safe_loop (fun (m : Nat) => c20 ws (toI (fr (bit ws) m)) (nextN ws m) (nextIs ws m)) (fun m => m ≤ 1024) (fun m => 1024 - m) ?_ 0 (by omega)
  rintro m (h1 : m ≤ 1024) ih
  have hlen : (toI (fr (bit ws) m)).length ≤ 1024 := by
    have := fr_length (bit ws) m
    simp only [toI, List.length_map]; omega
  refine go hz hX hT Tryd.func20 (loop20 ws _ _ _) ⟨fun h => ?_, fun h => ?_⟩
  · obtain ⟨v, hv⟩ := Option.isSome_iff_exists.1 h
    obtain ⟨p, rfl, g1, g2, g3, g4⟩ := nextO_some hw hv
    have hn : nextN ws m = (p : Int) := by unfold nextN; rw [hv]; rfl
    rw [hn]
    refine ⟨by omega, ⟨by omega, by omega⟩, hw, ?_⟩
    have := ih (p + 1) (by omega) (by omega)
    rw [fr_succ, if_pos g2, fr_extend (m := m) p (by omega) (fun k h1 h2 => g4 k h2 (by omega))] at this
    rw [show toI (fr (bit ws) m ++ [p]) = toI (fr (bit ws) m) ++ [(p : Int)] from by simp [toI]] at this
    rw [Int.natCast_add] at this
    exact this
  · have hv : nextO ws m = none := by
      unfold nextIs at h
      cases hh : nextO ws m with
      | none => rfl
      | some v => rw [hh] at h; cases h
    have e : allN ws = fr (bit ws) m := fr_extend 1024 h1 (fun k h1 h2 => nextO_none hw hv k h2 (by omega))
    rw [← e]
    exact ends_eq (toI (allN ws), ()) rfl (by kernel_rfl)
end Bx
