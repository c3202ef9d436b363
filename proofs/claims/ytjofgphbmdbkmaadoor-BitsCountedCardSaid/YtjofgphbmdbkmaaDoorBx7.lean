import Derived.Test.YtjofgphbmdbkmaaDoorBx6
namespace Bx
open Go Go.Sx Go.Proofs Go.RowKit
set_option maxHeartbeats 1000000 in
theorem tz_core (x k idx : Nat) (w : World) (hx0 : ((x : Int) == 0) = false)
    (key : IntKind.u64.wrap (bits BinOp.and IntKind.u64 (x : Int) (IntKind.u64.wrap (-(x : Int))) * 285870213051353865) / 288230376151711744 = (idx : Int))
    (hi : idx < 64) (hk : k < 64) (hcell : w.cell? ⟨0, idx, none⟩ = some (.int .u8 k)) :
    Calls Tryd.prog 34 #[.int .u64 x] w fun e w' => e = .returned (.int .i64 k) ∧ w' = w := by
  go_enter Tryd.func34, Tryd.ntmps34
  go_wp2_with (simp only [key])
  go_ret
  exact ⟨rfl, rfl⟩
set_option maxHeartbeats 1000000 in
theorem tz_zero (w : World) :
    Calls Tryd.prog 34 #[.int .u64 0] w fun e w' => e = .returned (.int .i64 64) ∧ w' = w := by
  go_enter Tryd.func34, Tryd.ntmps34
  go_wp2
  go_ret
  exact ⟨rfl, rfl⟩

theorem tz_low (w : World) (h : TabAt 0 Lib.deBruijn64tab w) : 0 < w.heap.size := by
  have h0 := h 0 (by decide)
  rcases Nat.lt_or_ge 0 w.heap.size with h1 | h1
  · exact h1
  · simp [World.cell?, Array.getElem?_eq_none h1] at h0

/-- The library's table, where its variable is. -/
def zTab : Glob := ⟨[0], TabAt 0 Lib.deBruijn64tab, fun w h b hb => by rw [List.mem_singleton.1 hb]; exact tz_low w h, fun w w' h k j hj => by rw [cell?_same (k 0 (by simp))]; exact h j hj⟩

theorem tz_any (x : Nat) (hx : x < 18446744073709551616) (w : World) (hT : TabAt 0 Lib.deBruijn64tab w) :
    Calls Tryd.prog 34 #[.int .u64 x] w fun e w' => e = .returned (.int .i64 (Lib.ctz 64 x)) ∧ w' = w := by
  by_cases hx0 : x = 0
  · subst hx0
    exact tz_zero w
  · obtain ⟨hlow, hk⟩ := Lib.lowest_bit 64 x hx0 hx
    obtain ⟨hi, htab⟩ := Lib.deBruijn64_at _ hk
    have hcell := hT _ hi
    rw [htab] at hcell
    exact tz_core x _ _ w (by simp; omega) (tz64_key x _ hx hx0 hlow) hi hk hcell

theorem tz_ok : FnOk P zTab 34 [tU] [tInt] (fun (x, ()) => [(0 : Int) ≤ x ∧ x < (18446744073709551616 : Int)]) (fun (x, ()) => (ctzI x, ())) := by
  rintro ⟨(x : Int), ⟨⟩⟩ _ ⟨(hx : 0 ≤ x ∧ x < 18446744073709551616), _⟩ G w vs hG hz hd
  obtain ⟨n, rfl⟩ := Int.eq_ofNat_of_zero_le hx.1
  obtain ⟨v, rest, rfl, h1, h2⟩ := DenL_cons.1 hd
  obtain rfl := DenL_nil.1 h2
  have h3 : v = .int .u64 n := by
    have := DenS_of_V (x := .int .u64 n) (by simp) h1
    cases this; rfl
  subst h3
  refine (tz_any n (by omega) w hz).mono ?_
  rintro e w' ⟨rfl, rfl⟩
  refine ⟨_, rfl, Good.val ⟨fun id o ho => by simp at ho, fun i j oi oj b hi => by simp at hi, fun b hb => ?_, hG⟩ ?_⟩
  · obtain ⟨id, o, ho, _⟩ := hb; cases ho
  · exact DenV_s (.int .i64 _)
end Bx
