import Derived.Test.YtjofgphbmdbkmaaDoorBx10
namespace Bx
open Go Go.Sx Go.Proofs
theorem rwithR {Z : Glob} : SOk1 P Z 28 s28 := rwith_ok.sumR
theorem tabL_ok : tabL.Ok P zTab :=
  Tab.Ok.cons works_ok.sum <| Tab.Ok.cons large_ok.sum <| Tab.Ok.cons of_ok.sum <| Tab.Ok.cons rof_ok.sumR <| Tab.Ok.cons (next_ok tz_sum).sum <| Tab.Ok.cons rnext_ok.sum <| Tab.Ok.cons like_ok.sum <| Tab.Ok.cons below_ok.sum <| Tab.Ok.cons rbelow_ok.sumR <|
  Tab.Ok.cons with_ok.sum <| Tab.Ok.cons rwithR <| Tab.Ok.cons without_ok.sum <| Tab.Ok.cons rwithout_ok.sumR <| Tab.Ok.cons or2_ok.sum <| Tab.Ok.cons ror_ok.sumR <| Tab.Ok.cons and2_ok.sum <| Tab.Ok.cons rand_ok.sumR <| Tab.Ok.cons less_ok.sum <| Tab.Ok.cons rless_ok.sumR <|
  Tab.Ok.cons has_ok.sum <| Tab.Ok.cons rhas_ok.sum <| Tab.Ok.cons len_ok.sum <| Tab.Ok.cons (all_ok tz_sum).sum <| Tab.Ok.cons ints_ok.sum Tab.Ok.nil

theorem when {b : Bool} {A B : Prop} (hb : b = true) (h : A) : (b = true → A) ∧ (b = false → B) := ⟨fun _ => h, fun h2 => (by rw [hb] at h2; cases h2)⟩
theorem ends_true {b : Bool} {L : List AObj} (h : b = true) : Ends [tBool] (true, ()) L (AV.s (SV.bool b)) := by
  subst h
  exact ends_eq (true, ()) rfl (by kernel_rfl)
theorem ends_lit {L : List AObj} : Ends [tBool] (true, ()) L (AV.s (SV.blit true)) := ends_eq (true, ()) rfl (by kernel_rfl)

/-! BitsLaws -/
theorem zo {a b : List Int} (ha : okW a) (hb : okW b) : okW (zipF .or a b) := (zip_ok (.inl rfl) ha hb).1
theorem za {a b : List Int} (ha : okW a) (hb : okW b) : okW (zipF .and a b) := (zip_ok (.inr (.inl rfl)) ha hb).1
theorem zl {a b : List Int} (ha : okW a) (hb : okW b) : okW (zipF .andNot a b) := (zip_ok (.inr (.inr rfl)) ha hb).1
theorem bo {a b : List Int} (ha : okW a) (hb : okW b) {k : Nat} (hk : k < 1024) : bit (zipF .or a b) k = (bit a k || bit b k) := (zip_ok (.inl rfl) ha hb).2 k hk
theorem ba {a b : List Int} (ha : okW a) (hb : okW b) {k : Nat} (hk : k < 1024) : bit (zipF .and a b) k = (bit a k && bit b k) := (zip_ok (.inr (.inl rfl)) ha hb).2 k hk
theorem bl {a b : List Int} (ha : okW a) (hb : okW b) {k : Nat} (hk : k < 1024) : bit (zipF .andNot a b) k = (bit a k && !bit b k) := (zip_ok (.inr (.inr rfl)) ha hb).2 k hk

theorem laws_ok : FnOk P zTab 8 [tInts, tInts, tInts] [tBool] (fun _ => []) (fun _ => (true, ())) := by
  refine fnOk_of_safe Tryd.func8 (by kernel_rfl) (by kernel_rfl) ?_
  rintro ⟨(l : List Int), (m : List Int), (k : List Int), ⟨⟩⟩ _ _ X hX hz
  have ha := (ofF_ok l).1
  have hb := (ofF_ok m).1
  have hc := (ofF_ok k).1
  refine go hz hX tabL_ok Tryd.func8 (tree8 l m k) (no_then ⟨fun _ => ends_true rfl, fun _ => ?_⟩)
  generalize ofF l = a at *
  generalize ofF m = b at *
  generalize ofF k = c at *
  refine when (decide_eq_true (ext_bit (zo ha hb) (zo hb ha) fun i hi => ?_)) ?_
  · rw [bo ha hb hi, bo hb ha hi, Bool.or_comm]
  refine when (decide_eq_true (ext_bit (za ha hb) (za hb ha) fun i hi => ?_)) ?_
  · rw [ba ha hb hi, ba hb ha hi, Bool.and_comm]
  refine when (decide_eq_true (ext_bit (zo (zo ha hb) hc) (zo ha (zo hb hc)) fun i hi => ?_)) ?_
  · rw [bo (zo ha hb) hc hi, bo ha hb hi, bo ha (zo hb hc) hi, bo hb hc hi, Bool.or_assoc]
  refine when (decide_eq_true (ext_bit (za (za ha hb) hc) (za ha (za hb hc)) fun i hi => ?_)) ?_
  · rw [ba (za ha hb) hc hi, ba ha hb hi, ba ha (za hb hc) hi, ba hb hc hi, Bool.and_assoc]
  refine when (decide_eq_true (ext_bit (za ha (zo hb hc)) (zo (za ha hb) (za ha hc)) fun i hi => ?_)) ?_
  · rw [ba ha (zo hb hc) hi, bo hb hc hi, bo (za ha hb) (za ha hc) hi, ba ha hb hi, ba ha hc hi, Bool.and_or_distrib_left]
  refine when (decide_eq_true (ext_bit (zo (zl ha hb) (za ha hb)) ha fun i hi => ?_)) ?_
  · rw [bo (zl ha hb) (za ha hb) hi, bl ha hb hi, ba ha hb hi]
    cases bit a i <;> cases bit b i <;> rfl
  refine when (decide_eq_true (ext_bit (za (zl ha hb) hb) zeros_ok.1 fun i hi => ?_)) ?_
  · rw [ba (zl ha hb) hb hi, bl ha hb hi, show bit (List.replicate 16 0) i = false from zeros_ok.2 i]
    cases bit a i <;> cases bit b i <;> rfl
  refine when (decide_eq_true (ext_bit (zo ha ha) ha fun i hi => ?_)) ?_
  · rw [bo ha ha hi, Bool.or_self]
  refine ends_true (decide_eq_true (ext_bit (zl ha ha) zeros_ok.1 fun i hi => ?_))
  rw [bl ha ha hi, show bit (List.replicate 16 0) i = false from zeros_ok.2 i]
  cases bit a i <;> rfl

/-! BitsCounted -/
theorem fr_congr {b b' : Nat → Bool} (m : Nat) (h : ∀ k, k < m → b k = b' k) : fr b m = fr b' m :=
  List.filter_congr fun k hk => h k (List.mem_range.1 hk)

theorem fr_all (m : Nat) : fr (fun _ => true) m = List.range m := by
  unfold fr
  exact List.filter_eq_self.2 fun _ _ => rfl

theorem below_all (n : Int) : allN (belowF n) = List.range (min (max n 0) 1024).toNat := by
  unfold allN
  rw [fr_congr 1024 (fun k hk => (belowF_ok n).2 k hk), fr_extend (m := (min (max n 0) 1024).toNat) 1024 (by omega) (fun k h1 h2 => by simp; omega), ← fr_all]
  exact fr_congr _ fun k hk => by simp; omega

theorem below_len (n : Int) : lenI (belowF n) = imin (imax n 0) 1024 := by
  rw [len_all (belowF_ok n).1.1, below_all, List.length_range]
  unfold imin imax
  split <;> split at * <;> omega

theorem fr_or (a b : Nat → Bool) (m : Nat) : (fr (fun k => a k || b k) m).length + (fr (fun k => a k && b k) m).length = (fr a m).length + (fr b m).length := by
  induction m with
  | zero => rfl
  | succ m ih =>
    simp only [fr_succ, List.length_append]
    cases a m <;> cases b m <;> simp <;> omega

theorem fr_less (a b : Nat → Bool) (m : Nat) : (fr (fun k => a k && !b k) m).length + (fr (fun k => a k && b k) m).length = (fr a m).length := by
  induction m with
  | zero => rfl
  | succ m ih =>
    simp only [fr_succ, List.length_append]
    cases a m <;> cases b m <;> simp <;> omega

theorem counted_ok : FnOk P zTab 9 [tInts, tInts, tInt] [tBool] (fun _ => []) (fun _ => (true, ())) := by
  refine fnOk_of_safe Tryd.func9 (by kernel_rfl) (by kernel_rfl) ?_
  rintro ⟨(l : List Int), (m : List Int), (n : Int), ⟨⟩⟩ _ _ X hX hz
  have ha := (ofF_ok l).1
  have hb := (ofF_ok m).1
  refine go hz hX tabL_ok Tryd.func9 (tree9 l m n) (no_then ⟨fun _ => ends_true rfl, fun _ => ⟨(belowF_ok n).1, ?_⟩⟩)
  generalize ofF l = a at *
  generalize ofF m = b at *
  have e1 : lenI (zipF .or a b) = ((fr (fun k => bit a k || bit b k) 1024).length : Nat) := by
    rw [len_all (zo ha hb).1, allN, fr_congr 1024 (fun k hk => bo ha hb hk)]
  have e2 : lenI (zipF .and a b) = ((fr (fun k => bit a k && bit b k) 1024).length : Nat) := by
    rw [len_all (za ha hb).1, allN, fr_congr 1024 (fun k hk => ba ha hb hk)]
  have e3 : lenI (zipF .andNot a b) = ((fr (fun k => bit a k && !bit b k) 1024).length : Nat) := by
    rw [len_all (zl ha hb).1, allN, fr_congr 1024 (fun k hk => bl ha hb hk)]
  have e4 : lenI a = ((fr (bit a) 1024).length : Nat) := by rw [len_all ha.1]; rfl
  have e5 : lenI b = ((fr (bit b) 1024).length : Nat) := by rw [len_all hb.1]; rfl
  have s1 := fr_or (bit a) (bit b) 1024
  have s2 := fr_less (bit a) (bit b) 1024
  have b1 := fr_length (bit a) 1024
  have b2 := fr_length (bit b) 1024
  refine when (by rw [below_len]; simp) ⟨zo ha hb, za ha hb, ⟨by omega, by omega⟩, ha, hb, ⟨by omega, by omega⟩, when (by rw [e1, e2, e4, e5]; simp; omega) ⟨zl ha hb, ha, za ha hb, ⟨by omega, by omega⟩, ends_true ?_⟩⟩
  rw [e3, e4, e2]
  simp
  omega
end Bx
