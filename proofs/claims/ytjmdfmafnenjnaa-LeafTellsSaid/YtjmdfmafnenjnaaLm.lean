import Derived.Test.YtjmdfmafnenjnaaL7
namespace Lf
open Go Go.Sx Go.Proofs
/-! What Encode writes Decode reads, and the other way round. -/
abbrev U (s : ByteArray) : List UInt8 := s.data.toList
theorem U_len (s : ByteArray) : (U s).length = s.size := Array.length_toList
theorem U_extract (s : ByteArray) (i j : Nat) : U (s.extract i j) = ((U s).drop i).take (j - i) := by
  rw [U, ByteArray.data_extract, Array.toList_extract, List.extract_eq_take_drop]
theorem U_empty : U ByteArray.empty = [] := rfl
theorem U_nil {s : ByteArray} (h : U s = []) : s = ByteArray.empty := ba_ext h

theorem take_of {s : ByteArray} {a b : List UInt8} {k : Int} (h : U s = a ++ b) (hk : (a.length : Int) = k) : tkB k s = true ∧ U (tkT k s) = a ∧ U (tkR k s) = b := by
  have hl := U_len s
  rw [h, List.length_append] at hl
  refine ⟨tkB_iff.2 (by omega), ?_, ?_⟩
  · rw [tkT, if_neg (by omega), U_extract, h, show k.toNat - 0 = a.length from by omega]; simp
  · rw [tkR, if_neg (by omega), U_extract, h, show k.toNat = a.length from by omega, List.drop_left, List.take_of_length_le (by omega)]
theorem of_take {s : ByteArray} {k : Int} (h0 : 0 ≤ k) (h : tkB k s = true) : U s = U (tkT k s) ++ U (tkR k s) ∧ ((U (tkT k s)).length : Int) = k := by
  have hk := tkB_iff.1 h
  have hl := U_len s
  refine ⟨?_, by rw [U_len]; exact tkT_size h0 h⟩
  rw [tkT, tkR, if_neg (by omega), if_neg (by omega), U_extract, U_extract, List.drop_zero, Nat.sub_zero, List.take_of_length_le (l := (U s).drop _) (by simp [hl]), List.take_append_drop]

def txtU (s : ByteArray) : List UInt8 := UInt8.ofNat s.size :: U s
theorem byteAt_cons {s : ByteArray} {a : UInt8} {r : List UInt8} (h : U s = a :: r) : byteAt s 0 = (a.toNat : Int) := by
  simp [byteAt, show s.data.toList = a :: r from h]
theorem byteAt_cons1 {s : ByteArray} {a b : UInt8} {r : List UInt8} (h : U s = a :: b :: r) : byteAt s 1 = (b.toNat : Int) := by
  simp [byteAt, show s.data.toList = a :: b :: r from h]

theorem text_of {s k : ByteArray} {r : List UInt8} (h : U s = txtU k ++ r) (hk : k.size ≤ 255) : rdB s = true ∧ rdT s = k ∧ U (rdR s) = r := by
  obtain ⟨h1, h2, h3⟩ := take_of (s := s) (a := [UInt8.ofNat k.size]) (b := U k ++ r) (k := 1) (by rw [h]; rfl) rfl
  have e : rdK s = (k.size : Int) := by rw [rdK, byteAt_cons h2]; simp; omega
  obtain ⟨g1, g2, g3⟩ := take_of (s := tkR 1 s) (k := rdK s) h3 (by rw [U_len, e])
  refine ⟨by simp [rdB, h1, g1], ?_, ?_⟩
  · rw [rdT, if_pos h1]; exact ba_ext g2
  · rw [rdR, if_pos h1]; exact g3
theorem of_text {s : ByteArray} (h : rdB s = true) : U s = txtU (rdT s) ++ U (rdR s) ∧ (rdT s).size ≤ 255 := by
  simp only [rdB, Bool.and_eq_true] at h
  obtain ⟨h1, h2⟩ := h
  obtain ⟨g1, g2⟩ := of_take (by decide) h1
  have hr := byteAt_range (tkT 1 s) 0
  obtain ⟨g3, g4⟩ := of_take (k := rdK s) hr.1 h2
  have g2 : (U (tkT 1 s)).length = 1 := by omega
  obtain ⟨a, ha⟩ := List.length_eq_one_iff.1 g2
  have e : rdK s = (a.toNat : Int) := byteAt_cons ha
  rw [rdT, rdR, if_pos h1, if_pos h1]
  have hs : (tkT (rdK s) (tkR 1 s)).size = a.toNat := by rw [← U_len]; omega
  refine ⟨?_, by rw [hs]; have := a.toNat_lt; omega⟩
  rw [g1, ha, g3, txtU, hs]
  simp

def encEU (x : En) : List UInt8 := txtU x.1 ++ txtU x.2.1
def encBU (x : Br) : List UInt8 := txtU x.1 ++ [UInt8.ofNat (x.2.1 / 256).toNat, UInt8.ofNat (x.2.1 % 256).toNat]

theorem or_bytes {a b : Int} (ha : 0 ≤ a ∧ a ≤ 255) (hb : 0 ≤ b ∧ b ≤ 255) : bitop BinOp.or IntKind.i64 (IntKind.i64.wrap (a * 2 ^ min (Int.toNat 8) IntKind.i64.bits)) b = a * 256 + b := by
  have e1 : IntKind.i64.wrap (a * 2 ^ min (Int.toNat 8) IntKind.i64.bits) = a * 256 := by
    rw [show (2 : Int) ^ min (Int.toNat 8) IntKind.i64.bits = 256 from by decide]
    exact wrap_i64_in ⟨by omega, by omega⟩
  rw [e1]
  obtain ⟨x, rfl⟩ := Int.eq_ofNat_of_zero_le ha.1
  obtain ⟨y, rfl⟩ := Int.eq_ofNat_of_zero_le hb.1
  show IntKind.i64.wrap ((BitVec.ofInt 64 _ ||| BitVec.ofInt 64 _).toNat : Int) = _
  have e2 : (BitVec.ofInt 64 ((x : Int) * 256)).toNat = 2 ^ 8 * x := by rw [BitVec.toNat_ofInt]; omega
  have e3 : (BitVec.ofInt 64 (y : Int)).toNat = y := by rw [BitVec.toNat_ofInt]; omega
  rw [BitVec.toNat_or, e2, e3, ← Nat.two_pow_add_eq_or_of_lt (by omega), wrap_i64_in ⟨by omega, by omega⟩]
  omega
theorem pg_of {t : ByteArray} {a b : UInt8} (h : U t = [a, b]) : pgOf t = (a.toNat : Int) * 256 + b.toNat := by
  have h1 := a.toNat_lt
  have h2 := b.toNat_lt
  have e0 := byteAt_cons h
  have e1 := byteAt_cons1 h
  rw [pgOf, show byteAt t (Int.toNat 0) = _ from e0, show byteAt t (Int.toNat 1) = _ from e1]
  exact or_bytes ⟨by omega, by omega⟩ ⟨by omega, by omega⟩

theorem decL_end {l : Bool} {n : Nat} {s : ByteArray} {es : List En} {bs : List Br} (h : U s = []) : decL l n s es bs = if mayN l es bs = true then (0, es, bs) else (4, [], []) := by
  cases n with
  | zero => rfl
  | succ n => rw [decL, if_pos (U_nil h)]

theorem dec_leaf : ∀ (n : Nat) (es2 : List En) (s : ByteArray) (es : List En) (bs : List Br), s.size ≤ n → U s = es2.flatMap encEU → (∀ x ∈ es2, x.1.size ≤ 255 ∧ x.2.1.size ≤ 255) → decL true n s es bs = if mayN true (es ++ es2) bs = true then (0, es ++ es2, bs) else (4, [], [])
  | n, [], s, es, bs, _, hu, _ => by rw [decL_end hu, List.append_nil]
  | 0, x :: es2, s, es, bs, hn, hu, _ => by
    have := U_len s
    rw [hu] at this
    simp [encEU, txtU] at this
    omega
  | n + 1, x :: es2, s, es, bs, hn, hu, hx => by
    obtain ⟨k, v, ⟨⟩⟩ := x
    have hx0 := hx (k, v, ()) (by simp)
    have h0 : s ≠ ByteArray.empty := fun e => by subst e; simp [U_empty, encEU, txtU] at hu
    obtain ⟨a1, a2, a3⟩ := text_of (s := s) (k := k) (r := txtU v ++ es2.flatMap encEU) (by rw [hu]; simp [encEU]) hx0.1
    obtain ⟨b1, b2, b3⟩ := text_of a3 hx0.2
    have c1 := rdR_size a1
    have c2 := rdR_size b1
    rw [decL, if_neg h0, if_neg (by simp [a1]), if_pos rfl, if_pos b1, a2, b2, dec_leaf n es2 _ _ bs (by omega) b3 (fun y hy => hx y (by simp [hy]))]
    simp
theorem dec_branch : ∀ (n : Nat) (bs2 : List Br) (s : ByteArray) (es : List En) (bs : List Br), s.size ≤ n → U s = bs2.flatMap encBU → (∀ x ∈ bs2, x.1.size ≤ 255 ∧ 0 ≤ x.2.1 ∧ x.2.1 < 65536) → decL false n s es bs = if mayN false es (bs ++ bs2) = true then (0, es, bs ++ bs2) else (4, [], [])
  | n, [], s, es, bs, _, hu, _ => by rw [decL_end hu, List.append_nil]
  | 0, x :: bs2, s, es, bs, hn, hu, _ => by
    have := U_len s
    rw [hu] at this
    simp [encBU, txtU] at this
    omega
  | n + 1, x :: bs2, s, es, bs, hn, hu, hx => by
    obtain ⟨k, p, ⟨⟩⟩ := x
    have hx0 := hx (k, p, ()) (by simp)
    have h0 : s ≠ ByteArray.empty := fun e => by subst e; simp [U_empty, encBU, txtU] at hu
    obtain ⟨a1, a2, a3⟩ := text_of (s := s) (k := k) (r := [UInt8.ofNat (p / 256).toNat, UInt8.ofNat (p % 256).toNat] ++ bs2.flatMap encBU) (by rw [hu]; simp [encBU]) hx0.1
    obtain ⟨b1, b2, b3⟩ := take_of (k := 2) a3 rfl
    have c1 := rdR_size a1
    have c2 := tkR_le 2 (rdR s)
    have e : pgOf (tkT 2 (rdR s)) = p := by
      have hp : 0 ≤ p ∧ p < 65536 := hx0.2
      rw [pg_of b2]
      simp only [UInt8.toNat_ofNat']
      omega
    rw [decL, if_neg h0, if_neg (by simp [a1]), if_neg (by simp), if_pos b1, a2, e, dec_branch n bs2 _ es _ (by omega) b3 (fun y hy => hx y (by simp [hy]))]
    simp

theorem two_of {α : Type} : ∀ {l : List α}, l.length = 2 → ∃ a b, l = [a, b]
  | [a, b], _ => ⟨a, b, rfl⟩
/-- What was read, written, is the text. -/
theorem undec : ∀ (n : Nat) (l : Bool) (s : ByteArray) (es : List En) (bs : List Br) {es' : List En} {bs' : List Br}, s.size ≤ n → decL l n s es bs = (0, es', bs') →
    ∃ es2 bs2, es' = es ++ es2 ∧ bs' = bs ++ bs2 ∧ mayN l es' bs' = true ∧ U s = es2.flatMap encEU ++ bs2.flatMap encBU ∧ (l = true → bs2 = []) ∧ (l = false → es2 = []) := by
  intro n
  have fin : ∀ (l : Bool) (s : ByteArray) (es : List En) (bs : List Br) {es' : List En} {bs' : List Br}, s = ByteArray.empty → (if mayN l es bs = true then ((0 : Int), es, bs) else (4, [], [])) = (0, es', bs') →
      ∃ es2 bs2, es' = es ++ es2 ∧ bs' = bs ++ bs2 ∧ mayN l es' bs' = true ∧ U s = es2.flatMap encEU ++ bs2.flatMap encBU ∧ (l = true → bs2 = []) ∧ (l = false → es2 = []) := by
    intro l s es bs es' bs' hs h
    split at h
    · rename_i hm
      simp only [Prod.mk.injEq, true_and] at h
      obtain ⟨rfl, rfl⟩ := h
      exact ⟨[], [], by simp, by simp, hm, by subst hs; rfl, fun _ => rfl, fun _ => rfl⟩
    · simp at h
  induction n with
  | zero =>
    intro l s es bs es' bs' hn h
    exact fin l s es bs (size_zero (Nat.le_zero.1 hn)) h
  | succ n ih =>
    intro l s es bs es' bs' hn h
    by_cases h0 : s = ByteArray.empty
    · rw [decL, if_pos h0] at h
      exact fin l s es bs h0 h
    · rw [decL, if_neg h0] at h
      split at h
      · simp at h
      · rename_i hB
        have hB : rdB s = true := by simpa using hB
        obtain ⟨a1, a2⟩ := of_text hB
        have c1 := rdR_size hB
        split at h
        · rename_i hl
          subst hl
          split at h
          · rename_i hB2
            obtain ⟨b1, b2⟩ := of_text hB2
            have c2 := rdR_size hB2
            obtain ⟨es2, bs2, rfl, rfl, d3, d4, d5, d6⟩ := ih true _ _ _ (by omega) h
            have d5 := d5 rfl
            subst d5
            refine ⟨(rdT s, rdT (rdR s), ()) :: es2, [], by simp, by simp, d3, ?_, fun _ => rfl, fun h => (by cases h)⟩
            rw [a1, b1, d4]
            simp [encEU]
          · simp at h
        · rename_i hl
          have hl : l = false := by simpa using hl
          subst hl
          split at h
          · rename_i hB2
            obtain ⟨b1, b2⟩ := of_take (by decide) hB2
            have c2 := tkR_le 2 (rdR s)
            obtain ⟨es2, bs2, rfl, rfl, d3, d4, d5, d6⟩ := ih false _ _ _ (by omega) h
            have d6 := d6 rfl
            subst d6
            refine ⟨[], (rdT s, pgOf (tkT 2 (rdR s)), ()) :: bs2, by simp, by simp, d3, ?_, fun h => (by cases h), fun _ => rfl⟩
            have b2 : (U (tkT 2 (rdR s))).length = 2 := by omega
            obtain ⟨a, b, hab⟩ := two_of b2
            have e := pg_of hab
            have h1 := a.toNat_lt
            have h2 := b.toNat_lt
            rw [a1, b1, d4, hab]
            simp only [List.flatMap_nil, List.nil_append, List.flatMap_cons, encBU, e, List.append_assoc]
            rw [show (((a.toNat : Int) * 256 + b.toNat) / 256).toNat = a.toNat from by omega, show (((a.toNat : Int) * 256 + b.toNat) % 256).toNat = b.toNat from by omega]
            simp
          · simp at h

theorem memE {es : List En} (h : okEs es = true) {x : En} (hx : x ∈ es) : x.1.size ≤ 24 ∧ x.2.1.size ≤ 100 := by
  obtain ⟨i, hi, rfl⟩ := List.getElem_of_mem hx
  have := all_range.1 h i hi
  simp only [okE, Bool.not_eq_true', Bool.or_eq_false_iff, decide_eq_false_iff_not, getD_lt hi] at this
  omega
theorem memB {bs : List Br} (h : okBs bs = true) {x : Br} (hx : x ∈ bs) : x.1.size ≤ 24 ∧ 2 ≤ x.2.1 ∧ x.2.1 < 1024 := by
  obtain ⟨i, hi, rfl⟩ := List.getElem_of_mem hx
  have := all_range.1 h i hi
  simp only [okB, Bool.not_eq_true', Bool.or_eq_false_iff, decide_eq_false_iff_not, getD_lt hi] at this
  omega

abbrev enB (zs : List Int) : List UInt8 := zs.map fun n => UInt8.ofNat n.toNat
theorem U_bytes (zs : List Int) : U (bytesStr zs) = enB zs := rfl
theorem u8_in {n : Int} (h0 : 0 ≤ n) (h1 : n ≤ 255) : IntKind.u8.wrap n = n := by
  simp only [IntKind.wrap, IntKind.bits, IntKind.signed, Bool.false_and]
  simp
  omega
theorem enB_txt {s : ByteArray} (h : s.size ≤ 255) : enB (txt s) = txtU s := by
  simp only [enB, txt, List.map_cons, txtU, u8_in (n := (s.size : Int)) (by omega) (by omega), Int.toNat_natCast, List.cons.injEq, true_and, bytesI, List.map_map]
  exact (List.map_congr_left (fun a _ => by simp)).trans (List.map_id _)
theorem enB_E {x : En} (h : x.1.size ≤ 24 ∧ x.2.1.size ≤ 100) : enB (encE x) = encEU x := by
  simp only [encE, encEU, List.map_append]
  rw [show (txt x.1).map _ = _ from enB_txt (by omega), show (txt x.2.1).map _ = _ from enB_txt (by omega)]
theorem enB_B {x : Br} (h : x.1.size ≤ 24 ∧ 2 ≤ x.2.1 ∧ x.2.1 < 1024) : enB (encB x) = encBU x := by
  obtain ⟨k, p, ⟨⟩⟩ := x
  have hp : 2 ≤ p ∧ p < 1024 := h.2
  simp only [encB, encBU, List.map_append, List.map_cons, List.map_nil]
  rw [show (txt k).map _ = _ from enB_txt (by have : k.size ≤ 24 := h.1; omega), show (2 : Int) ^ min (Int.toNat 8) IntKind.i64.bits = 256 from by decide, Int.fdiv_eq_ediv_of_nonneg _ (by omega), u8_in (by omega) (by omega)]
  have e : IntKind.u8.wrap p = p % 256 := by
    simp only [IntKind.wrap, IntKind.bits, IntKind.signed, Bool.false_and]
    simp
  rw [e]
theorem enB_flat {α : Type} {f : α → List Int} {g : α → List UInt8} : ∀ {l : List α}, (∀ x ∈ l, enB (f x) = g x) → enB (l.flatMap f) = l.flatMap g
  | [], _ => rfl
  | x :: l, h => by
    simp only [List.flatMap_cons, List.map_append]
    rw [show (f x).map _ = _ from h x (by simp), show (l.flatMap f).map _ = _ from enB_flat (fun y hy => h y (by simp [hy]))]
theorem U_enc {l : Bool} {es : List En} {bs : List Br} (h1 : okEs es = true) (h2 : okBs bs = true) : U (bytesStr (encZ l es bs)) = (if l = true then 1 else 2) :: (es.flatMap encEU ++ bs.flatMap encBU) := by
  rw [U_bytes, encZ]
  simp only [List.map_append]
  rw [show (es.flatMap encE).map _ = _ from enB_flat fun x hx => enB_E (memE h1 hx), show (bs.flatMap encB).map _ = _ from enB_flat fun x hx => enB_B (memB h2 hx)]
  cases l <;> rfl

theorem lenE : ∀ (es : List En), ((es.flatMap encEU).length : Int) = (es.map szE).sum
  | [] => rfl
  | x :: es => by
    simp only [List.flatMap_cons, List.length_append, List.map_cons, List.sum_cons, ← lenE es, szE, encEU, txtU, List.length_cons, U_len]
    omega
theorem lenB : ∀ (bs : List Br), ((bs.flatMap encBU).length : Int) = (bs.map szB).sum
  | [] => rfl
  | x :: bs => by
    simp only [List.flatMap_cons, List.length_append, List.map_cons, List.sum_cons, ← lenB bs, szB, encBU, txtU, List.length_cons, List.length_nil, U_len]
    omega
theorem size_enc {s : ByteArray} {a : UInt8} {es : List En} {bs : List Br} (h : U s = a :: (es.flatMap encEU ++ bs.flatMap encBU)) : (s.size : Int) = sizeN es bs := by
  have := U_len s
  rw [h] at this
  simp only [List.length_cons, List.length_append] at this
  rw [sizeN, ← lenE, ← lenB]
  omega

theorem encN_zero {l : Bool} {es : List En} {bs : List Br} : encN l es bs = 0 ↔ mayN l es bs = true ∧ sizeN es bs ≤ 254 := by
  unfold encN
  split
  · split <;> simp_all
  · simp_all
theorem encS_eq {l : Bool} {es : List En} {bs : List Br} (h : encN l es bs = 0) : encS l es bs = bytesStr (encZ l es bs) := by
  obtain ⟨h1, h2⟩ := encN_zero.1 h
  rw [encS, if_pos (by simp [encOk, h1, h2])]

/-- Written and read it is the node. -/
theorem dec_enc {l : Bool} {es : List En} {bs : List Br} (h : encN l es bs = 0) : decC (encS l es bs) = 0 ∧ decLf (encS l es bs) = l ∧ decE (encS l es bs) = es ∧ decB (encS l es bs) = bs ∧ ((encS l es bs).size : Int) = sizeN es bs := by
  obtain ⟨h1, h2⟩ := encN_zero.1 h
  obtain ⟨m1, m2, m3, m4⟩ := mayN_iff h1
  rw [encS_eq h]
  have hu := U_enc (l := l) m3 m4
  have hs := size_enc hu
  have h0 : bytesStr (encZ l es bs) ≠ ByteArray.empty := fun e => by rw [e, U_empty] at hu; cases hu
  have hb : byteAt (bytesStr (encZ l es bs)) 0 = if l = true then 1 else 2 := by rw [byteAt_cons hu]; cases l <;> rfl
  have he : U ((bytesStr (encZ l es bs)).extract 1 (bytesStr (encZ l es bs)).size) = es.flatMap encEU ++ bs.flatMap encBU := by
    have := U_len (bytesStr (encZ l es bs))
    rw [hu] at this
    rw [U_extract, hu]
    simp only [List.length_cons] at this
    exact List.take_of_length_le (by simp; simp at this; omega)
  have hd : decA (bytesStr (encZ l es bs)) = (0, es, bs) := by
    rw [decA, if_neg (by omega), if_neg h0, if_neg (by rw [hb]; cases l <;> simp), hb]
    cases l
    · obtain rfl := m2 rfl
      have := dec_branch (bytesStr (encZ false [] bs)).size bs _ [] [] (by rw [size_extract']; omega) he (fun x hx => by have := memB m4 hx; omega)
      simp only [List.nil_append, h1, if_true] at this
      exact this
    · obtain rfl := m1 rfl
      have := dec_leaf (bytesStr (encZ true es [])).size es ((bytesStr (encZ true es [])).extract 1 (bytesStr (encZ true es [])).size) [] [] (by rw [size_extract']; omega) (by rw [he]; simp) (fun x hx => by have := memE m3 hx; omega)
      simp only [List.nil_append, h1, if_true] at this
      exact this
  refine ⟨by rw [decC, hd], ?_, by rw [decE, hd], by rw [decB, hd], hs⟩
  rw [decLf, decC, hd, hb]
  cases l <;> rfl

theorem decL_err : ∀ (n : Nat) {l : Bool} {s : ByteArray} {es : List En} {bs : List Br}, (decL l n s es bs).1 ≠ 0 → (decL l n s es bs).2 = ([], [])
  | 0, l, s, es, bs, h => by
    simp only [decL] at h ⊢
    split at h
    · exact absurd rfl h
    · rw [if_neg (by assumption)]
  | n + 1, l, s, es, bs, h => by
    simp only [decL] at h ⊢
    split at h
    · rw [if_pos (by assumption)]
      split at h
      · exact absurd rfl h
      · rw [if_neg (by assumption)]
    · rw [if_neg (by assumption)]
      split at h
      · rw [if_pos (by assumption)]
      · rw [if_neg (by assumption)]
        split at h
        · rw [if_pos (by assumption)]
          split at h
          · rw [if_pos (by assumption)]; exact decL_err n h
          · rw [if_neg (by assumption)]
        · rw [if_neg (by assumption)]
          split at h
          · rw [if_pos (by assumption)]; exact decL_err n h
          · rw [if_neg (by assumption)]
theorem dec_err {s : ByteArray} (h : decC s ≠ 0) : decLf s = false ∧ decE s = [] ∧ decB s = [] := by
  refine ⟨by simp [decLf, h], ?_⟩
  have : (decA s).2 = ([], []) := by
    rw [decC] at h
    simp only [decA] at h ⊢
    split at h
    · rw [if_pos (by assumption)]
    · rw [if_neg (by assumption)]
      split at h
      · rw [if_pos (by assumption)]
      · rw [if_neg (by assumption)]
        split at h
        · rw [if_pos (by assumption)]
        · rw [if_neg (by assumption)]; exact decL_err _ h
  rw [decE, decB, this]
  exact ⟨rfl, rfl⟩

theorem cntE : ∀ (es : List En), es.length ≤ (es.flatMap encEU).length
  | [] => Nat.le_refl _
  | x :: l => by have := cntE l; simp only [List.flatMap_cons, List.length_cons, List.length_append, encEU, txtU] ; omega
theorem cntB : ∀ (es : List Br), es.length ≤ (es.flatMap encBU).length
  | [] => Nat.le_refl _
  | x :: l => by have := cntB l; simp only [List.flatMap_cons, List.length_cons, List.length_append, encBU, txtU] ; omega
/-- Read and written it is the text. -/
theorem enc_dec {s : ByteArray} (h : decC s = 0) : smallE (decE s) ∧ smallB (decB s) ∧ encN (decLf s) (decE s) (decB s) = 0 ∧ encS (decLf s) (decE s) (decB s) = s ∧ mayN (decLf s) (decE s) (decB s) = true := by
  have h' := h
  rw [decC] at h
  have hl : decLf s = (byteAt s 0 == 1) := by simp [decLf, h']
  rw [hl]
  unfold decE decB
  unfold decA at h ⊢
  split at h
  · exact absurd h (by decide)
  rename_i g1
  rw [if_neg g1]
  split at h
  · exact absurd h (by decide)
  rename_i g2
  rw [if_neg g2]
  split at h
  · exact absurd h (by decide)
  rename_i g3
  rw [if_neg g3]
  obtain ⟨es', bs', e⟩ : ∃ es' bs', decL (byteAt s 0 == 1) s.size (s.extract 1 s.size) [] [] = (0, es', bs') := ⟨_, _, Prod.ext h rfl⟩
  rw [e]
  simp only
  obtain ⟨es2, bs2, k1, k2, k3, k4, k5, k6⟩ := undec _ _ _ _ _ (by rw [size_extract']; omega) e
  simp only [List.nil_append] at k1 k2
  subst k1 k2
  obtain ⟨m1, m2, m3, m4⟩ := mayN_iff k3
  have hlen := U_len s
  cases hu : U s with
  | nil => exact absurd (U_nil hu) g2
  | cons a r =>
    have hb := byteAt_cons hu
    have ha := a.toNat_lt
    have hr : r = es'.flatMap encEU ++ bs'.flatMap encBU := by
      rw [← k4, U_extract, hu]
      rw [hu] at hlen
      simp only [List.length_cons] at hlen
      rw [show List.drop 1 (a :: r) = r from rfl, List.take_of_length_le (by omega)]
    rw [hr] at hu
    have hs := size_enc hu
    have hn : encN (byteAt s 0 == 1) es' bs' = 0 := encN_zero.2 ⟨k3, by omega⟩
    have hcnt1 := cntE es'
    have hcnt2 := cntB bs'
    rw [hu] at hlen
    simp only [List.length_cons, List.length_append] at hlen
    refine ⟨⟨by omega, fun x hx => by have := memE m3 hx; omega⟩, ⟨by omega, fun x hx => by have := memB m4 hx; omega⟩, hn, ?_, k3⟩
    rw [encS_eq hn]
    apply ba_ext
    show U _ = U _
    rw [U_enc m3 m4, hu]
    congr 1
    by_cases hc : byteAt s 0 = 1
    · rw [if_pos (by simp [hc])]
      exact UInt8.toNat_inj.1 (by show 1 = _; omega)
    · rw [if_neg (by simp [hc])]
      have : byteAt s 0 = 2 := by
        rcases Decidable.em (byteAt s 0 = 2) with h | h
        · exact h
        · exact absurd ⟨hc, h⟩ g3
      exact UInt8.toNat_inj.1 (by show 2 = _; omega)
end Lf
