import Derived.Test.YtjmdfmafnenjnaaL5
namespace Lf
open Go Go.Sx Go.Proofs
abbrev sEnc := sumOf [tNode] [tStr, tInt] (fun ((_, es, bs, ()), ()) => [smallE es, smallB bs]) (fun ((l, es, bs, ()), ()) => (encS l es bs, encN l es bs, ()))
abbrev sPlace := sumOf [tBs, tStr] [tInt] (fun (l, _, ()) => [(l : List Br).length ≤ 1000000, srt (ksB l)]) (fun (l, key, ()) => (placeF l key, ()))
def tabAw : Tab := [(31, sEnc), (34, sSize), (26, sPlace)]
theorem treeAwake  : run P tabAw.sum Try.f23 [] (start Try.f23 [] []) =
  Tree.need (smallE [(ByteArray.mk #[(97 : UInt8)], ByteArray.mk #[(49 : UInt8)], ()), (ByteArray.mk #[(98 : UInt8)], ByteArray.mk #[(50 : UInt8), (50 : UInt8)], ())]) (Tree.need (smallB []) (Tree.ite true (Tree.ite true (Tree.need (smallE [(ByteArray.mk #[(97 : UInt8)], ByteArray.mk #[(49 : UInt8)], ()), (ByteArray.mk #[(98 : UInt8)], ByteArray.mk #[(50 : UInt8), (50 : UInt8)], ())]) (Tree.need (smallB []) (Tree.ite true (Tree.need ([(ByteArray.empty, (2 : Int), ()), (ByteArray.mk #[(98 : UInt8)], (3 : Int), ()), (ByteArray.mk #[(99 : UInt8)], (4 : Int), ())].length ≤ (1000000 : Nat)) (Tree.need (srt (ksB [(ByteArray.empty, (2 : Int), ()), (ByteArray.mk #[(98 : UInt8)], (3 : Int), ()), (ByteArray.mk #[(99 : UInt8)], (4 : Int), ())])) (Tree.ite true (Tree.need ([(ByteArray.empty, (2 : Int), ()), (ByteArray.mk #[(98 : UInt8)], (3 : Int), ()), (ByteArray.mk #[(99 : UInt8)], (4 : Int), ())].length ≤ (1000000 : Nat)) (Tree.need (srt (ksB [(ByteArray.empty, (2 : Int), ()), (ByteArray.mk #[(98 : UInt8)], (3 : Int), ()), (ByteArray.mk #[(99 : UInt8)], (4 : Int), ())])) (Tree.ret [AObj.vec (Con.typ [CK.str, CK.str] [(ByteArray.mk #[(97 : UInt8)], ByteArray.mk #[(49 : UInt8)], ()), (ByteArray.mk #[(98 : UInt8)], ByteArray.mk #[(50 : UInt8), (50 : UInt8)], ())]) (59 : Nat), AObj.own [AV.s (SV.blit true), AV.vec (0 : Nat), AV.emp] (31 : Nat), AObj.vec (Con.typ [CK.str, CK.int IntKind.i64] [(ByteArray.empty, (2 : Int), ()), (ByteArray.mk #[(98 : UInt8)], (3 : Int), ()), (ByteArray.mk #[(99 : UInt8)], (4 : Int), ())]) (36 : Nat)] (AV.s (SV.bool true))))) (Tree.ret [AObj.vec (Con.typ [CK.str, CK.str] [(ByteArray.mk #[(97 : UInt8)], ByteArray.mk #[(49 : UInt8)], ()), (ByteArray.mk #[(98 : UInt8)], ByteArray.mk #[(50 : UInt8), (50 : UInt8)], ())]) (59 : Nat), AObj.own [AV.s (SV.blit true), AV.vec (0 : Nat), AV.emp] (31 : Nat), AObj.vec (Con.typ [CK.str, CK.int IntKind.i64] [(ByteArray.empty, (2 : Int), ()), (ByteArray.mk #[(98 : UInt8)], (3 : Int), ()), (ByteArray.mk #[(99 : UInt8)], (4 : Int), ())]) (36 : Nat)] (AV.s (SV.blit false)))))) (Tree.ret [AObj.vec (Con.typ [CK.str, CK.str] [(ByteArray.mk #[(97 : UInt8)], ByteArray.mk #[(49 : UInt8)], ()), (ByteArray.mk #[(98 : UInt8)], ByteArray.mk #[(50 : UInt8), (50 : UInt8)], ())]) (59 : Nat), AObj.own [AV.s (SV.blit true), AV.vec (0 : Nat), AV.emp] (31 : Nat), AObj.vec (Con.typ [CK.str, CK.int IntKind.i64] [(ByteArray.empty, (2 : Int), ()), (ByteArray.mk #[(98 : UInt8)], (3 : Int), ()), (ByteArray.mk #[(99 : UInt8)], (4 : Int), ())]) (36 : Nat)] (AV.s (SV.blit false)))))) (Tree.ret [AObj.vec (Con.typ [CK.str, CK.str] [(ByteArray.mk #[(97 : UInt8)], ByteArray.mk #[(49 : UInt8)], ()), (ByteArray.mk #[(98 : UInt8)], ByteArray.mk #[(50 : UInt8), (50 : UInt8)], ())]) (59 : Nat), AObj.own [AV.s (SV.blit true), AV.vec (0 : Nat), AV.emp] (31 : Nat), AObj.vec (Con.typ [CK.str, CK.int IntKind.i64] [(ByteArray.empty, (2 : Int), ()), (ByteArray.mk #[(98 : UInt8)], (3 : Int), ()), (ByteArray.mk #[(99 : UInt8)], (4 : Int), ())]) (36 : Nat)] (AV.s (SV.blit false)))) (Tree.ret [AObj.vec (Con.typ [CK.str, CK.str] [(ByteArray.mk #[(97 : UInt8)], ByteArray.mk #[(49 : UInt8)], ()), (ByteArray.mk #[(98 : UInt8)], ByteArray.mk #[(50 : UInt8), (50 : UInt8)], ())]) (59 : Nat), AObj.own [AV.s (SV.blit true), AV.vec (0 : Nat), AV.emp] (31 : Nat), AObj.vec (Con.typ [CK.str, CK.int IntKind.i64] [(ByteArray.empty, (2 : Int), ()), (ByteArray.mk #[(98 : UInt8)], (3 : Int), ()), (ByteArray.mk #[(99 : UInt8)], (4 : Int), ())]) (36 : Nat)] (AV.s (SV.blit false))))) := by kernel_rfl
abbrev sLarge := sumOf [tRN] [tBool] (fun _ => []) (fun ((_, es, bs, ()), ()) => (largeN es bs, ()))
abbrev sGiven := sumOf [tRN] [tNode] (fun ((_, es, bs, ()), ()) => [(es : List En).length ≤ 100000, (bs : List Br).length ≤ 100000]) (fun (n, ()) => (n, ()))
abbrev sTrue := sumOf [] [tBool] (fun _ => []) (fun _ => (true, ()))
def tabLP : Tab := [(22, sLarge), (23, sTrue), (24, sGiven), (25, sMay), (26, sPlace)]
theorem treeLP (l : Bool) (es : List En) (bs : List Br) (key : ByteArray) : run P tabLP.sum Try.f3 [] (start Try.f3 [avN l es bs, .s (.str key)] []) =
  Tree.ite (largeN es bs) (Tree.ret [AObj.own [AV.s (SV.bool l), AV.s (SV.ro (Con.typ [CK.str, CK.str] es)), AV.s (SV.ro (Con.typ [CK.str, CK.int IntKind.i64] bs))] (25 : Nat)] (AV.s (SV.bool true)))
  (Tree.ite (decide ((↑key.size : Int) > (300 : Int))) (Tree.ret [AObj.own [AV.s (SV.bool l), AV.s (SV.ro (Con.typ [CK.str, CK.str] es)), AV.s (SV.ro (Con.typ [CK.str, CK.int IntKind.i64] bs))] (25 : Nat)] (AV.s (SV.bool true)))
    (Tree.ite false (Tree.ret [AObj.own [AV.s (SV.bool l), AV.s (SV.ro (Con.typ [CK.str, CK.str] es)), AV.s (SV.ro (Con.typ [CK.str, CK.int IntKind.i64] bs))] (25 : Nat)] (AV.s (SV.bool true)))
      (Tree.need (es.length ≤ (100000 : Nat))
        (Tree.need (bs.length ≤ (100000 : Nat))
          (Tree.ite (!mayN l es bs) (Tree.need ((0 : Nat) ≤ (1000000 : Nat)) (Tree.need (srt (ksB [])) (Tree.ret [AObj.own [AV.s (SV.bool l), AV.s (SV.ro (Con.typ [CK.str, CK.str] es)), AV.s (SV.ro (Con.typ [CK.str, CK.int IntKind.i64] bs))] (25 : Nat), AObj.vec (Con.typ [CK.str, CK.str] es) (59 : Nat), AObj.vec (Con.typ [CK.str, CK.int IntKind.i64] bs) (36 : Nat), AObj.own [AV.s (SV.bool l), AV.vec (1 : Nat), AV.vec (2 : Nat)] (31 : Nat)] (AV.s (SV.bool (placeF [] key == (0 : Int)))))))
            (Tree.ite ((↑bs.length : Int) == (0 : Int)) (Tree.need ((0 : Nat) ≤ (1000000 : Nat)) (Tree.need (srt (ksB [])) (Tree.ret [AObj.own [AV.s (SV.bool l), AV.s (SV.ro (Con.typ [CK.str, CK.str] es)), AV.s (SV.ro (Con.typ [CK.str, CK.int IntKind.i64] bs))] (25 : Nat), AObj.vec (Con.typ [CK.str, CK.str] es) (59 : Nat), AObj.vec (Con.typ [CK.str, CK.int IntKind.i64] bs) (36 : Nat), AObj.own [AV.s (SV.bool l), AV.vec (1 : Nat), AV.vec (2 : Nat)] (31 : Nat)] (AV.s (SV.bool (placeF [] key == (0 : Int)))))))
              (Tree.need (bs.length ≤ (1000000 : Nat)) (Tree.need (srt (ksB bs)) (Tree.ite (decide (placeF bs key < (0 : Int))) (Tree.ret [AObj.own [AV.s (SV.bool l), AV.s (SV.ro (Con.typ [CK.str, CK.str] es)), AV.s (SV.ro (Con.typ [CK.str, CK.int IntKind.i64] bs))] (25 : Nat), AObj.vec (Con.typ [CK.str, CK.str] es) (59 : Nat), AObj.vec (Con.typ [CK.str, CK.int IntKind.i64] bs) (36 : Nat), AObj.own [AV.s (SV.bool l), AV.vec (1 : Nat), AV.vec (2 : Nat)] (31 : Nat)] (AV.s (SV.blit false))) (Tree.ite (decide (placeF bs key ≥ (↑bs.length : Int))) (Tree.ret [AObj.own [AV.s (SV.bool l), AV.s (SV.ro (Con.typ [CK.str, CK.str] es)), AV.s (SV.ro (Con.typ [CK.str, CK.int IntKind.i64] bs))] (25 : Nat), AObj.vec (Con.typ [CK.str, CK.str] es) (59 : Nat), AObj.vec (Con.typ [CK.str, CK.int IntKind.i64] bs) (36 : Nat), AObj.own [AV.s (SV.bool l), AV.vec (1 : Nat), AV.vec (2 : Nat)] (31 : Nat)] (AV.s (SV.blit false))) (Tree.ite (placeF bs key == (0 : Int)) (Tree.need (inI64 (placeF bs key + (1 : Int))) (Tree.ite (placeF bs key + (1 : Int) == (↑bs.length : Int)) (Tree.ret [AObj.own [AV.s (SV.bool l), AV.s (SV.ro (Con.typ [CK.str, CK.str] es)), AV.s (SV.ro (Con.typ [CK.str, CK.int IntKind.i64] bs))] (25 : Nat), AObj.vec (Con.typ [CK.str, CK.str] es) (59 : Nat), AObj.vec (Con.typ [CK.str, CK.int IntKind.i64] bs) (36 : Nat), AObj.own [AV.s (SV.bool l), AV.vec (1 : Nat), AV.vec (2 : Nat)] (31 : Nat)] (AV.s (SV.blit true))) (Tree.need (inI64 (placeF bs key + (1 : Int))) (Tree.need ((0 : Int) ≤ placeF bs key + (1 : Int)) (Tree.need (placeF bs key + (1 : Int) < (↑bs.length : Int)) (Tree.ret [AObj.own [AV.s (SV.bool l), AV.s (SV.ro (Con.typ [CK.str, CK.str] es)), AV.s (SV.ro (Con.typ [CK.str, CK.int IntKind.i64] bs))] (25 : Nat), AObj.vec (Con.typ [CK.str, CK.str] es) (59 : Nat), AObj.vec (Con.typ [CK.str, CK.int IntKind.i64] bs) (36 : Nat), AObj.own [AV.s (SV.bool l), AV.vec (1 : Nat), AV.vec (2 : Nat)] (31 : Nat)] (AV.s (SV.bool !(slt (bs.getD (placeF bs key + (1 : Int)).toNat (CL.d [CK.str, CK.int IntKind.i64])).fst key || decide ((bs.getD (placeF bs key + (1 : Int)).toNat (CL.d [CK.str, CK.int IntKind.i64])).fst = key)))))))))) (Tree.need ((0 : Int) ≤ placeF bs key) (Tree.need (placeF bs key < (↑bs.length : Int)) (Tree.ite (slt (bs.getD (placeF bs key).toNat (CL.d [CK.str, CK.int IntKind.i64])).fst key || decide ((bs.getD (placeF bs key).toNat (CL.d [CK.str, CK.int IntKind.i64])).fst = key)) (Tree.need (inI64 (placeF bs key + (1 : Int))) (Tree.ite (placeF bs key + (1 : Int) == (↑bs.length : Int)) (Tree.ret [AObj.own [AV.s (SV.bool l), AV.s (SV.ro (Con.typ [CK.str, CK.str] es)), AV.s (SV.ro (Con.typ [CK.str, CK.int IntKind.i64] bs))] (25 : Nat), AObj.vec (Con.typ [CK.str, CK.str] es) (59 : Nat), AObj.vec (Con.typ [CK.str, CK.int IntKind.i64] bs) (36 : Nat), AObj.own [AV.s (SV.bool l), AV.vec (1 : Nat), AV.vec (2 : Nat)] (31 : Nat)] (AV.s (SV.blit true))) (Tree.need (inI64 (placeF bs key + (1 : Int))) (Tree.need ((0 : Int) ≤ placeF bs key + (1 : Int)) (Tree.need (placeF bs key + (1 : Int) < (↑bs.length : Int)) (Tree.ret [AObj.own [AV.s (SV.bool l), AV.s (SV.ro (Con.typ [CK.str, CK.str] es)), AV.s (SV.ro (Con.typ [CK.str, CK.int IntKind.i64] bs))] (25 : Nat), AObj.vec (Con.typ [CK.str, CK.str] es) (59 : Nat), AObj.vec (Con.typ [CK.str, CK.int IntKind.i64] bs) (36 : Nat), AObj.own [AV.s (SV.bool l), AV.vec (1 : Nat), AV.vec (2 : Nat)] (31 : Nat)] (AV.s (SV.bool !(slt (bs.getD (placeF bs key + (1 : Int)).toNat (CL.d [CK.str, CK.int IntKind.i64])).fst key || decide ((bs.getD (placeF bs key + (1 : Int)).toNat (CL.d [CK.str, CK.int IntKind.i64])).fst = key)))))))))) (Tree.ret [AObj.own [AV.s (SV.bool l), AV.s (SV.ro (Con.typ [CK.str, CK.str] es)), AV.s (SV.ro (Con.typ [CK.str, CK.int IntKind.i64] bs))] (25 : Nat), AObj.vec (Con.typ [CK.str, CK.str] es) (59 : Nat), AObj.vec (Con.typ [CK.str, CK.int IntKind.i64] bs) (36 : Nat), AObj.own [AV.s (SV.bool l), AV.vec (1 : Nat), AV.vec (2 : Nat)] (31 : Nat)] (AV.s (SV.blit false))))))))))))))))) := by kernel_rfl
theorem yes_then {A B : Prop} (h : A) : (true = true → A) ∧ (true = false → B) := ⟨fun _ => h, fun h => (by cases h)⟩
theorem no_then {A B : Prop} (h : B) : (false = true → A) ∧ (false = false → B) := ⟨fun h => (by cases h), fun _ => h⟩

theorem srt_of_b {ks : List ByteArray} (h : ((List.range ks.length).all fun j => (List.range j).all fun i => slt (ks.getD i ByteArray.empty) (ks.getD j ByteArray.empty)) = true) : srt ks := by
  intro i j hij hj
  rw [all_range] at h
  have := h j hj
  rw [all_range] at this
  exact this i hij

theorem okB_step {bs : List Br} (h : okBs bs = true) {i : Nat} (hi : i + 1 < bs.length) : slt (bs.getD i dB).1 (bs.getD (i + 1) dB).1 = true := by
  have := all_range.1 h (i + 1) hi
  simp only [okB, Bool.not_eq_true', Bool.or_eq_false_iff, Bool.and_eq_false_iff, decide_eq_false_iff_not, Bool.not_eq_false'] at this
  have h2 := this.2
  rcases h2 with h2 | h2
  · omega
  · simpa using h2
theorem okE_step {es : List En} (h : okEs es = true) {i : Nat} (hi : i + 1 < es.length) : slt (es.getD i dE).1 (es.getD (i + 1) dE).1 = true := by
  have := all_range.1 h (i + 1) hi
  simp only [okE, Bool.not_eq_true', Bool.or_eq_false_iff, Bool.and_eq_false_iff, decide_eq_false_iff_not, Bool.not_eq_false'] at this
  have h2 := this.2
  rcases h2 with h2 | h2
  · omega
  · simpa using h2

theorem srt_of_step {ks : List ByteArray} (h : ∀ i, i + 1 < ks.length → slt (ks.getD i ByteArray.empty) (ks.getD (i + 1) ByteArray.empty) = true) : srt ks := by
  intro i j hij hj
  induction j with
  | zero => omega
  | succ j ih =>
    by_cases he : i = j
    · subst he; exact h i hj
    · exact slt_trans (ih (by omega) (by omega)) (h j hj)

theorem srtB {bs : List Br} (h : okBs bs = true) : srt (ksB bs) := srt_of_step fun i hi => by
  rw [List.length_map] at hi
  rw [map_getD bs keyB dB, map_getD bs keyB dB]
  exact okB_step h hi
theorem srtE {es : List En} (h : okEs es = true) : srt (ksE es) := srt_of_step fun i hi => by
  rw [List.length_map] at hi
  rw [map_getD es keyE dE, map_getD es keyE dE]
  exact okE_step h hi

theorem mayN_iff {l : Bool} {es : List En} {bs : List Br} (h : mayN l es bs = true) : (l = true → bs = []) ∧ (l = false → es = []) ∧ okEs es = true ∧ okBs bs = true := by
  simp only [mayN, Bool.and_eq_true, Bool.not_eq_true', Bool.or_eq_false_iff, Bool.and_eq_false_iff, decide_eq_false_iff_not] at h
  obtain ⟨⟨⟨h1, h2⟩, h3⟩, h4⟩ := h
  refine ⟨fun hl => ?_, fun hl => ?_, h3, h4⟩
  · subst hl
    rcases h1 with h1 | h1
    · cases h1
    · exact List.eq_nil_of_length_eq_zero (by omega)
  · subst hl
    rcases h2 with h2 | h2
    · cases h2
    · exact List.eq_nil_of_length_eq_zero (by omega)

/-! where lbP lies -/
theorem lbP_lt : ∀ {ks : List ByteArray} {key : ByteArray} {t : Nat}, t < lbP ks key → slt (ks.getD t ByteArray.empty) key = true
  | [], key, t, h => by simp [lbP] at h
  | k :: ks, key, t, h => by
    simp only [lbP, List.takeWhile] at h
    split at h
    · rename_i hk
      cases t with
      | zero => simpa using hk
      | succ t =>
        simp only [List.length_cons] at h
        simpa using lbP_lt (ks := ks) (key := key) (t := t) (by simp only [lbP]; omega)
    · simp at h
theorem lbP_at : ∀ {ks : List ByteArray} {key : ByteArray}, lbP ks key < ks.length → slt (ks.getD (lbP ks key) ByteArray.empty) key = false
  | [], key, h => by simp at h
  | k :: ks, key, h => by
    by_cases hk : slt k key = true
    · have e : lbP (k :: ks) key = lbP ks key + 1 := by simp [lbP, List.takeWhile, hk]
      rw [e] at h ⊢
      simpa using lbP_at (ks := ks) (key := key) (by simpa using h)
    · have hk : slt k key = false := by simpa using hk
      have e : lbP (k :: ks) key = 0 := by simp [lbP, List.takeWhile, hk]
      rw [e]
      simpa using hk
theorem lbP_ge {ks : List ByteArray} {key : ByteArray} (hs : srt ks) {t : Nat} (h1 : lbP ks key ≤ t) (h2 : t < ks.length) : slt (ks.getD t ByteArray.empty) key = false := by
  have h := lbP_at (ks := ks) (key := key) (by omega)
  by_cases he : t = lbP ks key
  · rw [he]; exact h
  · have h3 := hs (lbP ks key) t (by omega) h2
    cases h4 : slt (ks.getD t ByteArray.empty) key
    · rfl
    · rw [slt_trans h3 h4] at h; cases h
theorem atK_iff {ks : List ByteArray} {key : ByteArray} : atK ks key = true ↔ lbP ks key < ks.length ∧ ks.getD (lbP ks key) ByteArray.empty = key := by
  simp only [atK, decide_eq_true_eq]
  constructor
  · intro h
    have h1 := (List.getElem?_eq_some_iff.1 h).1
    exact ⟨h1, by simp [List.getD, h]⟩
  · rintro ⟨h1, h2⟩
    rw [getD_lt h1] at h2
    rw [List.getElem?_eq_getElem h1, h2]

/-- The place, told outright. -/
theorem place_spec {ks : List ByteArray} {key : ByteArray} (hs : srt ks) (h0 : ks ≠ []) : ∃ p : Nat, imax 0 (if atK ks key = true then (lbP ks key : Int) else (lbP ks key : Int) - 1) = (p : Int) ∧ p < ks.length ∧
    (p = 0 ∨ slt key (ks.getD p ByteArray.empty) = false) ∧ (∀ t, p < t → t < ks.length → slt key (ks.getD t ByteArray.empty) = true) := by
  have hlen : 0 < ks.length := by
    cases ks with
    | nil => exact absurd rfl h0
    | cons k ks => simp
  have hle := lbP_le ks key
  have up : ∀ t, lbP ks key ≤ t → t < ks.length → ks.getD t ByteArray.empty ≠ key → slt key (ks.getD t ByteArray.empty) = true := fun t h1 h2 h3 => slt_of_not (lbP_ge hs h1 h2) h3
  by_cases hk : atK ks key = true
  · obtain ⟨h1, h2⟩ := atK_iff.1 hk
    rw [if_pos hk]
    refine ⟨lbP ks key, by unfold imax; split <;> omega, h1, .inr (by rw [h2]; exact slt_irrefl key), fun t ht htl => ?_⟩
    rw [← h2]
    have := hs (lbP ks key) t ht htl
    rw [h2] at this ⊢
    exact this
  · rw [if_neg hk]
    have hne : ∀ t, lbP ks key ≤ t → t < ks.length → ks.getD t ByteArray.empty ≠ key := by
      intro t h1 h2 h3
      by_cases he : t = lbP ks key
      · subst he; exact hk (atK_iff.2 ⟨h2, h3⟩)
      · have h4 := hs (lbP ks key) t (by omega) h2
        rw [h3] at h4
        rw [lbP_at (by omega)] at h4
        cases h4
    rcases Nat.eq_zero_or_pos (lbP ks key) with hz | hz
    · refine ⟨0, by rw [hz]; rfl, hlen, .inl rfl, fun t ht htl => up t (by omega) htl (hne t (by omega) htl)⟩
    · refine ⟨lbP ks key - 1, by unfold imax; split <;> omega, by omega, .inr (slt_asymm (lbP_lt (by omega))), fun t ht htl => up t (by omega) htl (hne t (by omega) htl)⟩

theorem tabAw_ok {Z : Glob} : tabAw.Ok P Z := Tab.Ok.cons encode_ok.sum (Tab.Ok.cons size_ok.sum (Tab.Ok.cons place_ok.sum Tab.Ok.nil))
theorem awake_ok {Z : Glob} : FnOk P Z 23 [] [tBool] (fun _ => []) (fun _ => (true, ())) := by
  refine fnOk_of_safe Try.func23 (by kernel_rfl) (by kernel_rfl) ?_
  rintro ⟨⟩ _ _ X hX hz
  have h1 : smallE [(ByteArray.mk #[(97 : UInt8)], ByteArray.mk #[(49 : UInt8)], ()), (ByteArray.mk #[(98 : UInt8)], ByteArray.mk #[(50 : UInt8), (50 : UInt8)], ())] := ⟨by decide, by simp; decide⟩
  have h2 : smallB [] := ⟨by decide, by simp⟩
  have h3 : srt (ksB [(ByteArray.empty, 2, ()), (ByteArray.mk #[(98 : UInt8)], 3, ()), (ByteArray.mk #[(99 : UInt8)], 4, ())]) := srt_of_b (by kernel_rfl)
  exact go hz hX tabAw_ok Try.func23 treeAwake ⟨h1, h2, yes_then (yes_then ⟨h1, h2, yes_then ⟨by decide, h3, yes_then ⟨by decide, h3, ends_b⟩⟩⟩)⟩

theorem notLarge {es : List En} {bs : List Br} (h : largeN es bs = false) : es.length ≤ 200 ∧ bs.length ≤ 200 ∧ (∀ x ∈ es, x.1.size ≤ 300 ∧ x.2.1.size ≤ 300) ∧ ∀ x ∈ bs, x.1.size ≤ 300 := by
  simp only [largeN, Bool.or_eq_false_iff, decide_eq_false_iff_not] at h
  obtain ⟨⟨⟨h1, h2⟩, h3⟩, h4⟩ := h
  rw [List.any_eq_false] at h3 h4
  refine ⟨by omega, by omega, fun x hx => ?_, fun x hx => ?_⟩
  · obtain ⟨i, hi, rfl⟩ := List.getElem_of_mem hx
    have := h3 i (List.mem_range.2 hi)
    simp only [bigE, getD_lt hi, Bool.or_eq_true, decide_eq_true_eq, not_or] at this
    omega
  · obtain ⟨i, hi, rfl⟩ := List.getElem_of_mem hx
    have := h4 i (List.mem_range.2 hi)
    simp only [bigB, getD_lt hi, decide_eq_true_eq] at this
    omega
theorem smallE_of {es : List En} {bs : List Br} (h : largeN es bs = false) : smallE es := by
  obtain ⟨h1, _, h3, _⟩ := notLarge h
  exact ⟨by omega, fun x hx => by have := h3 x hx; omega⟩
theorem smallB_of {es : List En} {bs : List Br} (h : largeN es bs = false) : smallB bs := by
  obtain ⟨_, h1, _, h3⟩ := notLarge h
  exact ⟨by omega, fun x hx => by have := h3 x hx; omega⟩

theorem tabLP_ok {Z : Glob} : tabLP.Ok P Z := Tab.Ok.cons large_ok.sum (Tab.Ok.cons awake_ok.sum (Tab.Ok.cons given_ok.sum (Tab.Ok.cons may_ok.sum (Tab.Ok.cons place_ok.sum Tab.Ok.nil))))
theorem leafPlace_ok {Z : Glob} : FnOk P Z 3 [tRN, tStr] [tBool] (fun _ => []) (fun _ => (true, ())) := by
  refine fnOk_of_safe Try.func3 (by kernel_rfl) (by kernel_rfl) ?_
  rintro ⟨⟨(l : Bool), (es : List En), (bs : List Br), ⟨⟩⟩, (key : ByteArray), ⟨⟩⟩ _ _ X hX hz
  refine go hz hX tabLP_ok Try.func3 (treeLP l es bs key) ⟨fun _ => ends_b, fun hL => ⟨fun _ => ends_b, fun hK => no_then ?_⟩⟩
  obtain ⟨hl1, hl2, _, _⟩ := notLarge hL
  have e0 : ∀ key : ByteArray, placeF [] key = 0 := fun key => by
    show imax 0 (if atK [] key = true then ((0 : Nat) : Int) else ((0 : Nat) : Int) - 1) = 0
    split <;> rfl
  have hnil : srt (ksB []) := srt_of_b (by kernel_rfl)
  refine ⟨by omega, by omega, fun _ => ⟨by decide, hnil, ends_is (by rw [e0]; rfl)⟩, fun hm => ⟨fun _ => ⟨by decide, hnil, ends_is (by rw [e0]; rfl)⟩, fun hne => ?_⟩⟩
  obtain ⟨_, _, _, hob⟩ := mayN_iff (by simpa using hm)
  have hs := srtB hob
  have hn : (ksB bs).length = bs.length := List.length_map _
  have hne : ksB bs ≠ [] := fun h => by rw [h] at hn; simp only [List.length_nil] at hn; rw [← hn] at hne; cases hne
  obtain ⟨p, hp, hp1, hp2, hp3⟩ := place_spec (key := key) hs hne
  have hk : ∀ t, (ksB bs).getD t ByteArray.empty = (bs.getD t dB).1 := fun t => map_getD bs keyB dB t
  rw [hn] at hp1 hp3
  have hp : placeF bs key = (p : Int) := hp
  rw [hp]
  have last : ∀ (h : ¬ ((p : Int) + 1 == (bs.length : Int)) = true), (0 : Int) ≤ (p : Int) + 1 ∧ (p : Int) + 1 < (bs.length : Int) ∧ (!(slt (bs.getD ((p : Int) + 1).toNat dB).1 key || decide ((bs.getD ((p : Int) + 1).toNat dB).1 = key))) = true := by
    intro h
    have h : ¬ ((p : Int) + 1 = (bs.length : Int)) := by simpa using h
    refine ⟨by omega, by omega, ?_⟩
    rw [show ((p : Int) + 1).toNat = p + 1 from by omega]
    have := hp3 (p + 1) (by omega) (by omega)
    rw [hk] at this
    rw [slt_asymm this, decide_eq_false (Ne.symm (slt_ne this))]; rfl
  refine ⟨by omega, hs, fun h => absurd (of_decide_eq_true h) (by omega), fun _ => ⟨fun h => absurd (of_decide_eq_true h) (by omega), fun _ => ⟨fun h1 => ⟨⟨by omega, by omega⟩, fun _ => ends_bl, fun h => ?_⟩, fun h1 => ⟨by omega, by omega, fun _ => ⟨⟨by omega, by omega⟩, fun _ => ends_bl, fun h => ?_⟩, fun h => ?_⟩⟩⟩⟩
  · obtain ⟨g1, g2, g3⟩ := last (by simpa using h)
    exact ⟨⟨by omega, by omega⟩, g1, g2, ends_is (by rw [← g3]; rfl)⟩
  · obtain ⟨g1, g2, g3⟩ := last (by simpa using h)
    exact ⟨⟨by omega, by omega⟩, g1, g2, ends_is (by rw [← g3]; rfl)⟩
  · exfalso
    have h1 : p ≠ 0 := fun e => by subst e; simp at h1
    rcases hp2 with hp2 | hp2
    · exact h1 hp2
    · rw [hk] at hp2
      have h : (slt (bs.getD p dB).1 key || decide ((bs.getD p dB).1 = key)) = false := h
      simp only [Bool.or_eq_false_iff, decide_eq_false_iff_not] at h
      have := slt_of_not h.1 h.2
      rw [hp2] at this; cases this
end Lf
