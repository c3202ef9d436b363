import Derived.Test.YtjmdfmafnenjnaaR2
namespace Lf
open Go Go.Sx Go.Proofs
def tabRDec : Tab := [(40, sRMay)]
def nsRDec : List (Nat × Norm) := [(9, ⟨[], [0, 2, 4, 5], 0, [(1, 1, false, .typ cE [], eRE), (1, 2, false, .typ cB [], eRB)]⟩)]
noncomputable def cRDec (s : ByteArray) (l : Bool) (es : List En) (bs : List Br) (i : Int) : Cfg := ⟨sl 131 [(0, .s (.str s)), (2, .ptr 0 0), (4, .ptr 1 0), (5, .s (.int .i64 i))], [obRZ, .own [.s (.bool l), .vec 2, .vec 3] eRN, .vec (.typ cE es) eRE, .vec (.typ cB bs) eRB], hd Try.f45 9⟩
theorem treeRDec (s : ByteArray) : run P tabRDec.sum Try.f45 nsRDec (start Try.f45 [.s (.str s)] []) =
  Tree.ite (decide ((↑s.size : Int) > (254 : Int))) (Tree.ret [AObj.own [AV.s (SV.blit false), AV.emp, AV.emp] (25 : Nat)] (AV.tup [AV.agg [AV.s (SV.blit false), AV.emp, AV.emp], AV.s (SV.ilit IntKind.i64 (40 : Int))])) (Tree.ite ((↑s.size : Int) == (0 : Int)) (Tree.ret [AObj.own [AV.s (SV.blit false), AV.emp, AV.emp] (25 : Nat)] (AV.tup [AV.agg [AV.s (SV.blit false), AV.emp, AV.emp], AV.s (SV.ilit IntKind.i64 (8 : Int))])) (Tree.need ((0 : Int) ≤ (0 : Int)) (Tree.need ((0 : Int) < (↑s.size : Int)) (Tree.ite (byteAt s (Int.toNat (0 : Int)) != (1 : Int)) (Tree.need ((0 : Int) ≤ (0 : Int)) (Tree.need ((0 : Int) < (↑s.size : Int)) (Tree.ite (byteAt s (Int.toNat (0 : Int)) != (2 : Int)) (Tree.ret [AObj.own [AV.s (SV.blit false), AV.emp, AV.emp] (25 : Nat)] (AV.tup [AV.agg [AV.s (SV.blit false), AV.emp, AV.emp], AV.s (SV.ilit IntKind.i64 (4 : Int))])) (Tree.need ((0 : Int) ≤ (0 : Int)) (Tree.need ((0 : Int) < (↑s.size : Int)) (Tree.at (Cfg.mk (sl (131 : Nat) [((0 : Nat), AV.s (SV.str s)), ((2 : Nat), AV.ptr (0 : Nat) (0 : Nat)), ((4 : Nat), AV.ptr (1 : Nat) (0 : Nat)), ((5 : Nat), AV.s (SV.int IntKind.i64 (1 : Int)))]) [AObj.own [AV.s (SV.bool false), AV.emp, AV.emp] (25 : Nat), AObj.own [AV.s (SV.bool (byteAt s (Int.toNat (0 : Int)) == (1 : Int))), AV.vec (2 : Nat), AV.vec (3 : Nat)] (25 : Nat), AObj.vec (Con.typ [CK.str, CK.str] []) (134 : Nat), AObj.vec (Con.typ [CK.str, CK.int IntKind.i64] []) (135 : Nat)] (hd Try.f45 (9 : Nat))))))))) (Tree.need ((0 : Int) ≤ (0 : Int)) (Tree.need ((0 : Int) < (↑s.size : Int)) (Tree.at (Cfg.mk (sl (131 : Nat) [((0 : Nat), AV.s (SV.str s)), ((2 : Nat), AV.ptr (0 : Nat) (0 : Nat)), ((4 : Nat), AV.ptr (1 : Nat) (0 : Nat)), ((5 : Nat), AV.s (SV.int IntKind.i64 (1 : Int)))]) [AObj.own [AV.s (SV.bool false), AV.emp, AV.emp] (25 : Nat), AObj.own [AV.s (SV.bool (byteAt s (Int.toNat (0 : Int)) == (1 : Int))), AV.vec (2 : Nat), AV.vec (3 : Nat)] (25 : Nat), AObj.vec (Con.typ [CK.str, CK.str] []) (134 : Nat), AObj.vec (Con.typ [CK.str, CK.int IntKind.i64] []) (135 : Nat)] (hd Try.f45 (9 : Nat)))))))))) := by kernel_rfl
theorem loopRDec (s : ByteArray) (l : Bool) (es : List En) (bs : List Br) (i : Int) : run P tabRDec.sum Try.f45 nsRDec (cRDec s l es bs i) =
  Tree.ite (decide (i < (↑s.size : Int)))
  (Tree.need ((0 : Int) ≤ i)
    (Tree.need (i < (↑s.size : Int))
      (Tree.need (inI64 (byteAt s i.toNat))
        (Tree.need (inI64 (i + (1 : Int)))
          (Tree.need (inI64 (i + (1 : Int) + byteAt s i.toNat))
            (Tree.ite (decide (i + (1 : Int) + byteAt s i.toNat > (↑s.size : Int))) (Tree.ret [AObj.own [AV.s (SV.blit false), AV.emp, AV.emp] (25 : Nat), AObj.own [AV.s (SV.bool l), AV.vec (2 : Nat), AV.vec (3 : Nat)] (25 : Nat), AObj.vec (Con.typ [CK.str, CK.str] es) (134 : Nat), AObj.vec (Con.typ [CK.str, CK.int IntKind.i64] bs) (135 : Nat)] (AV.tup [AV.agg [AV.s (SV.blit false), AV.emp, AV.emp], AV.s (SV.ilit IntKind.i64 (8 : Int))]))
              (Tree.need (inI64 (i + (1 : Int)))
                (Tree.need (inI64 (i + (1 : Int)))
                  (Tree.need (inI64 (i + (1 : Int) + byteAt s i.toNat))
                    (Tree.need ((0 : Int) ≤ i + (1 : Int))
                      (Tree.need (i + (1 : Int) ≤ i + (1 : Int) + byteAt s i.toNat)
                        (Tree.need (i + (1 : Int) + byteAt s i.toNat ≤ (↑s.size : Int))
                          (Tree.need (inI64 (i + (1 : Int)))
                            (Tree.need (inI64 (i + (1 : Int) + byteAt s i.toNat))
                              (Tree.ite l (Tree.ite (decide (i + (1 : Int) + byteAt s i.toNat ≥ (↑s.size : Int))) (Tree.ret [AObj.own [AV.s (SV.blit false), AV.emp, AV.emp] (25 : Nat), AObj.own [AV.s (SV.bool l), AV.vec (2 : Nat), AV.vec (3 : Nat)] (25 : Nat), AObj.vec (Con.typ [CK.str, CK.str] es) (134 : Nat), AObj.vec (Con.typ [CK.str, CK.int IntKind.i64] bs) (135 : Nat)] (AV.tup [AV.agg [AV.s (SV.blit false), AV.emp, AV.emp], AV.s (SV.ilit IntKind.i64 (8 : Int))])) (Tree.need (inI64 (i + (1 : Int) + byteAt s i.toNat + (1 : Int))) (Tree.need ((0 : Int) ≤ i + (1 : Int) + byteAt s i.toNat) (Tree.need (i + (1 : Int) + byteAt s i.toNat < (↑s.size : Int)) (Tree.need (inI64 (byteAt s (i + (1 : Int) + byteAt s i.toNat).toNat)) (Tree.need (inI64 (i + (1 : Int) + byteAt s i.toNat + (1 : Int) + byteAt s (i + (1 : Int) + byteAt s i.toNat).toNat)) (Tree.ite (decide (i + (1 : Int) + byteAt s i.toNat + (1 : Int) + byteAt s (i + (1 : Int) + byteAt s i.toNat).toNat > (↑s.size : Int))) (Tree.ret [AObj.own [AV.s (SV.blit false), AV.emp, AV.emp] (25 : Nat), AObj.own [AV.s (SV.bool l), AV.vec (2 : Nat), AV.vec (3 : Nat)] (25 : Nat), AObj.vec (Con.typ [CK.str, CK.str] es) (134 : Nat), AObj.vec (Con.typ [CK.str, CK.int IntKind.i64] bs) (135 : Nat)] (AV.tup [AV.agg [AV.s (SV.blit false), AV.emp, AV.emp], AV.s (SV.ilit IntKind.i64 (8 : Int))])) (Tree.need ((0 : Int) ≤ i + (1 : Int) + byteAt s i.toNat) (Tree.need (i + (1 : Int) + byteAt s i.toNat < (↑s.size : Int)) (Tree.need (inI64 (byteAt s (i + (1 : Int) + byteAt s i.toNat).toNat)) (Tree.need (inI64 (i + (1 : Int) + byteAt s i.toNat + (1 : Int))) (Tree.need (inI64 (i + (1 : Int) + byteAt s i.toNat + (1 : Int))) (Tree.need (inI64 (i + (1 : Int) + byteAt s i.toNat + (1 : Int) + byteAt s (i + (1 : Int) + byteAt s i.toNat).toNat)) (Tree.need ((0 : Int) ≤ i + (1 : Int) + byteAt s i.toNat + (1 : Int)) (Tree.need (i + (1 : Int) + byteAt s i.toNat + (1 : Int) ≤ i + (1 : Int) + byteAt s i.toNat + (1 : Int) + byteAt s (i + (1 : Int) + byteAt s i.toNat).toNat) (Tree.need (i + (1 : Int) + byteAt s i.toNat + (1 : Int) + byteAt s (i + (1 : Int) + byteAt s i.toNat).toNat ≤ (↑s.size : Int)) (Tree.need (es.length + (1 : Nat) ≤ (4294967296 : Nat)) (Tree.need (inI64 (i + (1 : Int) + byteAt s i.toNat + (1 : Int))) (Tree.need (inI64 (i + (1 : Int) + byteAt s i.toNat + (1 : Int) + byteAt s (i + (1 : Int) + byteAt s i.toNat).toNat)) (Tree.at (Cfg.mk (sl (131 : Nat) [((0 : Nat), AV.s (SV.str s)), ((2 : Nat), AV.ptr (0 : Nat) (0 : Nat)), ((4 : Nat), AV.ptr (1 : Nat) (0 : Nat)), ((5 : Nat), AV.s (SV.int IntKind.i64 (i + (1 : Int) + byteAt s i.toNat + (1 : Int) + byteAt s (i + (1 : Int) + byteAt s i.toNat).toNat)))]) [AObj.own [AV.s (SV.bool false), AV.emp, AV.emp] (25 : Nat), AObj.own [AV.s (SV.bool l), AV.vec (2 : Nat), AV.vec (3 : Nat)] (25 : Nat), AObj.vec (Con.typ [CK.str, CK.str] (es ++ [(s.extract (i + (1 : Int)).toNat (i + (1 : Int) + byteAt s i.toNat).toNat, s.extract (i + (1 : Int) + byteAt s i.toNat + (1 : Int)).toNat (i + (1 : Int) + byteAt s i.toNat + (1 : Int) + byteAt s (i + (1 : Int) + byteAt s i.toNat).toNat).toNat, ())])) (134 : Nat), AObj.vec (Con.typ [CK.str, CK.int IntKind.i64] bs) (135 : Nat)] (hd Try.f45 (9 : Nat)))))))))))))))))))))))
                                (Tree.need (inI64 (i + (1 : Int) + byteAt s i.toNat + (2 : Int))) (Tree.ite (decide (i + (1 : Int) + byteAt s i.toNat + (2 : Int) > (↑s.size : Int))) (Tree.ret [AObj.own [AV.s (SV.blit false), AV.emp, AV.emp] (25 : Nat), AObj.own [AV.s (SV.bool l), AV.vec (2 : Nat), AV.vec (3 : Nat)] (25 : Nat), AObj.vec (Con.typ [CK.str, CK.str] es) (134 : Nat), AObj.vec (Con.typ [CK.str, CK.int IntKind.i64] bs) (135 : Nat)] (AV.tup [AV.agg [AV.s (SV.blit false), AV.emp, AV.emp], AV.s (SV.ilit IntKind.i64 (8 : Int))])) (Tree.need ((0 : Int) ≤ i + (1 : Int) + byteAt s i.toNat) (Tree.need (i + (1 : Int) + byteAt s i.toNat < (↑s.size : Int)) (Tree.need (inI64 (byteAt s (i + (1 : Int) + byteAt s i.toNat).toNat)) (Tree.need (inI64 (byteAt s (i + (1 : Int) + byteAt s i.toNat).toNat * (256 : Int))) (Tree.need (inI64 (i + (1 : Int) + byteAt s i.toNat + (1 : Int))) (Tree.need ((0 : Int) ≤ i + (1 : Int) + byteAt s i.toNat + (1 : Int)) (Tree.need (i + (1 : Int) + byteAt s i.toNat + (1 : Int) < (↑s.size : Int)) (Tree.need (inI64 (byteAt s (i + (1 : Int) + byteAt s i.toNat + (1 : Int)).toNat)) (Tree.need (inI64 (byteAt s (i + (1 : Int) + byteAt s i.toNat).toNat * (256 : Int) + byteAt s (i + (1 : Int) + byteAt s i.toNat + (1 : Int)).toNat)) (Tree.need (bs.length + (1 : Nat) ≤ (4294967296 : Nat)) (Tree.need (inI64 (i + (1 : Int) + byteAt s i.toNat + (2 : Int))) (Tree.at (Cfg.mk (sl (131 : Nat) [((0 : Nat), AV.s (SV.str s)), ((2 : Nat), AV.ptr (0 : Nat) (0 : Nat)), ((4 : Nat), AV.ptr (1 : Nat) (0 : Nat)), ((5 : Nat), AV.s (SV.int IntKind.i64 (i + (1 : Int) + byteAt s i.toNat + (2 : Int))))]) [AObj.own [AV.s (SV.bool false), AV.emp, AV.emp] (25 : Nat), AObj.own [AV.s (SV.bool l), AV.vec (2 : Nat), AV.vec (3 : Nat)] (25 : Nat), AObj.vec (Con.typ [CK.str, CK.str] es) (134 : Nat), AObj.vec (Con.typ [CK.str, CK.int IntKind.i64] (bs ++ [(s.extract (i + (1 : Int)).toNat (i + (1 : Int) + byteAt s i.toNat).toNat, byteAt s (i + (1 : Int) + byteAt s i.toNat).toNat * (256 : Int) + byteAt s (i + (1 : Int) + byteAt s i.toNat + (1 : Int)).toNat, ())])) (135 : Nat)] (hd Try.f45 (9 : Nat))))))))))))))))))))))))))))))))
  (Tree.ite (!mayN l es bs) (Tree.ret [AObj.own [AV.s (SV.blit false), AV.emp, AV.emp] (25 : Nat), AObj.own [AV.s (SV.bool l), AV.vec (2 : Nat), AV.vec (3 : Nat)] (25 : Nat), AObj.vec (Con.typ [CK.str, CK.str] es) (134 : Nat), AObj.vec (Con.typ [CK.str, CK.int IntKind.i64] bs) (135 : Nat)] (AV.tup [AV.agg [AV.s (SV.blit false), AV.emp, AV.emp], AV.s (SV.ilit IntKind.i64 (4 : Int))])) (Tree.ret [AObj.own [AV.s (SV.bool l), AV.vec (2 : Nat), AV.vec (3 : Nat)] (25 : Nat), AObj.own [AV.s (SV.bool l), AV.vec (2 : Nat), AV.vec (3 : Nat)] (25 : Nat), AObj.vec (Con.typ [CK.str, CK.str] es) (134 : Nat), AObj.vec (Con.typ [CK.str, CK.int IntKind.i64] bs) (135 : Nat)] (AV.tup [AV.agg [AV.s (SV.bool l), AV.vec (2 : Nat), AV.vec (3 : Nat)], AV.s (SV.ilit IntKind.i64 (0 : Int))]))) := by kernel_rfl
def sf (s : ByteArray) (k : Nat) : ByteArray := s.extract k s.size
theorem U_sf (s : ByteArray) (k : Nat) : U (sf s k) = (U s).drop k := by
  rw [sf, U_extract, List.take_of_length_le (by rw [List.length_drop, U_len]; omega)]
theorem sf_size (s : ByteArray) (k : Nat) : (sf s k).size = s.size - k := by rw [sf, size_extract']; omega
theorem sf_end (s : ByteArray) {k : Nat} (h : s.size ≤ k) : sf s k = ByteArray.empty := size_zero (by rw [sf_size]; omega)
theorem byte_of (s : ByteArray) (k : Nat) : ∃ b : Nat, byteAt s k = (b : Int) ∧ b ≤ 255 := by
  have := byteAt_range s k
  exact ⟨(byteAt s k).toNat, by omega, by omega⟩
theorem sf_cons {s : ByteArray} {k b : Nat} (h : k < s.size) (hb : byteAt s k = (b : Int)) : U (sf s k) = UInt8.ofNat b :: U (sf s (k + 1)) := by
  have hl : k < (U s).length := by rw [U_len]; exact h
  have e : byteAt s k = ((U s)[k].toNat : Int) := by simp [byteAt, List.getD, List.getElem?_eq_getElem hl]
  have e2 : b = (U s)[k].toNat := by omega
  rw [U_sf, U_sf, List.drop_eq_getElem_cons hl, e2]
  simp
theorem sf_text {s : ByteArray} {k b : Nat} (h : k + 1 + b ≤ s.size) (hb : byteAt s k = (b : Int)) (hb2 : b ≤ 255) : rdB (sf s k) = true ∧ rdT (sf s k) = s.extract (k + 1) (k + 1 + b) ∧ rdR (sf s k) = sf s (k + 1 + b) := by
  have hz : (s.extract (k + 1) (k + 1 + b)).size = b := by rw [size_extract']; omega
  have hu : U (sf s k) = txtU (s.extract (k + 1) (k + 1 + b)) ++ U (sf s (k + 1 + b)) := by
    rw [sf_cons (by omega) hb, txtU, hz, List.cons_append]
    congr 1
    rw [U_sf, U_sf, U_extract, show k + 1 + b - (k + 1) = b from by omega, show List.drop (k + 1 + b) (U s) = List.drop b (List.drop (k + 1) (U s)) from by rw [List.drop_drop], List.take_append_drop]
  obtain ⟨h1, h2, h3⟩ := text_of hu (by omega)
  exact ⟨h1, h2, ba_ext h3⟩
theorem sf_short {s : ByteArray} {k b : Nat} (hk : k < s.size) (h : s.size < k + 1 + b) (hb : byteAt s k = (b : Int)) (hb2 : b ≤ 255) : rdB (sf s k) = false := by
  cases e : rdB (sf s k)
  · rfl
  · exfalso
    obtain ⟨h1, h2⟩ := of_text e
    rw [sf_cons hk hb, txtU] at h1
    simp only [List.cons_append, List.cons.injEq] at h1
    have h3 : b = (rdT (sf s k)).size := by
      have := congrArg UInt8.toNat h1.1
      simp only [UInt8.toNat_ofNat'] at this
      omega
    have h4 := congrArg List.length h1.2
    rw [List.length_append, U_len, U_len, U_len, sf_size] at h4
    omega
theorem sf_none {s : ByteArray} {k : Nat} (h : s.size ≤ k) : rdB (sf s k) = false := by
  rw [sf_end s h]
  cases e : rdB ByteArray.empty
  · rfl
  · have := rdR_size e
    simp at this
theorem sf_two {s : ByteArray} {k a b : Nat} (h : k + 2 ≤ s.size) (ha : byteAt s k = (a : Int)) (hb : byteAt s (k + 1) = (b : Int)) (ha2 : a ≤ 255) (hb2 : b ≤ 255) : tkB 2 (sf s k) = true ∧ pgOf (tkT 2 (sf s k)) = (a : Int) * 256 + b ∧ tkR 2 (sf s k) = sf s (k + 2) := by
  have hu : U (sf s k) = [UInt8.ofNat a, UInt8.ofNat b] ++ U (sf s (k + 2)) := by
    rw [sf_cons (by omega) ha, sf_cons (by omega) hb]; rfl
  obtain ⟨h1, h2, h3⟩ := take_of (k := 2) hu rfl
  refine ⟨h1, ?_, ba_ext h3⟩
  rw [pg_of h2]
  simp only [UInt8.toNat_ofNat']
  omega
theorem sf_nottwo {s : ByteArray} {k : Nat} (h : s.size < k + 2) : tkB 2 (sf s k) = false := by
  simp only [tkB, sf_size, Bool.not_eq_false', decide_eq_true_eq]
  omega

theorem rdec_ok {Z : Glob} : FnOk P Z 45 [tStr] [tRN, tInt] (fun _ => []) (fun (s, ()) => ((decLf s, decE s, decB s, ()), decC s, ())) := by
  refine fnOk_of_safe Try.func45 (by kernel_rfl) (by kernel_rfl) ?_
  rintro ⟨(s : ByteArray), ⟨⟩⟩ _ _ X hX hz
  have hT : tabRDec.Ok P Z := Tab.Ok.cons rmay_ok.sum Tab.Ok.nil
  have I : ∀ x : Int, -1000000 ≤ x → x ≤ 1000000 → inI64 x := fun x h1 h2 => ⟨by omega, by omega⟩
  show Safe P 45 X (Ends [tRN, tInt] (decY s)) _
  have loop : s.size ≤ 254 → ∀ (l : Bool) (n k : Nat) (es : List En) (bs : List Br), s.size ≤ k + n → k ≤ s.size → es.length + bs.length ≤ k → decR l (decL l n (sf s k) es bs) = decY s →
      Safe P 45 X (Ends [tRN, tInt] (decY s)) (cRDec s l es bs (k : Int)) := by
    intro h254 l n
    have fin : ∀ (n k : Nat) (es : List En) (bs : List Br), k = s.size → decR l (decL l n (sf s k) es bs) = decY s → Safe P 45 X (Ends [tRN, tInt] (decY s)) (cRDec s l es bs (k : Int)) := by
      intro n k es bs hk hy
      rw [decL_end (by rw [sf_end s (by omega)]; rfl)] at hy
      refine go hz hX hT Try.func45 (loopRDec s l es bs k) ⟨fun h => absurd (of_decide_eq_true h) (by omega), fun _ => ⟨fun h => ?_, fun h => ?_⟩⟩
      · refine ends_eq ((false, [], [], ()), 4, ()) ?_ (by kernel_rfl)
        rw [← hy, if_neg (by simpa using h)]; rfl
      · refine ends_eq ((l, es, bs, ()), 0, ()) ?_ (by kernel_rfl)
        rw [← hy, if_pos (by simpa using h)]; rfl
    induction n with
    | zero => exact fun k es bs hn hk _ hy => fin 0 k es bs (by omega) hy
    | succ n ih =>
      intro k es bs hn hk hcnt hy
      by_cases hks : k = s.size
      · exact fin (n + 1) k es bs hks hy
      have hlt : k < s.size := by omega
      have h0 : sf s k ≠ ByteArray.empty := fun e => by have := sf_size s k; rw [e] at this; simp at this; omega
      have bad : decL l (n + 1) (sf s k) es bs = (8, [], []) → ((false, [], [], ()), 8, ()) = decY s := fun e => by rw [← hy, e]; rfl
      obtain ⟨b, hb, hb2⟩ := byte_of s k
      obtain ⟨c, hc, hc2⟩ := byte_of s (k + 1 + b)
      obtain ⟨d, hd, hd2⟩ := byte_of s (k + 1 + b + 1)
      refine go hz hX hT Try.func45 (loopRDec s l es bs k) ?_
      simp only [Int.toNat_natCast, hb]
      rw [show ((k : Int) + 1 + (b : Int)).toNat = k + 1 + b from by omega, show ((k : Int) + 1).toNat = k + 1 from by omega, show ((k : Int) + 1 + (b : Int) + 1).toNat = k + 1 + b + 1 from by omega]
      simp only [hc, hd]
      rw [show ((k : Int) + 1 + (b : Int) + 1 + (c : Int)).toNat = k + 1 + b + 1 + c from by omega]
      refine ⟨fun h => ?_, fun h => absurd (of_decide_eq_false h) (by omega)⟩
      refine ⟨by omega, by omega, I _ (by omega) (by omega), I _ (by omega) (by omega), I _ (by omega) (by omega), fun h1 => ?_, fun h1 => ?_⟩
      · refine ends_eq ((false, [], [], ()), 8, ()) (bad ?_).symm (by kernel_rfl)
        have h1 := of_decide_eq_true h1
        rw [decL, if_neg h0, if_pos (sf_short hlt (by omega) hb hb2)]
      · have h1 := of_decide_eq_false h1
        obtain ⟨t1, t2, t3⟩ := sf_text (by omega) hb hb2
        refine ⟨I _ (by omega) (by omega), I _ (by omega) (by omega), I _ (by omega) (by omega), by omega, by omega, by omega, I _ (by omega) (by omega), I _ (by omega) (by omega), fun hl => ⟨fun h2 => ?_, fun h2 => ⟨I _ (by omega) (by omega), by omega, ?_⟩⟩, fun hl => ⟨I _ (by omega) (by omega), fun h2 => ?_, fun h2 => ?_⟩⟩
        · have h2 := of_decide_eq_true h2
          refine ends_eq ((false, [], [], ()), 8, ()) (bad ?_).symm (by kernel_rfl)
          rw [decL, if_neg h0, if_neg (by simp [t1]), if_pos hl, if_neg (by rw [t3, sf_none (by omega)]; simp)]
        · have h2 := of_decide_eq_false h2
          refine ⟨by omega, I _ (by omega) (by omega), I _ (by omega) (by omega), fun h3 => ?_, fun h3 => ?_⟩
          · have h3 := of_decide_eq_true h3
            refine ends_eq ((false, [], [], ()), 8, ()) (bad ?_).symm (by kernel_rfl)
            rw [decL, if_neg h0, if_neg (by simp [t1]), if_pos hl, if_neg (by rw [t3, sf_short (by omega) (by omega) hc hc2]; simp)]
          · have h3 := of_decide_eq_false h3
            obtain ⟨u1, u2, u3⟩ := sf_text (s := s) (k := k + 1 + b) (b := c) (by omega) hc hc2
            refine ⟨by omega, by omega, I _ (by omega) (by omega), I _ (by omega) (by omega), I _ (by omega) (by omega), I _ (by omega) (by omega), by omega, by omega, by omega, by omega, I _ (by omega) (by omega), I _ (by omega) (by omega), ?_⟩
            have := ih (k + 1 + b + 1 + c) (es ++ [(s.extract (k + 1) (k + 1 + b), s.extract (k + 1 + b + 1) (k + 1 + b + 1 + c), ())]) bs (by omega) (by omega) (by simp only [List.length_append, List.length_cons, List.length_nil]; omega)
              (by rw [← hy, decL, if_neg h0, if_neg (by simp [t1]), if_pos hl, if_pos (by rw [t3]; exact u1), t3, t2, u2, u3])
            rw [show ((k + 1 + b + 1 + c : Nat) : Int) = (k : Int) + 1 + b + 1 + c from by omega] at this
            exact this
        · have h2 := of_decide_eq_true h2
          refine ends_eq ((false, [], [], ()), 8, ()) (bad ?_).symm (by kernel_rfl)
          rw [decL, if_neg h0, if_neg (by simp [t1]), if_neg (by simp [hl]), if_neg (by rw [t3, sf_nottwo (by omega)]; simp)]
        · have h2 := of_decide_eq_false h2
          obtain ⟨u1, u2, u3⟩ := sf_two (s := s) (k := k + 1 + b) (by omega) hc hd hc2 hd2
          refine ⟨by omega, by omega, I _ (by omega) (by omega), I _ (by omega) (by omega), I _ (by omega) (by omega), by omega, by omega, I _ (by omega) (by omega), I _ (by omega) (by omega), by omega, I _ (by omega) (by omega), ?_⟩
          have := ih (k + 1 + b + 2) es (bs ++ [(s.extract (k + 1) (k + 1 + b), (c : Int) * 256 + d, ())]) (by omega) (by omega) (by simp only [List.length_append, List.length_cons, List.length_nil]; omega)
              (by rw [← hy, decL, if_neg h0, if_neg (by simp [t1]), if_neg (by simp [hl]), if_pos (by rw [t3]; exact u1), t3, t2, u2, u3])
          rw [show ((k + 1 + b + 2 : Nat) : Int) = (k : Int) + 1 + b + 2 from by omega] at this
          exact this
  have err : ∀ (c : Int) (_ : decide (c = 0) = false), decA s = (c, [], []) → decY s = ((false, [], [], ()), c, ()) := fun c hc e => by
    show ((decide ((decA s).1 = 0) && (byteAt s 0 == 1), (decA s).2.1, (decA s).2.2, ()), (decA s).1, ()) = _
    rw [e, hc]; rfl
  have first : (s.size : Int) ≤ 254 → s ≠ ByteArray.empty → ¬ (byteAt s 0 ≠ 1 ∧ byteAt s 0 ≠ 2) → Safe P 45 X (Ends [tRN, tInt] (decY s)) (cRDec s (byteAt s 0 == 1) [] [] 1) := fun h1 h2 h3 => by
    have hp : 0 < s.size := Nat.pos_of_ne_zero fun e => h2 (size_zero e)
    have e : decA s = decL (byteAt s 0 == 1) s.size (sf s 1) [] [] := by rw [decA, if_neg (by omega), if_neg h2, if_neg h3]; rfl
    exact loop (by omega) (byteAt s 0 == 1) s.size 1 [] [] (by omega) (by omega) (by simp) (by rw [← e]; rfl)
  refine go hz hX hT Try.func45 (treeRDec s) ⟨fun h => ends_eq ((false, [], [], ()), 40, ()) (err 40 rfl ?_) (by kernel_rfl), fun h => ⟨fun h2 => ends_eq ((false, [], [], ()), 8, ()) (err 8 rfl ?_) (by kernel_rfl), fun h2 => ?_⟩⟩
  · rw [decA, if_pos (of_decide_eq_true h)]
  · rw [decA, if_neg (of_decide_eq_false h), if_pos (size_zero (by simpa using h2))]
  · have h := of_decide_eq_false h
    have h2 : s ≠ ByteArray.empty := fun e => by subst e; simp at h2
    have hp : 0 < s.size := Nat.pos_of_ne_zero fun e => h2 (size_zero e)
    refine ⟨by omega, by omega, fun h3 => ⟨by omega, by omega, fun h4 => ends_eq ((false, [], [], ()), 4, ()) (err 4 rfl ?_) (by kernel_rfl), fun h4 => ⟨by omega, by omega, first (by omega) h2 ?_⟩⟩, fun h3 => ⟨by omega, by omega, first (by omega) h2 ?_⟩⟩
    · have h3 : byteAt s 0 ≠ 1 := by simpa using h3
      have h4 : byteAt s 0 ≠ 2 := by simpa using h4
      rw [decA, if_neg h, if_neg h2, if_pos ⟨h3, h4⟩]
    · have h4 : byteAt s 0 = 2 := by simpa using h4
      exact fun e => e.2 h4
    · have h3 : byteAt s 0 = 1 := by simpa using h3
      exact fun e => e.1 h3
end Lf
