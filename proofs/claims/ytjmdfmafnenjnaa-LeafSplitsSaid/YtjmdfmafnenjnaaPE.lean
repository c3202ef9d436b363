/- Lemmas: R3, R4, R5, R6, R7, R8, SxRoom, R9, R10, R11, R12. -/
import Derived.Test.YtjmdfmafnenjnaaPD

namespace Lf
open Go Go.Sx Go.Proofs
def tabRDec : Tab := [(40, sRMay)]
def nsRDec : List (Nat × Norm) := [(9, ⟨[], [0, 2, 4, 5], 0, [(1, 1, false, .typ cE [], eRE), (1, 2, false, .typ cB [], eRB)]⟩)]
noncomputable def cRDec (s : ByteArray) (l : Bool) (es : List En) (bs : List Br) (i : Int) : Cfg := ⟨sl 131 [(0, .s (.str s)), (2, .ptr 0 0), (4, .ptr 1 0), (5, .s (.int .i64 i))], [obRZ, .own [.s (.bool l), .vec 2, .vec 3] eRN, .vec (.typ cE es) eRE, .vec (.typ cB bs) eRB], hd Try.f45 9, {}⟩
theorem treeRDec (s : ByteArray) : run P tabRDec.sum Try.f45 nsRDec (start Try.f45 [.s (.str s)] []) =
  Tree.ite (decide ((↑s.size : Int) > (254 : Int))) (Tree.ret [AObj.own [AV.s (SV.blit false), AV.emp, AV.emp] (25 : Nat)] (AV.tup [AV.agg [AV.s (SV.blit false), AV.emp, AV.emp], AV.s (SV.ilit IntKind.i64 (40 : Int))])) (Tree.ite ((↑s.size : Int) == (0 : Int)) (Tree.ret [AObj.own [AV.s (SV.blit false), AV.emp, AV.emp] (25 : Nat)] (AV.tup [AV.agg [AV.s (SV.blit false), AV.emp, AV.emp], AV.s (SV.ilit IntKind.i64 (8 : Int))])) (Tree.need ((0 : Int) ≤ (0 : Int)) (Tree.need ((0 : Int) < (↑s.size : Int)) (Tree.ite (byteAt s (Int.toNat (0 : Int)) != (1 : Int)) (Tree.need ((0 : Int) ≤ (0 : Int)) (Tree.need ((0 : Int) < (↑s.size : Int)) (Tree.ite (byteAt s (Int.toNat (0 : Int)) != (2 : Int)) (Tree.ret [AObj.own [AV.s (SV.blit false), AV.emp, AV.emp] (25 : Nat)] (AV.tup [AV.agg [AV.s (SV.blit false), AV.emp, AV.emp], AV.s (SV.ilit IntKind.i64 (4 : Int))])) (Tree.need ((0 : Int) ≤ (0 : Int)) (Tree.need ((0 : Int) < (↑s.size : Int)) (Tree.at (Cfg.mk (sl (131 : Nat) [((0 : Nat), AV.s (SV.str s)), ((2 : Nat), AV.ptr (0 : Nat) (0 : Nat)), ((4 : Nat), AV.ptr (1 : Nat) (0 : Nat)), ((5 : Nat), AV.s (SV.int IntKind.i64 (1 : Int)))]) [AObj.own [AV.s (SV.bool false), AV.emp, AV.emp] (25 : Nat), AObj.own [AV.s (SV.bool (byteAt s (Int.toNat (0 : Int)) == (1 : Int))), AV.vec (2 : Nat), AV.vec (3 : Nat)] (25 : Nat), AObj.vec (Con.typ [CK.str, CK.str] []) (134 : Nat), AObj.vec (Con.typ [CK.str, CK.int IntKind.i64] []) (135 : Nat)] (hd Try.f45 (9 : Nat)) (Stk.mk none false (0 : Nat) [] (0 : Nat))))))))) (Tree.need ((0 : Int) ≤ (0 : Int)) (Tree.need ((0 : Int) < (↑s.size : Int)) (Tree.at (Cfg.mk (sl (131 : Nat) [((0 : Nat), AV.s (SV.str s)), ((2 : Nat), AV.ptr (0 : Nat) (0 : Nat)), ((4 : Nat), AV.ptr (1 : Nat) (0 : Nat)), ((5 : Nat), AV.s (SV.int IntKind.i64 (1 : Int)))]) [AObj.own [AV.s (SV.bool false), AV.emp, AV.emp] (25 : Nat), AObj.own [AV.s (SV.bool (byteAt s (Int.toNat (0 : Int)) == (1 : Int))), AV.vec (2 : Nat), AV.vec (3 : Nat)] (25 : Nat), AObj.vec (Con.typ [CK.str, CK.str] []) (134 : Nat), AObj.vec (Con.typ [CK.str, CK.int IntKind.i64] []) (135 : Nat)] (hd Try.f45 (9 : Nat)) (Stk.mk none false (0 : Nat) [] (0 : Nat)))))))))) := by kernel_rfl
theorem loopRDec (s : ByteArray) (l : Bool) (es : List En) (bs : List Br) (i : Int) : run P tabRDec.sum Try.f45 nsRDec (cRDec s l es bs i) =
  Tree.ite (decide (i < (↑s.size : Int)))
  (Tree.need ((0 : Int) ≤ i)
    (Tree.need (i < (↑s.size : Int))
      (Tree.need (inI64 (byteAt s i.toNat))
        (Tree.need (inI64 (i + (1 : Int)))
          (Tree.need (inI64 (i + (1 : Int) + byteAt s i.toNat))
            (Tree.ite (decide (i + (1 : Int) + byteAt s i.toNat > (↑s.size : Int))) (Tree.ret [AObj.own [AV.s (SV.blit false), AV.emp, AV.emp] (25 : Nat), AObj.own [AV.s (SV.bool l), AV.vec (2 : Nat), AV.vec (3 : Nat)] (25 : Nat), AObj.vec (Con.typ [CK.str, CK.str] es) (134 : Nat), AObj.vec (Con.typ [CK.str, CK.int IntKind.i64] bs) (135 : Nat)] (AV.tup [AV.agg [AV.s (SV.blit false), AV.emp, AV.emp], AV.s (SV.ilit IntKind.i64 (8 : Int))]))
              (Tree.need (inI64 (i + (1 : Int)))
                (Tree.need (inI64 (i + (1 : Int)))
                  (Tree.need (inI64 (i + (1 : Int) + byteAt s i.toNat))
                    (Tree.need ((0 : Int) ≤ i + (1 : Int))
                      (Tree.need (i + (1 : Int) ≤ i + (1 : Int) + byteAt s i.toNat)
                        (Tree.need (i + (1 : Int) + byteAt s i.toNat ≤ (↑s.size : Int))
                          (Tree.need (inI64 (i + (1 : Int)))
                            (Tree.need (inI64 (i + (1 : Int) + byteAt s i.toNat))
                              (Tree.ite l (Tree.ite (decide (i + (1 : Int) + byteAt s i.toNat ≥ (↑s.size : Int))) (Tree.ret [AObj.own [AV.s (SV.blit false), AV.emp, AV.emp] (25 : Nat), AObj.own [AV.s (SV.bool l), AV.vec (2 : Nat), AV.vec (3 : Nat)] (25 : Nat), AObj.vec (Con.typ [CK.str, CK.str] es) (134 : Nat), AObj.vec (Con.typ [CK.str, CK.int IntKind.i64] bs) (135 : Nat)] (AV.tup [AV.agg [AV.s (SV.blit false), AV.emp, AV.emp], AV.s (SV.ilit IntKind.i64 (8 : Int))])) (Tree.need (inI64 (i + (1 : Int) + byteAt s i.toNat + (1 : Int))) (Tree.need ((0 : Int) ≤ i + (1 : Int) + byteAt s i.toNat) (Tree.need (i + (1 : Int) + byteAt s i.toNat < (↑s.size : Int)) (Tree.need (inI64 (byteAt s (i + (1 : Int) + byteAt s i.toNat).toNat)) (Tree.need (inI64 (i + (1 : Int) + byteAt s i.toNat + (1 : Int) + byteAt s (i + (1 : Int) + byteAt s i.toNat).toNat)) (Tree.ite (decide (i + (1 : Int) + byteAt s i.toNat + (1 : Int) + byteAt s (i + (1 : Int) + byteAt s i.toNat).toNat > (↑s.size : Int))) (Tree.ret [AObj.own [AV.s (SV.blit false), AV.emp, AV.emp] (25 : Nat), AObj.own [AV.s (SV.bool l), AV.vec (2 : Nat), AV.vec (3 : Nat)] (25 : Nat), AObj.vec (Con.typ [CK.str, CK.str] es) (134 : Nat), AObj.vec (Con.typ [CK.str, CK.int IntKind.i64] bs) (135 : Nat)] (AV.tup [AV.agg [AV.s (SV.blit false), AV.emp, AV.emp], AV.s (SV.ilit IntKind.i64 (8 : Int))])) (Tree.need ((0 : Int) ≤ i + (1 : Int) + byteAt s i.toNat) (Tree.need (i + (1 : Int) + byteAt s i.toNat < (↑s.size : Int)) (Tree.need (inI64 (byteAt s (i + (1 : Int) + byteAt s i.toNat).toNat)) (Tree.need (inI64 (i + (1 : Int) + byteAt s i.toNat + (1 : Int))) (Tree.need (inI64 (i + (1 : Int) + byteAt s i.toNat + (1 : Int))) (Tree.need (inI64 (i + (1 : Int) + byteAt s i.toNat + (1 : Int) + byteAt s (i + (1 : Int) + byteAt s i.toNat).toNat)) (Tree.need ((0 : Int) ≤ i + (1 : Int) + byteAt s i.toNat + (1 : Int)) (Tree.need (i + (1 : Int) + byteAt s i.toNat + (1 : Int) ≤ i + (1 : Int) + byteAt s i.toNat + (1 : Int) + byteAt s (i + (1 : Int) + byteAt s i.toNat).toNat) (Tree.need (i + (1 : Int) + byteAt s i.toNat + (1 : Int) + byteAt s (i + (1 : Int) + byteAt s i.toNat).toNat ≤ (↑s.size : Int)) (Tree.need (es.length + (1 : Nat) ≤ (4294967296 : Nat)) (Tree.need (inI64 (i + (1 : Int) + byteAt s i.toNat + (1 : Int))) (Tree.need (inI64 (i + (1 : Int) + byteAt s i.toNat + (1 : Int) + byteAt s (i + (1 : Int) + byteAt s i.toNat).toNat)) (Tree.at (Cfg.mk (sl (131 : Nat) [((0 : Nat), AV.s (SV.str s)), ((2 : Nat), AV.ptr (0 : Nat) (0 : Nat)), ((4 : Nat), AV.ptr (1 : Nat) (0 : Nat)), ((5 : Nat), AV.s (SV.int IntKind.i64 (i + (1 : Int) + byteAt s i.toNat + (1 : Int) + byteAt s (i + (1 : Int) + byteAt s i.toNat).toNat)))]) [AObj.own [AV.s (SV.bool false), AV.emp, AV.emp] (25 : Nat), AObj.own [AV.s (SV.bool l), AV.vec (2 : Nat), AV.vec (3 : Nat)] (25 : Nat), AObj.vec (Con.typ [CK.str, CK.str] (es ++ [(s.extract (i + (1 : Int)).toNat (i + (1 : Int) + byteAt s i.toNat).toNat, s.extract (i + (1 : Int) + byteAt s i.toNat + (1 : Int)).toNat (i + (1 : Int) + byteAt s i.toNat + (1 : Int) + byteAt s (i + (1 : Int) + byteAt s i.toNat).toNat).toNat, ())])) (134 : Nat), AObj.vec (Con.typ [CK.str, CK.int IntKind.i64] bs) (135 : Nat)] (hd Try.f45 (9 : Nat)) (Stk.mk none false (0 : Nat) [] (0 : Nat)))))))))))))))))))))))
                                (Tree.need (inI64 (i + (1 : Int) + byteAt s i.toNat + (2 : Int))) (Tree.ite (decide (i + (1 : Int) + byteAt s i.toNat + (2 : Int) > (↑s.size : Int))) (Tree.ret [AObj.own [AV.s (SV.blit false), AV.emp, AV.emp] (25 : Nat), AObj.own [AV.s (SV.bool l), AV.vec (2 : Nat), AV.vec (3 : Nat)] (25 : Nat), AObj.vec (Con.typ [CK.str, CK.str] es) (134 : Nat), AObj.vec (Con.typ [CK.str, CK.int IntKind.i64] bs) (135 : Nat)] (AV.tup [AV.agg [AV.s (SV.blit false), AV.emp, AV.emp], AV.s (SV.ilit IntKind.i64 (8 : Int))])) (Tree.need ((0 : Int) ≤ i + (1 : Int) + byteAt s i.toNat) (Tree.need (i + (1 : Int) + byteAt s i.toNat < (↑s.size : Int)) (Tree.need (inI64 (byteAt s (i + (1 : Int) + byteAt s i.toNat).toNat)) (Tree.need (inI64 (byteAt s (i + (1 : Int) + byteAt s i.toNat).toNat * (256 : Int))) (Tree.need (inI64 (i + (1 : Int) + byteAt s i.toNat + (1 : Int))) (Tree.need ((0 : Int) ≤ i + (1 : Int) + byteAt s i.toNat + (1 : Int)) (Tree.need (i + (1 : Int) + byteAt s i.toNat + (1 : Int) < (↑s.size : Int)) (Tree.need (inI64 (byteAt s (i + (1 : Int) + byteAt s i.toNat + (1 : Int)).toNat)) (Tree.need (inI64 (byteAt s (i + (1 : Int) + byteAt s i.toNat).toNat * (256 : Int) + byteAt s (i + (1 : Int) + byteAt s i.toNat + (1 : Int)).toNat)) (Tree.need (bs.length + (1 : Nat) ≤ (4294967296 : Nat)) (Tree.need (inI64 (i + (1 : Int) + byteAt s i.toNat + (2 : Int))) (Tree.at (Cfg.mk (sl (131 : Nat) [((0 : Nat), AV.s (SV.str s)), ((2 : Nat), AV.ptr (0 : Nat) (0 : Nat)), ((4 : Nat), AV.ptr (1 : Nat) (0 : Nat)), ((5 : Nat), AV.s (SV.int IntKind.i64 (i + (1 : Int) + byteAt s i.toNat + (2 : Int))))]) [AObj.own [AV.s (SV.bool false), AV.emp, AV.emp] (25 : Nat), AObj.own [AV.s (SV.bool l), AV.vec (2 : Nat), AV.vec (3 : Nat)] (25 : Nat), AObj.vec (Con.typ [CK.str, CK.str] es) (134 : Nat), AObj.vec (Con.typ [CK.str, CK.int IntKind.i64] (bs ++ [(s.extract (i + (1 : Int)).toNat (i + (1 : Int) + byteAt s i.toNat).toNat, byteAt s (i + (1 : Int) + byteAt s i.toNat).toNat * (256 : Int) + byteAt s (i + (1 : Int) + byteAt s i.toNat + (1 : Int)).toNat, ())])) (135 : Nat)] (hd Try.f45 (9 : Nat)) (Stk.mk none false (0 : Nat) [] (0 : Nat))))))))))))))))))))))))))))))))
  (Tree.ite (!mayN l es bs) (Tree.ret [AObj.own [AV.s (SV.blit false), AV.emp, AV.emp] (25 : Nat), AObj.own [AV.s (SV.bool l), AV.vec (2 : Nat), AV.vec (3 : Nat)] (25 : Nat), AObj.vec (Con.typ [CK.str, CK.str] es) (134 : Nat), AObj.vec (Con.typ [CK.str, CK.int IntKind.i64] bs) (135 : Nat)] (AV.tup [AV.agg [AV.s (SV.blit false), AV.emp, AV.emp], AV.s (SV.ilit IntKind.i64 (4 : Int))])) (Tree.ret [AObj.own [AV.s (SV.bool l), AV.vec (2 : Nat), AV.vec (3 : Nat)] (25 : Nat), AObj.own [AV.s (SV.bool l), AV.vec (2 : Nat), AV.vec (3 : Nat)] (25 : Nat), AObj.vec (Con.typ [CK.str, CK.str] es) (134 : Nat), AObj.vec (Con.typ [CK.str, CK.int IntKind.i64] bs) (135 : Nat)] (AV.tup [AV.agg [AV.s (SV.bool l), AV.vec (2 : Nat), AV.vec (3 : Nat)], AV.s (SV.ilit IntKind.i64 (0 : Int))]))) := by kernel_rfl
def sf (s : ByteArray) (k : Nat) : ByteArray := s.extract k s.size
theorem U_sf (s : ByteArray) (k : Nat) : U (sf s k) = (U s).drop k := by
  rw [sf, U_extract, List.take_of_length_le (by rw [List.length_drop, U_len]; omega)]
theorem sf_size (s : ByteArray) (k : Nat) : (sf s k).size = s.size - k := by rw [sf, size_extract']; omega
theorem sf_end (s : ByteArray) {k : Nat} (h : s.size ≤ k) : sf s k = ByteArray.empty := size_zero (by rw [sf_size]; omega)
theorem byte_of (s : ByteArray) (k : Nat) : ∃ b : Nat, byteAt s k = (b : Int) ∧ b ≤ 255 := by
  have := byteAt_range s k
  exact ⟨(byteAt s k).toNat, by omega, by omega⟩
theorem sf_cons {s : ByteArray} {k b : Nat} (h : k < s.size) (hb : byteAt s k = (b : Int)) : U (sf s k) = UInt8.ofNat b :: U (sf s (k + 1)) := by
  have hl : k < (U s).length := by rw [U_len]; exact h
  have e : byteAt s k = ((U s)[k].toNat : Int) := by simp [byteAt, List.getD, List.getElem?_eq_getElem hl]
  have e2 : b = (U s)[k].toNat := by omega
  rw [U_sf, U_sf, List.drop_eq_getElem_cons hl, e2]
  simp
theorem sf_text {s : ByteArray} {k b : Nat} (h : k + 1 + b ≤ s.size) (hb : byteAt s k = (b : Int)) (hb2 : b ≤ 255) : rdB (sf s k) = true ∧ rdT (sf s k) = s.extract (k + 1) (k + 1 + b) ∧ rdR (sf s k) = sf s (k + 1 + b) := by
  have hz : (s.extract (k + 1) (k + 1 + b)).size = b := by rw [size_extract']; omega
  have hu : U (sf s k) = txtU (s.extract (k + 1) (k + 1 + b)) ++ U (sf s (k + 1 + b)) := by
    rw [sf_cons (by omega) hb, txtU, hz, List.cons_append]
    congr 1
    rw [U_sf, U_sf, U_extract, show k + 1 + b - (k + 1) = b from by omega, show List.drop (k + 1 + b) (U s) = List.drop b (List.drop (k + 1) (U s)) from by rw [List.drop_drop], List.take_append_drop]
  obtain ⟨h1, h2, h3⟩ := text_of hu (by omega)
  exact ⟨h1, h2, ba_ext h3⟩
theorem sf_short {s : ByteArray} {k b : Nat} (hk : k < s.size) (h : s.size < k + 1 + b) (hb : byteAt s k = (b : Int)) (hb2 : b ≤ 255) : rdB (sf s k) = false := by
  cases e : rdB (sf s k)
  · rfl
  · exfalso
    obtain ⟨h1, h2⟩ := of_text e
    rw [sf_cons hk hb, txtU] at h1
    simp only [List.cons_append, List.cons.injEq] at h1
    have h3 : b = (rdT (sf s k)).size := by
      have := congrArg UInt8.toNat h1.1
      simp only [UInt8.toNat_ofNat'] at this
      omega
    have h4 := congrArg List.length h1.2
    rw [List.length_append, U_len, U_len, U_len, sf_size] at h4
    omega
theorem sf_none {s : ByteArray} {k : Nat} (h : s.size ≤ k) : rdB (sf s k) = false := by
  rw [sf_end s h]
  cases e : rdB ByteArray.empty
  · rfl
  · have := rdR_size e
    simp at this
theorem sf_two {s : ByteArray} {k a b : Nat} (h : k + 2 ≤ s.size) (ha : byteAt s k = (a : Int)) (hb : byteAt s (k + 1) = (b : Int)) (ha2 : a ≤ 255) (hb2 : b ≤ 255) : tkB 2 (sf s k) = true ∧ pgOf (tkT 2 (sf s k)) = (a : Int) * 256 + b ∧ tkR 2 (sf s k) = sf s (k + 2) := by
  have hu : U (sf s k) = [UInt8.ofNat a, UInt8.ofNat b] ++ U (sf s (k + 2)) := by
    rw [sf_cons (by omega) ha, sf_cons (by omega) hb]; rfl
  obtain ⟨h1, h2, h3⟩ := take_of (k := 2) hu rfl
  refine ⟨h1, ?_, ba_ext h3⟩
  rw [pg_of h2]
  simp only [UInt8.toNat_ofNat']
  omega
theorem sf_nottwo {s : ByteArray} {k : Nat} (h : s.size < k + 2) : tkB 2 (sf s k) = false := by
  simp only [tkB, sf_size, Bool.not_eq_false', decide_eq_true_eq]
  omega

theorem rdec_ok {Z : Glob} : FnOk P Z 45 [tStr] [tRN, tInt] (fun _ => []) (fun (s, ()) => ((decLf s, decE s, decB s, ()), decC s, ())) := by
  refine fnOk_of_safe Try.func45 (by kernel_rfl) (by kernel_rfl) ?_
  rintro ⟨(s : ByteArray), ⟨⟩⟩ _ _ X hX hz
  have hT : tabRDec.Ok P Z := Tab.Ok.cons rmay_ok.sum Tab.Ok.nil
  have I : ∀ x : Int, -1000000 ≤ x → x ≤ 1000000 → inI64 x := fun x h1 h2 => ⟨by omega, by omega⟩
  show Safe P 45 X (Ends [tRN, tInt] (decY s)) _
  have loop : s.size ≤ 254 → ∀ (l : Bool) (n k : Nat) (es : List En) (bs : List Br), s.size ≤ k + n → k ≤ s.size → es.length + bs.length ≤ k → decR l (decL l n (sf s k) es bs) = decY s →
      Safe P 45 X (Ends [tRN, tInt] (decY s)) (cRDec s l es bs (k : Int)) := by
    intro h254 l n
    have fin : ∀ (n k : Nat) (es : List En) (bs : List Br), k = s.size → decR l (decL l n (sf s k) es bs) = decY s → Safe P 45 X (Ends [tRN, tInt] (decY s)) (cRDec s l es bs (k : Int)) := by
      intro n k es bs hk hy
      rw [decL_end (by rw [sf_end s (by omega)]; rfl)] at hy
      refine go hz hX hT Try.func45 (loopRDec s l es bs k) ⟨fun h => absurd (of_decide_eq_true h) (by omega), fun _ => ⟨fun h => ?_, fun h => ?_⟩⟩
      · refine ends_eq ((false, [], [], ()), 4, ()) ?_ (by kernel_rfl)
        rw [← hy, if_neg (by simpa using h)]; rfl
      · refine ends_eq ((l, es, bs, ()), 0, ()) ?_ (by kernel_rfl)
        rw [← hy, if_pos (by simpa using h)]; rfl
    induction n with
    | zero => exact fun k es bs hn hk _ hy => fin 0 k es bs (by omega) hy
    | succ n ih =>
      intro k es bs hn hk hcnt hy
      by_cases hks : k = s.size
      · exact fin (n + 1) k es bs hks hy
      have hlt : k < s.size := by omega
      have h0 : sf s k ≠ ByteArray.empty := fun e => by have := sf_size s k; rw [e] at this; simp at this; omega
      have bad : decL l (n + 1) (sf s k) es bs = (8, [], []) → ((false, [], [], ()), 8, ()) = decY s := fun e => by rw [← hy, e]; rfl
      obtain ⟨b, hb, hb2⟩ := byte_of s k
      obtain ⟨c, hc, hc2⟩ := byte_of s (k + 1 + b)
      obtain ⟨d, hd, hd2⟩ := byte_of s (k + 1 + b + 1)
      refine go hz hX hT Try.func45 (loopRDec s l es bs k) ?_
      simp only [Int.toNat_natCast, hb]
      rw [show ((k : Int) + 1 + (b : Int)).toNat = k + 1 + b from by omega, show ((k : Int) + 1).toNat = k + 1 from by omega, show ((k : Int) + 1 + (b : Int) + 1).toNat = k + 1 + b + 1 from by omega]
      simp only [hc, hd]
      rw [show ((k : Int) + 1 + (b : Int) + 1 + (c : Int)).toNat = k + 1 + b + 1 + c from by omega]
      refine ⟨fun h => ?_, fun h => absurd (of_decide_eq_false h) (by omega)⟩
      refine ⟨by omega, by omega, I _ (by omega) (by omega), I _ (by omega) (by omega), I _ (by omega) (by omega), fun h1 => ?_, fun h1 => ?_⟩
      · refine ends_eq ((false, [], [], ()), 8, ()) (bad ?_).symm (by kernel_rfl)
        have h1 := of_decide_eq_true h1
        rw [decL, if_neg h0, if_pos (sf_short hlt (by omega) hb hb2)]
      · have h1 := of_decide_eq_false h1
        obtain ⟨t1, t2, t3⟩ := sf_text (by omega) hb hb2
        refine ⟨I _ (by omega) (by omega), I _ (by omega) (by omega), I _ (by omega) (by omega), by omega, by omega, by omega, I _ (by omega) (by omega), I _ (by omega) (by omega), fun hl => ⟨fun h2 => ?_, fun h2 => ⟨I _ (by omega) (by omega), by omega, ?_⟩⟩, fun hl => ⟨I _ (by omega) (by omega), fun h2 => ?_, fun h2 => ?_⟩⟩
        · have h2 := of_decide_eq_true h2
          refine ends_eq ((false, [], [], ()), 8, ()) (bad ?_).symm (by kernel_rfl)
          rw [decL, if_neg h0, if_neg (by simp [t1]), if_pos hl, if_neg (by rw [t3, sf_none (by omega)]; simp)]
        · have h2 := of_decide_eq_false h2
          refine ⟨by omega, I _ (by omega) (by omega), I _ (by omega) (by omega), fun h3 => ?_, fun h3 => ?_⟩
          · have h3 := of_decide_eq_true h3
            refine ends_eq ((false, [], [], ()), 8, ()) (bad ?_).symm (by kernel_rfl)
            rw [decL, if_neg h0, if_neg (by simp [t1]), if_pos hl, if_neg (by rw [t3, sf_short (by omega) (by omega) hc hc2]; simp)]
          · have h3 := of_decide_eq_false h3
            obtain ⟨u1, u2, u3⟩ := sf_text (s := s) (k := k + 1 + b) (b := c) (by omega) hc hc2
            refine ⟨by omega, by omega, I _ (by omega) (by omega), I _ (by omega) (by omega), I _ (by omega) (by omega), I _ (by omega) (by omega), by omega, by omega, by omega, by omega, I _ (by omega) (by omega), I _ (by omega) (by omega), ?_⟩
            have := ih (k + 1 + b + 1 + c) (es ++ [(s.extract (k + 1) (k + 1 + b), s.extract (k + 1 + b + 1) (k + 1 + b + 1 + c), ())]) bs (by omega) (by omega) (by simp only [List.length_append, List.length_cons, List.length_nil]; omega)
              (by rw [← hy, decL, if_neg h0, if_neg (by simp [t1]), if_pos hl, if_pos (by rw [t3]; exact u1), t3, t2, u2, u3])
            rw [show ((k + 1 + b + 1 + c : Nat) : Int) = (k : Int) + 1 + b + 1 + c from by omega] at this
            exact this
        · have h2 := of_decide_eq_true h2
          refine ends_eq ((false, [], [], ()), 8, ()) (bad ?_).symm (by kernel_rfl)
          rw [decL, if_neg h0, if_neg (by simp [t1]), if_neg (by simp [hl]), if_neg (by rw [t3, sf_nottwo (by omega)]; simp)]
        · have h2 := of_decide_eq_false h2
          obtain ⟨u1, u2, u3⟩ := sf_two (s := s) (k := k + 1 + b) (by omega) hc hd hc2 hd2
          refine ⟨by omega, by omega, I _ (by omega) (by omega), I _ (by omega) (by omega), I _ (by omega) (by omega), by omega, by omega, I _ (by omega) (by omega), I _ (by omega) (by omega), by omega, I _ (by omega) (by omega), ?_⟩
          have := ih (k + 1 + b + 2) es (bs ++ [(s.extract (k + 1) (k + 1 + b), (c : Int) * 256 + d, ())]) (by omega) (by omega) (by simp only [List.length_append, List.length_cons, List.length_nil]; omega)
              (by rw [← hy, decL, if_neg h0, if_neg (by simp [t1]), if_neg (by simp [hl]), if_pos (by rw [t3]; exact u1), t3, t2, u2, u3])
          rw [show ((k + 1 + b + 2 : Nat) : Int) = (k : Int) + 1 + b + 2 from by omega] at this
          exact this
  have err : ∀ (c : Int) (_ : decide (c = 0) = false), decA s = (c, [], []) → decY s = ((false, [], [], ()), c, ()) := fun c hc e => by
    show ((decide ((decA s).1 = 0) && (byteAt s 0 == 1), (decA s).2.1, (decA s).2.2, ()), (decA s).1, ()) = _
    rw [e, hc]; rfl
  have first : (s.size : Int) ≤ 254 → s ≠ ByteArray.empty → ¬ (byteAt s 0 ≠ 1 ∧ byteAt s 0 ≠ 2) → Safe P 45 X (Ends [tRN, tInt] (decY s)) (cRDec s (byteAt s 0 == 1) [] [] 1) := fun h1 h2 h3 => by
    have hp : 0 < s.size := Nat.pos_of_ne_zero fun e => h2 (size_zero e)
    have e : decA s = decL (byteAt s 0 == 1) s.size (sf s 1) [] [] := by rw [decA, if_neg (by omega), if_neg h2, if_neg h3]; rfl
    exact loop (by omega) (byteAt s 0 == 1) s.size 1 [] [] (by omega) (by omega) (by simp) (by rw [← e]; rfl)
  refine go hz hX hT Try.func45 (treeRDec s) ⟨fun h => ends_eq ((false, [], [], ()), 40, ()) (err 40 rfl ?_) (by kernel_rfl), fun h => ⟨fun h2 => ends_eq ((false, [], [], ()), 8, ()) (err 8 rfl ?_) (by kernel_rfl), fun h2 => ?_⟩⟩
  · rw [decA, if_pos (of_decide_eq_true h)]
  · rw [decA, if_neg (of_decide_eq_false h), if_pos (size_zero (by simpa using h2))]
  · have h := of_decide_eq_false h
    have h2 : s ≠ ByteArray.empty := fun e => by subst e; simp at h2
    have hp : 0 < s.size := Nat.pos_of_ne_zero fun e => h2 (size_zero e)
    refine ⟨by omega, by omega, fun h3 => ⟨by omega, by omega, fun h4 => ends_eq ((false, [], [], ()), 4, ()) (err 4 rfl ?_) (by kernel_rfl), fun h4 => ⟨by omega, by omega, first (by omega) h2 ?_⟩⟩, fun h3 => ⟨by omega, by omega, first (by omega) h2 ?_⟩⟩
    · have h3 : byteAt s 0 ≠ 1 := by simpa using h3
      have h4 : byteAt s 0 ≠ 2 := by simpa using h4
      rw [decA, if_neg h, if_neg h2, if_pos ⟨h3, h4⟩]
    · have h4 : byteAt s 0 = 2 := by simpa using h4
      exact fun e => e.2 h4
    · have h3 : byteAt s 0 = 1 := by simpa using h3
      exact fun e => e.1 h3
end Lf

namespace Lf
open Go Go.Sx Go.Proofs
theorem treeClE (a : List En) : run P tab0.sum Try.f105 [] (start Try.f105 [.s (.ro (.typ cE a))] []) =
  Tree.both (a.length = (0 : Nat)) True (Tree.ret [] AV.emp) (Tree.need ((0 : Nat) + a.length ≤ (4294967296 : Nat)) (Tree.ret [AObj.dead, AObj.vec (Con.typ [CK.str, CK.str] ([] ++ a)) (59 : Nat)] (AV.vec (1 : Nat)))) := by kernel_rfl
theorem treeClB (a : List Br) : run P tab0.sum Try.f124 [] (start Try.f124 [.s (.ro (.typ cB a))] []) =
  Tree.both (a.length = (0 : Nat)) True (Tree.ret [] AV.emp) (Tree.need ((0 : Nat) + a.length ≤ (4294967296 : Nat)) (Tree.ret [AObj.dead, AObj.vec (Con.typ [CK.str, CK.int IntKind.i64] ([] ++ a)) (36 : Nat)] (AV.vec (1 : Nat)))) := by kernel_rfl
abbrev sClE := sumOf [tEs] [tEs] (fun (l, ()) => [(l : List En).length ≤ 100000]) (fun (l, ()) => (l, ()))
abbrev sClB := sumOf [tBs] [tBs] (fun (l, ()) => [(l : List Br).length ≤ 100000]) (fun (l, ()) => (l, ()))
def tabCut : Tab := [(105, sClE), (124, sClB)]
theorem treeCutE (a : List En) (k : Int) : run P tabCut.sum Try.f101 [] (start Try.f101 [.s (.ro (.typ cE a)), .s (.int .i64 k)] []) =
  Tree.ite ((↑a.length : Int) == (0 : Int)) (Tree.ret [] (AV.tup [AV.emp, AV.emp])) (Tree.need ((0 : Int) ≤ (0 : Int)) (Tree.need ((0 : Int) ≤ k) (Tree.need (k ≤ (↑a.length : Int)) (Tree.need ((List.drop (Int.toNat (0 : Int)) (List.take k.toNat a)).length ≤ (100000 : Nat)) (Tree.need ((0 : Int) ≤ k) (Tree.need (k ≤ (↑a.length : Int)) (Tree.need ((↑a.length : Int) ≤ (↑a.length : Int)) (Tree.need ((List.drop k.toNat (List.take (↑a.length : Int).toNat a)).length ≤ (100000 : Nat)) (Tree.ret [AObj.vec (Con.typ [CK.str, CK.str] (List.drop (Int.toNat (0 : Int)) (List.take k.toNat a))) (59 : Nat), AObj.vec (Con.typ [CK.str, CK.str] (List.drop k.toNat (List.take (↑a.length : Int).toNat a))) (59 : Nat)] (AV.tup [AV.vec (0 : Nat), AV.vec (1 : Nat)])))))))))) := by kernel_rfl
theorem treeCutB (a : List Br) (k : Int) : run P tabCut.sum Try.f102 [] (start Try.f102 [.s (.ro (.typ cB a)), .s (.int .i64 k)] []) =
  Tree.ite ((↑a.length : Int) == (0 : Int)) (Tree.ret [] (AV.tup [AV.emp, AV.emp])) (Tree.need ((0 : Int) ≤ (0 : Int)) (Tree.need ((0 : Int) ≤ k) (Tree.need (k ≤ (↑a.length : Int)) (Tree.need ((List.drop (Int.toNat (0 : Int)) (List.take k.toNat a)).length ≤ (100000 : Nat)) (Tree.need ((0 : Int) ≤ k) (Tree.need (k ≤ (↑a.length : Int)) (Tree.need ((↑a.length : Int) ≤ (↑a.length : Int)) (Tree.need ((List.drop k.toNat (List.take (↑a.length : Int).toNat a)).length ≤ (100000 : Nat)) (Tree.ret [AObj.vec (Con.typ [CK.str, CK.int IntKind.i64] (List.drop (Int.toNat (0 : Int)) (List.take k.toNat a))) (36 : Nat), AObj.vec (Con.typ [CK.str, CK.int IntKind.i64] (List.drop k.toNat (List.take (↑a.length : Int).toNat a))) (36 : Nat)] (AV.tup [AV.vec (0 : Nat), AV.vec (1 : Nat)])))))))))) := by kernel_rfl
abbrev sCutE := sumOf [tEs, tInt] [tEs, tEs] (fun (l, k, ()) => [(l : List En).length ≤ 100000, 0 ≤ (k : Int), (l = [] ∨ k ≤ (l.length : Int))]) (fun (l, k, ()) => (List.take (Int.toNat k) l, List.drop (Int.toNat k) l, ()))
abbrev sCutB := sumOf [tBs, tInt] [tBs, tBs] (fun (l, k, ()) => [(l : List Br).length ≤ 100000, 0 ≤ (k : Int), (l = [] ∨ k ≤ (l.length : Int))]) (fun (l, k, ()) => (List.take (Int.toNat k) l, List.drop (Int.toNat k) l, ()))
def tabSpl : Tab := [(98, sSizes), (25, sMay), (34, sSize), (101, sCutE), (102, sCutB)]
def nsSpl : List (Nat × Norm) := [(7, ⟨[], [1, 2, 3, 6, 7, 8, 9, 34, 35, 36], 0, []⟩)]
theorem treeSpl (l : Bool) (es : List En) (bs : List Br) : run P tabSpl.sum Try.f39 nsSpl (start Try.f39 [avN l es bs] []) =
  Tree.need (smallE es) (Tree.need (smallB bs) (Tree.ite (!mayN l es bs) (Tree.ret [AObj.own [AV.s (SV.bool l), AV.s (SV.ro (Con.typ [CK.str, CK.str] es)), AV.s (SV.ro (Con.typ [CK.str, CK.int IntKind.i64] bs))] (31 : Nat), AObj.own [AV.s (SV.blit false), AV.emp, AV.emp] (31 : Nat), AObj.own [AV.s (SV.blit false), AV.emp, AV.emp] (31 : Nat), AObj.vec (Con.ints IntKind.i64 (sizesF es bs)) (3 : Nat)] (AV.tup [AV.agg [AV.s (SV.blit false), AV.emp, AV.emp], AV.agg [AV.s (SV.blit false), AV.emp, AV.emp], AV.s (SV.ilit IntKind.i64 (4 : Int))])) (Tree.ite (decide ((↑(sizesF es bs).length : Int) < (2 : Int))) (Tree.ret [AObj.own [AV.s (SV.bool l), AV.s (SV.ro (Con.typ [CK.str, CK.str] es)), AV.s (SV.ro (Con.typ [CK.str, CK.int IntKind.i64] bs))] (31 : Nat), AObj.own [AV.s (SV.blit false), AV.emp, AV.emp] (31 : Nat), AObj.own [AV.s (SV.blit false), AV.emp, AV.emp] (31 : Nat), AObj.vec (Con.ints IntKind.i64 (sizesF es bs)) (3 : Nat)] (AV.tup [AV.agg [AV.s (SV.blit false), AV.emp, AV.emp], AV.agg [AV.s (SV.blit false), AV.emp, AV.emp], AV.s (SV.ilit IntKind.i64 (4 : Int))])) (Tree.need (smallE es) (Tree.need (smallB bs) (Tree.need (inI64 (sizeN es bs - (1 : Int))) (Tree.need (inI64 ((↑(sizesF es bs).length : Int) - (1 : Int))) (Tree.need ((0 : Int) ≤ (0 : Int)) (Tree.need ((0 : Int) ≤ (↑(sizesF es bs).length : Int) - (1 : Int)) (Tree.need ((↑(0 : Nat) : Int) + ((↑(sizesF es bs).length : Int) - (1 : Int)) ≤ (↑(sizesF es bs).length : Int)) (Tree.at (Cfg.mk (sl (87 : Nat) [((1 : Nat), AV.ptr (0 : Nat) (0 : Nat)), ((2 : Nat), AV.ptr (1 : Nat) (0 : Nat)), ((3 : Nat), AV.ptr (2 : Nat) (0 : Nat)), ((6 : Nat), AV.s (SV.int IntKind.i64 (0 : Int))), ((7 : Nat), AV.s (SV.int IntKind.i64 (sizeN es bs - (1 : Int)))), ((8 : Nat), AV.s (SV.int IntKind.i64 (0 : Int))), ((9 : Nat), AV.s (SV.int IntKind.i64 (0 : Int))), ((34 : Nat), AV.part (3 : Nat) (0 : Nat) (((↑(sizesF es bs).length : Int) - (1 : Int)).toNat - Int.toNat (0 : Int))), ((35 : Nat), AV.s (SV.int IntKind.i64 (↑(((↑(sizesF es bs).length : Int) - (1 : Int)).toNat - Int.toNat (0 : Int)) : Int))), ((36 : Nat), AV.s (SV.int IntKind.i64 (0 : Int)))]) [AObj.own [AV.s (SV.bool l), AV.s (SV.ro (Con.typ [CK.str, CK.str] es)), AV.s (SV.ro (Con.typ [CK.str, CK.int IntKind.i64] bs))] (31 : Nat), AObj.own [AV.s (SV.bool false), AV.emp, AV.emp] (31 : Nat), AObj.own [AV.s (SV.bool false), AV.emp, AV.emp] (31 : Nat), AObj.vec (Con.ints IntKind.i64 (sizesF es bs)) (3 : Nat)] (hd Try.f39 (7 : Nat)) (Stk.mk none false (0 : Nat) [] (0 : Nat)))))))))))))) := by kernel_rfl
def cutE (l : Bool) (es : List En) : List En := if l = true then es else []
def cutB (l : Bool) (bs : List Br) : List Br := if l = true then [] else bs
def tabRCut : Tab := []
theorem treeRCut (l : Bool) (es : List En) (bs : List Br) (k : Int) : run P tab0.sum Try.f103 [] (start Try.f103 [avN l es bs, .s (.int .i64 k)] []) =
  Tree.ite l (Tree.need ((0 : Int) ≤ (0 : Int)) (Tree.need ((0 : Int) ≤ k) (Tree.need (k ≤ (↑es.length : Int)) (Tree.need ((List.drop (Int.toNat (0 : Int)) (List.take k.toNat es)).length ≤ (4294967296 : Nat)) (Tree.need ((0 : Int) ≤ k) (Tree.need (k ≤ (↑es.length : Int)) (Tree.need ((↑es.length : Int) ≤ (↑es.length : Int)) (Tree.need ((List.drop k.toNat (List.take (↑es.length : Int).toNat es)).length ≤ (4294967296 : Nat)) (Tree.ret [AObj.own [AV.s (SV.bool l), AV.s (SV.ro (Con.typ [CK.str, CK.str] es)), AV.s (SV.ro (Con.typ [CK.str, CK.int IntKind.i64] bs))] (25 : Nat), AObj.own [AV.s (SV.bool l), AV.vec (5 : Nat), AV.emp] (25 : Nat), AObj.own [AV.s (SV.bool l), AV.vec (6 : Nat), AV.emp] (25 : Nat), AObj.own [AV.s (SV.bool l), AV.vec (5 : Nat), AV.emp] (25 : Nat), AObj.own [AV.s (SV.bool l), AV.vec (6 : Nat), AV.emp] (25 : Nat), AObj.vec (Con.typ [CK.str, CK.str] (List.drop (Int.toNat (0 : Int)) (List.take k.toNat es))) (134 : Nat), AObj.vec (Con.typ [CK.str, CK.str] (List.drop k.toNat (List.take (↑es.length : Int).toNat es))) (134 : Nat)] (AV.tup [AV.agg [AV.s (SV.bool l), AV.vec (5 : Nat), AV.emp], AV.agg [AV.s (SV.bool l), AV.vec (6 : Nat), AV.emp]])))))))))) (Tree.need ((0 : Int) ≤ (0 : Int)) (Tree.need ((0 : Int) ≤ k) (Tree.need (k ≤ (↑bs.length : Int)) (Tree.need ((List.drop (Int.toNat (0 : Int)) (List.take k.toNat bs)).length ≤ (4294967296 : Nat)) (Tree.need ((0 : Int) ≤ k) (Tree.need (k ≤ (↑bs.length : Int)) (Tree.need ((↑bs.length : Int) ≤ (↑bs.length : Int)) (Tree.need ((List.drop k.toNat (List.take (↑bs.length : Int).toNat bs)).length ≤ (4294967296 : Nat)) (Tree.ret [AObj.own [AV.s (SV.bool l), AV.s (SV.ro (Con.typ [CK.str, CK.str] es)), AV.s (SV.ro (Con.typ [CK.str, CK.int IntKind.i64] bs))] (25 : Nat), AObj.own [AV.s (SV.bool l), AV.emp, AV.vec (5 : Nat)] (25 : Nat), AObj.own [AV.s (SV.bool l), AV.emp, AV.vec (6 : Nat)] (25 : Nat), AObj.own [AV.s (SV.bool l), AV.emp, AV.vec (5 : Nat)] (25 : Nat), AObj.own [AV.s (SV.bool l), AV.emp, AV.vec (6 : Nat)] (25 : Nat), AObj.vec (Con.typ [CK.str, CK.int IntKind.i64] (List.drop (Int.toNat (0 : Int)) (List.take k.toNat bs))) (135 : Nat), AObj.vec (Con.typ [CK.str, CK.int IntKind.i64] (List.drop k.toNat (List.take (↑bs.length : Int).toNat bs))) (135 : Nat)] (AV.tup [AV.agg [AV.s (SV.bool l), AV.emp, AV.vec (5 : Nat)], AV.agg [AV.s (SV.bool l), AV.emp, AV.vec (6 : Nat)]])))))))))) := by kernel_rfl
abbrev sRCut := sumOf [tRN, tInt] [tRN, tRN] (fun ((l, es, bs, ()), k, ()) => [(es : List En).length ≤ 100000, (bs : List Br).length ≤ 100000, 0 ≤ (k : Int), ((l : Bool) = true → k ≤ (es.length : Int)), (l = false → k ≤ (bs.length : Int))])
  (fun ((l, es, bs, ()), k, ()) => ((l, cutE l (List.take (Int.toNat k) es), cutB l (List.take (Int.toNat k) bs), ()), (l, cutE l (List.drop (Int.toNat k) es), cutB l (List.drop (Int.toNat k) bs), ()), ()))
def tabRSpl : Tab := [(40, sRMay), (41, sRSize), (103, sRCut)]
def nsRSpl : List (Nat × Norm) := [(6, ⟨[], [1, 2, 3, 5, 6, 7, 8], 0, []⟩)]
theorem treeRSpl (l : Bool) (es : List En) (bs : List Br) : run P tabRSpl.sum Try.f46 nsRSpl (start Try.f46 [avN l es bs] []) =
  Tree.need (inI64 ((↑es.length : Int) + (↑bs.length : Int))) (Tree.ite (!mayN l es bs) (Tree.ret [AObj.own [AV.s (SV.bool l), AV.s (SV.ro (Con.typ [CK.str, CK.str] es)), AV.s (SV.ro (Con.typ [CK.str, CK.int IntKind.i64] bs))] (25 : Nat), AObj.own [AV.s (SV.blit false), AV.emp, AV.emp] (25 : Nat), AObj.own [AV.s (SV.blit false), AV.emp, AV.emp] (25 : Nat)] (AV.tup [AV.agg [AV.s (SV.blit false), AV.emp, AV.emp], AV.agg [AV.s (SV.blit false), AV.emp, AV.emp], AV.s (SV.ilit IntKind.i64 (4 : Int))])) (Tree.ite (decide ((↑es.length : Int) + (↑bs.length : Int) < (2 : Int))) (Tree.ret [AObj.own [AV.s (SV.bool l), AV.s (SV.ro (Con.typ [CK.str, CK.str] es)), AV.s (SV.ro (Con.typ [CK.str, CK.int IntKind.i64] bs))] (25 : Nat), AObj.own [AV.s (SV.blit false), AV.emp, AV.emp] (25 : Nat), AObj.own [AV.s (SV.blit false), AV.emp, AV.emp] (25 : Nat)] (AV.tup [AV.agg [AV.s (SV.blit false), AV.emp, AV.emp], AV.agg [AV.s (SV.blit false), AV.emp, AV.emp], AV.s (SV.ilit IntKind.i64 (4 : Int))])) (Tree.at (Cfg.mk (sl (63 : Nat) [((1 : Nat), AV.ptr (0 : Nat) (0 : Nat)), ((2 : Nat), AV.ptr (1 : Nat) (0 : Nat)), ((3 : Nat), AV.ptr (2 : Nat) (0 : Nat)), ((5 : Nat), AV.s (SV.int IntKind.i64 ((↑es.length : Int) + (↑bs.length : Int)))), ((6 : Nat), AV.s (SV.int IntKind.i64 (0 : Int))), ((7 : Nat), AV.s (SV.int IntKind.i64 (0 : Int))), ((8 : Nat), AV.s (SV.int IntKind.i64 (1 : Int)))]) [AObj.own [AV.s (SV.bool l), AV.s (SV.ro (Con.typ [CK.str, CK.str] es)), AV.s (SV.ro (Con.typ [CK.str, CK.int IntKind.i64] bs))] (25 : Nat), AObj.own [AV.s (SV.bool false), AV.emp, AV.emp] (25 : Nat), AObj.own [AV.s (SV.bool false), AV.emp, AV.emp] (25 : Nat)] (hd Try.f46 (6 : Nat)) (Stk.mk none false (0 : Nat) [] (0 : Nat)))))) := by kernel_rfl
noncomputable def cSpl (l : Bool) (es : List En) (bs : List Br) (zs : List Int) (n : Nat) (first rest best least i : Int) : Cfg := ⟨sl 87 [(1, .ptr 0 0), (2, .ptr 1 0), (3, .ptr 2 0), (6, .s (.int .i64 first)), (7, .s (.int .i64 rest)), (8, .s (.int .i64 best)), (9, .s (.int .i64 least)), (34, .part 3 0 n), (35, .s (.int .i64 (n : Int))), (36, .s (.int .i64 i))],
  [obN l es bs 31, obZ, obZ, .vec (.ints .i64 zs) 3], hd Try.f39 7, {}⟩
theorem loopSpl (l : Bool) (es : List En) (bs : List Br) (zs : List Int) (n : Nat) (first rest best least i : Int) : run P tabSpl.sum Try.f39 nsSpl (cSpl l es bs zs n first rest best least i) =
  Tree.ite (decide (i < (↑n : Int))) (Tree.need ((0 : Int) ≤ i) (Tree.need (i < (↑n : Int)) (Tree.need (inI64 (first + zs.getD ((0 : Nat) + i.toNat) (0 : Int))) (Tree.need (inI64 (rest - zs.getD ((0 : Nat) + i.toNat) (0 : Int))) (Tree.ite (best == (0 : Int)) (Tree.need (inI64 (i + (1 : Int))) (Tree.need (inI64 (i + (1 : Int))) (Tree.at (Cfg.mk (sl (87 : Nat) [((1 : Nat), AV.ptr (0 : Nat) (0 : Nat)), ((2 : Nat), AV.ptr (1 : Nat) (0 : Nat)), ((3 : Nat), AV.ptr (2 : Nat) (0 : Nat)), ((6 : Nat), AV.s (SV.int IntKind.i64 (first + zs.getD ((0 : Nat) + i.toNat) (0 : Int)))), ((7 : Nat), AV.s (SV.int IntKind.i64 (rest - zs.getD ((0 : Nat) + i.toNat) (0 : Int)))), ((8 : Nat), AV.s (SV.int IntKind.i64 (i + (1 : Int)))), ((9 : Nat), AV.s (SV.int IntKind.i64 (imax (first + zs.getD ((0 : Nat) + i.toNat) (0 : Int)) (rest - zs.getD ((0 : Nat) + i.toNat) (0 : Int))))), ((34 : Nat), AV.part (3 : Nat) (0 : Nat) n), ((35 : Nat), AV.s (SV.int IntKind.i64 (↑n : Int))), ((36 : Nat), AV.s (SV.int IntKind.i64 (i + (1 : Int))))]) [AObj.own [AV.s (SV.bool l), AV.s (SV.ro (Con.typ [CK.str, CK.str] es)), AV.s (SV.ro (Con.typ [CK.str, CK.int IntKind.i64] bs))] (31 : Nat), AObj.own [AV.s (SV.bool false), AV.emp, AV.emp] (31 : Nat), AObj.own [AV.s (SV.bool false), AV.emp, AV.emp] (31 : Nat), AObj.vec (Con.ints IntKind.i64 zs) (3 : Nat)] (hd Try.f39 (7 : Nat)) (Stk.mk none false (0 : Nat) [] (0 : Nat)))))) (Tree.ite (decide (imax (first + zs.getD ((0 : Nat) + i.toNat) (0 : Int)) (rest - zs.getD ((0 : Nat) + i.toNat) (0 : Int)) < least)) (Tree.need (inI64 (i + (1 : Int))) (Tree.need (inI64 (i + (1 : Int))) (Tree.at (Cfg.mk (sl (87 : Nat) [((1 : Nat), AV.ptr (0 : Nat) (0 : Nat)), ((2 : Nat), AV.ptr (1 : Nat) (0 : Nat)), ((3 : Nat), AV.ptr (2 : Nat) (0 : Nat)), ((6 : Nat), AV.s (SV.int IntKind.i64 (first + zs.getD ((0 : Nat) + i.toNat) (0 : Int)))), ((7 : Nat), AV.s (SV.int IntKind.i64 (rest - zs.getD ((0 : Nat) + i.toNat) (0 : Int)))), ((8 : Nat), AV.s (SV.int IntKind.i64 (i + (1 : Int)))), ((9 : Nat), AV.s (SV.int IntKind.i64 (imax (first + zs.getD ((0 : Nat) + i.toNat) (0 : Int)) (rest - zs.getD ((0 : Nat) + i.toNat) (0 : Int))))), ((34 : Nat), AV.part (3 : Nat) (0 : Nat) n), ((35 : Nat), AV.s (SV.int IntKind.i64 (↑n : Int))), ((36 : Nat), AV.s (SV.int IntKind.i64 (i + (1 : Int))))]) [AObj.own [AV.s (SV.bool l), AV.s (SV.ro (Con.typ [CK.str, CK.str] es)), AV.s (SV.ro (Con.typ [CK.str, CK.int IntKind.i64] bs))] (31 : Nat), AObj.own [AV.s (SV.bool false), AV.emp, AV.emp] (31 : Nat), AObj.own [AV.s (SV.bool false), AV.emp, AV.emp] (31 : Nat), AObj.vec (Con.ints IntKind.i64 zs) (3 : Nat)] (hd Try.f39 (7 : Nat)) (Stk.mk none false (0 : Nat) [] (0 : Nat)))))) (Tree.need (inI64 (i + (1 : Int))) (Tree.at (Cfg.mk (sl (87 : Nat) [((1 : Nat), AV.ptr (0 : Nat) (0 : Nat)), ((2 : Nat), AV.ptr (1 : Nat) (0 : Nat)), ((3 : Nat), AV.ptr (2 : Nat) (0 : Nat)), ((6 : Nat), AV.s (SV.int IntKind.i64 (first + zs.getD ((0 : Nat) + i.toNat) (0 : Int)))), ((7 : Nat), AV.s (SV.int IntKind.i64 (rest - zs.getD ((0 : Nat) + i.toNat) (0 : Int)))), ((8 : Nat), AV.s (SV.int IntKind.i64 best)), ((9 : Nat), AV.s (SV.int IntKind.i64 least)), ((34 : Nat), AV.part (3 : Nat) (0 : Nat) n), ((35 : Nat), AV.s (SV.int IntKind.i64 (↑n : Int))), ((36 : Nat), AV.s (SV.int IntKind.i64 (i + (1 : Int))))]) [AObj.own [AV.s (SV.bool l), AV.s (SV.ro (Con.typ [CK.str, CK.str] es)), AV.s (SV.ro (Con.typ [CK.str, CK.int IntKind.i64] bs))] (31 : Nat), AObj.own [AV.s (SV.bool false), AV.emp, AV.emp] (31 : Nat), AObj.own [AV.s (SV.bool false), AV.emp, AV.emp] (31 : Nat), AObj.vec (Con.ints IntKind.i64 zs) (3 : Nat)] (hd Try.f39 (7 : Nat)) (Stk.mk none false (0 : Nat) [] (0 : Nat)))))))))))
  (Tree.need (es.length ≤ (100000 : Nat)) (Tree.need ((0 : tInt.V) ≤ best) (Tree.need (es = [] ∨ best ≤ (↑es.length : Int)) (Tree.need (bs.length ≤ (100000 : Nat)) (Tree.need ((0 : tInt.V) ≤ best) (Tree.need (bs = [] ∨ best ≤ (↑bs.length : Int)) (Tree.ret [AObj.own [AV.s (SV.bool l), AV.s (SV.ro (Con.typ [CK.str, CK.str] es)), AV.s (SV.ro (Con.typ [CK.str, CK.int IntKind.i64] bs))] (31 : Nat), AObj.own [AV.s (SV.bool l), AV.vec (6 : Nat), AV.vec (8 : Nat)] (31 : Nat), AObj.own [AV.s (SV.bool l), AV.vec (7 : Nat), AV.vec (9 : Nat)] (31 : Nat), AObj.vec (Con.ints IntKind.i64 zs) (3 : Nat), AObj.own [AV.s (SV.bool l), AV.vec (6 : Nat), AV.vec (8 : Nat)] (31 : Nat), AObj.own [AV.s (SV.bool l), AV.vec (7 : Nat), AV.vec (9 : Nat)] (31 : Nat), AObj.vec (Con.typ [CK.str, CK.str] (List.take best.toNat es)) (59 : Nat), AObj.vec (Con.typ [CK.str, CK.str] (List.drop best.toNat es)) (59 : Nat), AObj.vec (Con.typ [CK.str, CK.int IntKind.i64] (List.take best.toNat bs)) (36 : Nat), AObj.vec (Con.typ [CK.str, CK.int IntKind.i64] (List.drop best.toNat bs)) (36 : Nat)] (AV.tup [AV.agg [AV.s (SV.bool l), AV.vec (6 : Nat), AV.vec (8 : Nat)], AV.agg [AV.s (SV.bool l), AV.vec (7 : Nat), AV.vec (9 : Nat)], AV.s (SV.ilit IntKind.i64 (0 : Int))])))))))) := by kernel_rfl
noncomputable def cRSpl (l : Bool) (es : List En) (bs : List Br) (m best least i : Int) : Cfg := ⟨sl 63 [(1, .ptr 0 0), (2, .ptr 1 0), (3, .ptr 2 0), (5, .s (.int .i64 m)), (6, .s (.int .i64 best)), (7, .s (.int .i64 least)), (8, .s (.int .i64 i))],
  [obN l es bs eRN, obRZ, obRZ], hd Try.f46 6, {}⟩
theorem loopRSpl (l : Bool) (es : List En) (bs : List Br) (m best least i : Int) : run P tabRSpl.sum Try.f46 nsRSpl (cRSpl l es bs m best least i) =
  Tree.ite (decide (i < m)) (Tree.need (es.length ≤ (100000 : Nat)) (Tree.need (bs.length ≤ (100000 : Nat)) (Tree.need ((0 : tInt.V) ≤ i) (Tree.need (l = true → i ≤ (↑es.length : Int)) (Tree.need (l = false → i ≤ (↑bs.length : Int)) (Tree.need (smallE (cutE l (List.take i.toNat es))) (Tree.need (smallB (cutB l (List.take i.toNat bs))) (Tree.need (smallE (cutE l (List.drop i.toNat es))) (Tree.need (smallB (cutB l (List.drop i.toNat bs))) (Tree.ite (best == (0 : Int)) (Tree.need (inI64 (i + (1 : Int))) (Tree.at (Cfg.mk (sl (63 : Nat) [((1 : Nat), AV.ptr (0 : Nat) (0 : Nat)), ((2 : Nat), AV.ptr (1 : Nat) (0 : Nat)), ((3 : Nat), AV.ptr (2 : Nat) (0 : Nat)), ((5 : Nat), AV.s (SV.int IntKind.i64 m)), ((6 : Nat), AV.s (SV.int IntKind.i64 i)), ((7 : Nat), AV.s (SV.int IntKind.i64 (imax (sizeN (cutE l (List.take i.toNat es)) (cutB l (List.take i.toNat bs))) (sizeN (cutE l (List.drop i.toNat es)) (cutB l (List.drop i.toNat bs)))))), ((8 : Nat), AV.s (SV.int IntKind.i64 (i + (1 : Int))))]) [AObj.own [AV.s (SV.bool l), AV.s (SV.ro (Con.typ [CK.str, CK.str] es)), AV.s (SV.ro (Con.typ [CK.str, CK.int IntKind.i64] bs))] (25 : Nat), AObj.own [AV.s (SV.bool false), AV.emp, AV.emp] (25 : Nat), AObj.own [AV.s (SV.bool false), AV.emp, AV.emp] (25 : Nat)] (hd Try.f46 (6 : Nat)) (Stk.mk none false (0 : Nat) [] (0 : Nat))))) (Tree.ite (decide (imax (sizeN (cutE l (List.take i.toNat es)) (cutB l (List.take i.toNat bs))) (sizeN (cutE l (List.drop i.toNat es)) (cutB l (List.drop i.toNat bs))) < least)) (Tree.need (inI64 (i + (1 : Int))) (Tree.at (Cfg.mk (sl (63 : Nat) [((1 : Nat), AV.ptr (0 : Nat) (0 : Nat)), ((2 : Nat), AV.ptr (1 : Nat) (0 : Nat)), ((3 : Nat), AV.ptr (2 : Nat) (0 : Nat)), ((5 : Nat), AV.s (SV.int IntKind.i64 m)), ((6 : Nat), AV.s (SV.int IntKind.i64 i)), ((7 : Nat), AV.s (SV.int IntKind.i64 (imax (sizeN (cutE l (List.take i.toNat es)) (cutB l (List.take i.toNat bs))) (sizeN (cutE l (List.drop i.toNat es)) (cutB l (List.drop i.toNat bs)))))), ((8 : Nat), AV.s (SV.int IntKind.i64 (i + (1 : Int))))]) [AObj.own [AV.s (SV.bool l), AV.s (SV.ro (Con.typ [CK.str, CK.str] es)), AV.s (SV.ro (Con.typ [CK.str, CK.int IntKind.i64] bs))] (25 : Nat), AObj.own [AV.s (SV.bool false), AV.emp, AV.emp] (25 : Nat), AObj.own [AV.s (SV.bool false), AV.emp, AV.emp] (25 : Nat)] (hd Try.f46 (6 : Nat)) (Stk.mk none false (0 : Nat) [] (0 : Nat))))) (Tree.need (inI64 (i + (1 : Int))) (Tree.at (Cfg.mk (sl (63 : Nat) [((1 : Nat), AV.ptr (0 : Nat) (0 : Nat)), ((2 : Nat), AV.ptr (1 : Nat) (0 : Nat)), ((3 : Nat), AV.ptr (2 : Nat) (0 : Nat)), ((5 : Nat), AV.s (SV.int IntKind.i64 m)), ((6 : Nat), AV.s (SV.int IntKind.i64 best)), ((7 : Nat), AV.s (SV.int IntKind.i64 least)), ((8 : Nat), AV.s (SV.int IntKind.i64 (i + (1 : Int))))]) [AObj.own [AV.s (SV.bool l), AV.s (SV.ro (Con.typ [CK.str, CK.str] es)), AV.s (SV.ro (Con.typ [CK.str, CK.int IntKind.i64] bs))] (25 : Nat), AObj.own [AV.s (SV.bool false), AV.emp, AV.emp] (25 : Nat), AObj.own [AV.s (SV.bool false), AV.emp, AV.emp] (25 : Nat)] (hd Try.f46 (6 : Nat)) (Stk.mk none false (0 : Nat) [] (0 : Nat))))))))))))))))
  (Tree.need (es.length ≤ (100000 : Nat)) (Tree.need (bs.length ≤ (100000 : Nat)) (Tree.need ((0 : tInt.V) ≤ best) (Tree.need (l = true → best ≤ (↑es.length : Int)) (Tree.need (l = false → best ≤ (↑bs.length : Int)) (Tree.ret [AObj.own [AV.s (SV.bool l), AV.s (SV.ro (Con.typ [CK.str, CK.str] es)), AV.s (SV.ro (Con.typ [CK.str, CK.int IntKind.i64] bs))] (25 : Nat), AObj.own [AV.s (SV.bool l), AV.vec (3 : Nat), AV.vec (4 : Nat)] (25 : Nat), AObj.own [AV.s (SV.bool l), AV.vec (5 : Nat), AV.vec (6 : Nat)] (25 : Nat), AObj.vec (Con.typ [CK.str, CK.str] (cutE l (List.take best.toNat ((fun (h : PLift ([CK.str, CK.str] = cE)) => castL h es) (PLift.up (Eq.mpr (id (congrArg (fun (_a : CK) => [_a, CK.str] = [CK.str, CK.str]) (PLift.up rfl).down)) (Eq.mpr (id (congrArg (fun (_a : List CK) => CK.str :: _a = [CK.str, CK.str]) (PLift.up (Eq.mpr (id (congrArg (fun (_a : CK) => [_a] = [CK.str]) (PLift.up rfl).down)) (Eq.mpr (id (congrArg (fun (_a : List CK) => CK.str :: _a = [CK.str]) (PLift.up rfl).down)) (Eq.refl [CK.str])))).down)) (Eq.refl [CK.str, CK.str])))))))) (134 : Nat), AObj.vec (Con.typ [CK.str, CK.int IntKind.i64] (cutB l (List.take best.toNat ((fun (h : PLift ([CK.str, CK.int IntKind.i64] = cB)) => castL h bs) (PLift.up (Eq.mpr (id (congrArg (fun (_a : CK) => [_a, CK.int IntKind.i64] = [CK.str, CK.int IntKind.i64]) (PLift.up rfl).down)) (Eq.mpr (id (congrArg (fun (_a : List CK) => CK.str :: _a = [CK.str, CK.int IntKind.i64]) (PLift.up (Eq.mpr (id (congrArg (fun (_a : CK) => [_a] = [CK.int IntKind.i64]) ((fun (h : PLift (IntKind.i64 = IntKind.i64)) => PLift.up (congrArg CK.int h.down)) (PLift.up (instDecidableEqIntKind._proof_1 IntKind.i64 IntKind.i64 (Nat.eq_of_beq_eq_true (Eq.refl (IntKind.i64.ctorIdx.beq IntKind.i64.ctorIdx)))))).down)) (Eq.mpr (id (congrArg (fun (_a : List CK) => CK.int IntKind.i64 :: _a = [CK.int IntKind.i64]) (PLift.up rfl).down)) (Eq.refl [CK.int IntKind.i64])))).down)) (Eq.refl [CK.str, CK.int IntKind.i64])))))))) (135 : Nat), AObj.vec (Con.typ [CK.str, CK.str] (cutE l (List.drop best.toNat ((fun (h : PLift ([CK.str, CK.str] = cE)) => castL h es) (PLift.up (Eq.mpr (id (congrArg (fun (_a : CK) => [_a, CK.str] = [CK.str, CK.str]) (PLift.up rfl).down)) (Eq.mpr (id (congrArg (fun (_a : List CK) => CK.str :: _a = [CK.str, CK.str]) (PLift.up (Eq.mpr (id (congrArg (fun (_a : CK) => [_a] = [CK.str]) (PLift.up rfl).down)) (Eq.mpr (id (congrArg (fun (_a : List CK) => CK.str :: _a = [CK.str]) (PLift.up rfl).down)) (Eq.refl [CK.str])))).down)) (Eq.refl [CK.str, CK.str])))))))) (134 : Nat), AObj.vec (Con.typ [CK.str, CK.int IntKind.i64] (cutB l (List.drop best.toNat ((fun (h : PLift ([CK.str, CK.int IntKind.i64] = cB)) => castL h bs) (PLift.up (Eq.mpr (id (congrArg (fun (_a : CK) => [_a, CK.int IntKind.i64] = [CK.str, CK.int IntKind.i64]) (PLift.up rfl).down)) (Eq.mpr (id (congrArg (fun (_a : List CK) => CK.str :: _a = [CK.str, CK.int IntKind.i64]) (PLift.up (Eq.mpr (id (congrArg (fun (_a : CK) => [_a] = [CK.int IntKind.i64]) ((fun (h : PLift (IntKind.i64 = IntKind.i64)) => PLift.up (congrArg CK.int h.down)) (PLift.up (instDecidableEqIntKind._proof_1 IntKind.i64 IntKind.i64 (Nat.eq_of_beq_eq_true (Eq.refl (IntKind.i64.ctorIdx.beq IntKind.i64.ctorIdx)))))).down)) (Eq.mpr (id (congrArg (fun (_a : List CK) => CK.int IntKind.i64 :: _a = [CK.int IntKind.i64]) (PLift.up rfl).down)) (Eq.refl [CK.int IntKind.i64])))).down)) (Eq.refl [CK.str, CK.int IntKind.i64])))))))) (135 : Nat), AObj.own [AV.s (SV.bool l), AV.vec (3 : Nat), AV.vec (4 : Nat)] (25 : Nat), AObj.own [AV.s (SV.bool l), AV.vec (5 : Nat), AV.vec (6 : Nat)] (25 : Nat)] (AV.tup [AV.agg [AV.s (SV.bool l), AV.vec (3 : Nat), AV.vec (4 : Nat)], AV.agg [AV.s (SV.bool l), AV.vec (5 : Nat), AV.vec (6 : Nat)], AV.s (SV.ilit IntKind.i64 (0 : Int))]))))))) := by kernel_rfl
theorem clE_ok {Z : Glob} : FnOk P Z 105 [tEs] [tEs] (fun (l, ()) => [(l : List En).length ≤ 100000]) (fun (l, ()) => (l, ())) := by
  refine fnOk_of_safe Try.func105 (by kernel_rfl) (by kernel_rfl) ?_
  rintro ⟨(l : List En), ⟨⟩⟩ _ ⟨(hl : l.length ≤ 100000), _⟩ X hX hz
  refine go hz hX Tab.Ok.nil Try.func105 (treeClE l) ⟨fun h => ?_, fun _ => ⟨by omega, ?_⟩⟩
  · obtain rfl := List.eq_nil_of_length_eq_zero h
    exact ends_eq ([], ()) rfl (by kernel_rfl)
  · exact ends_eq (l, ()) rfl (by kernel_rfl)
theorem clB_ok {Z : Glob} : FnOk P Z 124 [tBs] [tBs] (fun (l, ()) => [(l : List Br).length ≤ 100000]) (fun (l, ()) => (l, ())) := by
  refine fnOk_of_safe Try.func124 (by kernel_rfl) (by kernel_rfl) ?_
  rintro ⟨(l : List Br), ⟨⟩⟩ _ ⟨(hl : l.length ≤ 100000), _⟩ X hX hz
  refine go hz hX Tab.Ok.nil Try.func124 (treeClB l) ⟨fun h => ?_, fun _ => ⟨by omega, ?_⟩⟩
  · obtain rfl := List.eq_nil_of_length_eq_zero h
    exact ends_eq ([], ()) rfl (by kernel_rfl)
  · exact ends_eq (l, ()) rfl (by kernel_rfl)
theorem tabCut_ok {Z : Glob} : tabCut.Ok P Z := Tab.Ok.cons clE_ok.sum (Tab.Ok.cons clB_ok.sum Tab.Ok.nil)
theorem cutE_ok {Z : Glob} : FnOk P Z 101 [tEs, tInt] [tEs, tEs] (fun (l, k, ()) => [(l : List En).length ≤ 100000, 0 ≤ (k : Int), (l = [] ∨ k ≤ (l.length : Int))]) (fun (l, k, ()) => (List.take (Int.toNat k) l, List.drop (Int.toNat k) l, ())) := by
  refine fnOk_of_safe Try.func101 (by kernel_rfl) (by kernel_rfl) ?_
  rintro ⟨(l : List En), (k : Int), ⟨⟩⟩ _ ⟨(hl : l.length ≤ 100000), (h0 : 0 ≤ k), (hk : l = [] ∨ k ≤ (l.length : Int)), _⟩ X hX hz
  show Safe P 101 X (Ends [tEs, tEs] (l.take k.toNat, l.drop k.toNat, ())) _
  refine go hz hX tabCut_ok Try.func101 (treeCutE l k) ⟨fun h => ?_, fun h => ?_⟩
  · obtain rfl : l = [] := List.eq_nil_of_length_eq_zero (by have : (l.length : Int) = 0 := by simpa using h
                                                             omega)
    refine ends_eq (rs := [tEs, tEs]) ([], [], ()) ?_ (by kernel_rfl)
    show (List.take k.toNat ([] : List En), List.drop k.toNat ([] : List En), ()) = ([], [], ())
    rw [List.take_nil, List.drop_nil]
  · have hk : k ≤ (l.length : Int) := hk.elim (fun e => by subst e; simp at h) id
    have e1 : List.drop (Int.toNat 0) (List.take k.toNat l) = l.take k.toNat := rfl
    have e2 : List.drop k.toNat (List.take ((l.length : Int)).toNat l) = l.drop k.toNat := by rw [List.take_of_length_le (by omega)]
    refine ⟨by omega, h0, hk, ?_, h0, hk, by omega, ?_, ?_⟩
    · rw [e1, List.length_take]; omega
    · rw [e2, List.length_drop]; omega
    · exact ends_eq (List.drop (Int.toNat 0) (List.take k.toNat l), List.drop k.toNat (List.take ((l.length : Int)).toNat l), ()) (by rw [e2]; rfl) (by kernel_rfl)
theorem cutB_ok {Z : Glob} : FnOk P Z 102 [tBs, tInt] [tBs, tBs] (fun (l, k, ()) => [(l : List Br).length ≤ 100000, 0 ≤ (k : Int), (l = [] ∨ k ≤ (l.length : Int))]) (fun (l, k, ()) => (List.take (Int.toNat k) l, List.drop (Int.toNat k) l, ())) := by
  refine fnOk_of_safe Try.func102 (by kernel_rfl) (by kernel_rfl) ?_
  rintro ⟨(l : List Br), (k : Int), ⟨⟩⟩ _ ⟨(hl : l.length ≤ 100000), (h0 : 0 ≤ k), (hk : l = [] ∨ k ≤ (l.length : Int)), _⟩ X hX hz
  show Safe P 102 X (Ends [tBs, tBs] (l.take k.toNat, l.drop k.toNat, ())) _
  refine go hz hX tabCut_ok Try.func102 (treeCutB l k) ⟨fun h => ?_, fun h => ?_⟩
  · obtain rfl : l = [] := List.eq_nil_of_length_eq_zero (by have : (l.length : Int) = 0 := by simpa using h
                                                             omega)
    refine ends_eq (rs := [tBs, tBs]) ([], [], ()) ?_ (by kernel_rfl)
    show (List.take k.toNat ([] : List Br), List.drop k.toNat ([] : List Br), ()) = ([], [], ())
    rw [List.take_nil, List.drop_nil]
  · have hk : k ≤ (l.length : Int) := hk.elim (fun e => by subst e; simp at h) id
    have e1 : List.drop (Int.toNat 0) (List.take k.toNat l) = l.take k.toNat := rfl
    have e2 : List.drop k.toNat (List.take ((l.length : Int)).toNat l) = l.drop k.toNat := by rw [List.take_of_length_le (by omega)]
    refine ⟨by omega, h0, hk, ?_, h0, hk, by omega, ?_, ?_⟩
    · rw [e1, List.length_take]; omega
    · rw [e2, List.length_drop]; omega
    · exact ends_eq (List.drop (Int.toNat 0) (List.take k.toNat l), List.drop k.toNat (List.take ((l.length : Int)).toNat l), ()) (by rw [e2]; rfl) (by kernel_rfl)

/-! ### where a node is parted -/
def costS (zs : List Int) (k : Nat) : Int := imax (zs.take k).sum (zs.sum - (zs.take k).sum)
def splB (zs : List Int) : Nat → Nat × Int
  | 0 => (0, 0)
  | k + 1 => if (splB zs k).1 = 0 ∨ costS zs (k + 1) < (splB zs k).2 then (k + 1, costS zs (k + 1)) else splB zs k
theorem splB_le (zs : List Int) : ∀ k, (splB zs k).1 ≤ k
  | 0 => Nat.le_refl _
  | k + 1 => by
    have := splB_le zs k
    rw [splB]
    split
    · exact Nat.le_refl _
    · omega
theorem splB_pos (zs : List Int) : ∀ k, 0 < k → 0 < (splB zs k).1
  | 0, h => absurd h (by omega)
  | k + 1, _ => by
    rw [splB]
    split
    · exact Nat.succ_pos _
    · rename_i h
      exact Nat.pos_of_ne_zero (fun e => h (.inl e))
def bestS (es : List En) (bs : List Br) : Nat := (splB (sizesF es bs) (es.length + bs.length - 1)).1
def splOk (l : Bool) (es : List En) (bs : List Br) : Bool := mayN l es bs && decide (2 ≤ es.length + bs.length)
def spL (l : Bool) (es : List En) (bs : List Br) : Bool := splOk l es bs && l
def spE1 (l : Bool) (es : List En) (bs : List Br) : List En := if splOk l es bs = true then es.take (bestS es bs) else []
def spE2 (l : Bool) (es : List En) (bs : List Br) : List En := if splOk l es bs = true then es.drop (bestS es bs) else []
def spB1 (l : Bool) (es : List En) (bs : List Br) : List Br := if splOk l es bs = true then bs.take (bestS es bs) else []
def spB2 (l : Bool) (es : List En) (bs : List Br) : List Br := if splOk l es bs = true then bs.drop (bestS es bs) else []
def spC (l : Bool) (es : List En) (bs : List Br) : Int := if splOk l es bs = true then 0 else 4
abbrev spY (l : Bool) (es : List En) (bs : List Br) : AL [tNode, tNode, tInt] := ((spL l es bs, spE1 l es bs, spB1 l es bs, ()), (spL l es bs, spE2 l es bs, spB2 l es bs, ()), spC l es bs, ())
theorem spY_no {l : Bool} {es : List En} {bs : List Br} (h : splOk l es bs = false) : spY l es bs = ((false, [], [], ()), (false, [], [], ()), 4, ()) := by
  simp [spY, spL, spE1, spE2, spB1, spB2, spC, h]
  rfl
theorem spY_yes {l : Bool} {es : List En} {bs : List Br} (h : splOk l es bs = true) : spY l es bs = ((l, es.take (bestS es bs), bs.take (bestS es bs), ()), (l, es.drop (bestS es bs), bs.drop (bestS es bs), ()), 0, ()) := by
  simp [spY, spL, spE1, spE2, spB1, spB2, spC, h]
  rfl
theorem sizesF_len (es : List En) (bs : List Br) : (sizesF es bs).length = es.length + bs.length := by simp [sizesF]
theorem pre_range {zs : List Int} (h : ∀ x ∈ zs, 0 ≤ x ∧ x ≤ 2002) (hl : zs.length ≤ 2000) (k : Nat) : 0 ≤ (zs.take k).sum ∧ (zs.take k).sum ≤ 4004000 := by
  have := sum_range (l := zs.take k) (m := 2002) (fun x hx => h x (List.mem_of_mem_take hx)) (by omega)
  have h3 : (zs.take k).length ≤ 2000 := by rw [List.length_take]; omega
  omega

theorem split_ok {Z : Glob} : FnOk P Z 39 [tNode] [tNode, tNode, tInt] (fun ((_, es, bs, ()), ()) => [smallE es, smallB bs])
    (fun ((l, es, bs, ()), ()) => ((spL l es bs, spE1 l es bs, spB1 l es bs, ()), (spL l es bs, spE2 l es bs, spB2 l es bs, ()), spC l es bs, ())) := by
  refine fnOk_of_safe Try.func39 (by kernel_rfl) (by kernel_rfl) ?_
  rintro ⟨⟨(l : Bool), (es : List En), (bs : List Br), ⟨⟩⟩, ⟨⟩⟩ _ ⟨(he : smallE es), (hb : smallB bs), _⟩ X hX hz
  have hT : tabSpl.Ok P Z := Tab.Ok.cons sizes_ok.sum (Tab.Ok.cons may_ok.sum (Tab.Ok.cons size_ok.sum (Tab.Ok.cons cutE_ok.sum (Tab.Ok.cons cutB_ok.sum Tab.Ok.nil))))
  show Safe P 39 X (Ends [tNode, tNode, tInt] (spY l es bs)) _
  have hle := he.1
  have hlb := hb.1
  have hlen := sizesF_len es bs
  have hr := szs_range he hb
  have hpre := pre_range hr (by omega)
  have hsum := hpre (sizesF es bs).length
  rw [List.take_length] at hsum
  have hsz := sizeN_eq es bs
  have loop : splOk l es bs = true → ∀ (n k : Nat), k + n = es.length + bs.length - 1 → Safe P 39 X (Ends [tNode, tNode, tInt] (spY l es bs))
      (cSpl l es bs (sizesF es bs) (es.length + bs.length - 1) ((sizesF es bs).take k).sum ((sizesF es bs).sum - ((sizesF es bs).take k).sum) ((splB (sizesF es bs) k).1 : Int) (splB (sizesF es bs) k).2 (k : Int)) := by
    intro hok n
    have hok' := hok
    simp only [splOk, Bool.and_eq_true, decide_eq_true_eq] at hok'
    obtain ⟨hm, h2⟩ := hok'
    obtain ⟨m1, m2, m3, m4⟩ := mayN_iff hm
    induction n with
    | zero =>
      intro k hk
      have hle2 := splB_le (sizesF es bs) k
      have hE : es = [] ∨ ((splB (sizesF es bs) k).1 : Int) ≤ (es.length : Int) := by
        cases l
        · exact .inl (m2 rfl)
        · have := m1 rfl
          subst this
          simp only [List.length_nil] at hk
          exact .inr (by omega)
      have hB : bs = [] ∨ ((splB (sizesF es bs) k).1 : Int) ≤ (bs.length : Int) := by
        cases l
        · have := m2 rfl
          subst this
          simp only [List.length_nil] at hk
          exact .inr (by omega)
        · exact .inl (m1 rfl)
      refine go hz hX hT Try.func39 (loopSpl l es bs _ _ _ _ _ _ k) ⟨fun h => absurd (of_decide_eq_true h) (by omega), fun h => ⟨by omega, Int.natCast_nonneg _, hE, by omega, Int.natCast_nonneg _, hB, ?_⟩⟩
      have hbest : (splB (sizesF es bs) k).1 = bestS es bs := by rw [bestS, show k = es.length + bs.length - 1 from by omega]
      rw [hbest, spY_yes hok]
      exact ends_eq ((l, es.take (bestS es bs), bs.take (bestS es bs), ()), (l, es.drop (bestS es bs), bs.drop (bestS es bs), ()), 0, ()) rfl (by kernel_rfl)
    | succ n ih =>
      intro k hk
      have h1 := hpre k
      have h3 : 0 ≤ (sizesF es bs).getD k 0 ∧ (sizesF es bs).getD k 0 ≤ 2002 := by
        rw [getD_lt (by omega)]; exact hr _ (List.getElem_mem _)
      have hst := sum_take_snoc (l := sizesF es bs) (k := k) (by omega)
      have hc : imax (((sizesF es bs).take k).sum + (sizesF es bs).getD k 0) ((sizesF es bs).sum - ((sizesF es bs).take k).sum - (sizesF es bs).getD k 0) = costS (sizesF es bs) (k + 1) := by
        rw [costS, ← hst]; congr 1; omega
      have next := ih (k + 1) (by omega)
      rw [← hst, show (sizesF es bs).sum - (((sizesF es bs).take k).sum + (sizesF es bs).getD k 0) = (sizesF es bs).sum - ((sizesF es bs).take k).sum - (sizesF es bs).getD k 0 from by omega] at next
      refine go hz hX hT Try.func39 (loopSpl l es bs _ _ _ _ _ _ k) ?_
      simp only [Int.toNat_natCast, Nat.zero_add, hc]
      refine ⟨fun h => ⟨by omega, by omega, ⟨by omega, by omega⟩, ⟨by omega, by omega⟩, fun h0 => ?_, fun h0 => ⟨fun hlt => ?_, fun hlt => ?_⟩⟩, fun h => absurd (of_decide_eq_false h) (by omega)⟩
      · have h0 : (splB (sizesF es bs) k).1 = 0 := by have : ((splB (sizesF es bs) k).1 : Int) = 0 := by simpa using h0
                                                      omega
        rw [splB, if_pos (.inl h0)] at next
        exact ⟨⟨by omega, by omega⟩, ⟨by omega, by omega⟩, next⟩
      · rw [splB, if_pos (.inr (of_decide_eq_true hlt))] at next
        exact ⟨⟨by omega, by omega⟩, ⟨by omega, by omega⟩, next⟩
      · have h0 : ¬ ((splB (sizesF es bs) k).1 = 0 ∨ costS (sizesF es bs) (k + 1) < (splB (sizesF es bs) k).2) := by
          rintro (h | h)
          · simp [h] at h0
          · exact of_decide_eq_false hlt h
        rw [splB, if_neg h0] at next
        exact ⟨⟨by omega, by omega⟩, next⟩
  have bad : splOk l es bs = false → spY l es bs = ((false, [], [], ()), (false, [], [], ()), 4, ()) := spY_no
  refine go hz hX hT Try.func39 (treeSpl l es bs) ⟨he, hb, fun h => ends_eq ((false, [], [], ()), (false, [], [], ()), 4, ()) (bad ?_) (by kernel_rfl), fun h => ⟨fun h2 => ends_eq ((false, [], [], ()), (false, [], [], ()), 4, ()) (bad ?_) (by kernel_rfl), fun h2 => ?_⟩⟩
  · have h : mayN l es bs = false := by simpa using h
    simp [splOk, h]
  · have h2 := of_decide_eq_true h2
    simp only [splOk, Bool.and_eq_false_iff, decide_eq_false_iff_not]
    exact .inr (by omega)
  · have h : mayN l es bs = true := by simpa using h
    have h2 := of_decide_eq_false h2
    have hok : splOk l es bs = true := by simp only [splOk, h, Bool.true_and, decide_eq_true_eq]; omega
    refine ⟨he, hb, ⟨by omega, by omega⟩, ⟨by omega, by omega⟩, by omega, by omega, by omega, ?_⟩
    have := loop hok (es.length + bs.length - 1) 0 (by omega)
    have e1 : ((((sizesF es bs).length : Int) - 1).toNat - Int.toNat 0) = es.length + bs.length - 1 := by omega
    rw [e1, hsz]
    simp only [List.take_zero, List.sum_nil, Int.sub_zero, splB] at this
    rw [show 1 + (sizesF es bs).sum - 1 = (sizesF es bs).sum from by omega]
    exact this

theorem rcut_ok {Z : Glob} : FnOk P Z 103 [tRN, tInt] [tRN, tRN] (fun ((l, es, bs, ()), k, ()) => [(es : List En).length ≤ 100000, (bs : List Br).length ≤ 100000, 0 ≤ (k : Int), ((l : Bool) = true → k ≤ (es.length : Int)), (l = false → k ≤ (bs.length : Int))])
    (fun ((l, es, bs, ()), k, ()) => ((l, cutE l (List.take (Int.toNat k) es), cutB l (List.take (Int.toNat k) bs), ()), (l, cutE l (List.drop (Int.toNat k) es), cutB l (List.drop (Int.toNat k) bs), ()), ())) := by
  refine fnOk_of_safe Try.func103 (by kernel_rfl) (by kernel_rfl) ?_
  rintro ⟨⟨(l : Bool), (es : List En), (bs : List Br), ⟨⟩⟩, (k : Int), ⟨⟩⟩ _ ⟨(he : es.length ≤ 100000), (hb : bs.length ≤ 100000), (h0 : 0 ≤ k), (h1 : l = true → k ≤ (es.length : Int)), (h2 : l = false → k ≤ (bs.length : Int)), _⟩ X hX hz
  show Safe P 103 X (Ends [tRN, tRN] ((l, cutE l (es.take k.toNat), cutB l (bs.take k.toNat), ()), (l, cutE l (es.drop k.toNat), cutB l (bs.drop k.toNat), ()), ())) _
  have e2 : List.drop k.toNat (List.take ((es.length : Int)).toNat es) = es.drop k.toNat := by rw [List.take_of_length_le (by omega)]
  have e3 : List.drop k.toNat (List.take ((bs.length : Int)).toNat bs) = bs.drop k.toNat := by rw [List.take_of_length_le (by omega)]
  refine go hz hX Tab.Ok.nil Try.func103 (treeRCut l es bs k) ⟨fun hl => ?_, fun hl => ?_⟩
  · have hk := h1 hl
    refine ⟨by omega, h0, hk, ?_, h0, hk, by omega, ?_, ?_⟩
    · show (es.take k.toNat).length ≤ _; rw [List.length_take]; omega
    · rw [e2, List.length_drop]; omega
    · subst hl
      exact ends_eq ((true, List.drop (Int.toNat 0) (List.take k.toNat es), [], ()), (true, List.drop k.toNat (List.take ((es.length : Int)).toNat es), [], ()), ()) (by rw [e2]; rfl) (by kernel_rfl)
  · have hk := h2 hl
    refine ⟨by omega, h0, hk, ?_, h0, hk, by omega, ?_, ?_⟩
    · show (bs.take k.toNat).length ≤ _; rw [List.length_take]; omega
    · rw [e3, List.length_drop]; omega
    · subst hl
      exact ends_eq ((false, [], List.drop (Int.toNat 0) (List.take k.toNat bs), ()), (false, [], List.drop k.toNat (List.take ((bs.length : Int)).toNat bs), ()), ()) (by rw [e3]; rfl) (by kernel_rfl)

theorem smallE_take {es : List En} (h : smallE es) (k : Nat) : smallE (es.take k) := ⟨by have := h.1; rw [List.length_take]; omega, fun x hx => h.2 x (List.mem_of_mem_take hx)⟩
theorem smallB_take {es : List Br} (h : smallB es) (k : Nat) : smallB (es.take k) := ⟨by have := h.1; rw [List.length_take]; omega, fun x hx => h.2 x (List.mem_of_mem_take hx)⟩
theorem smallE_drop {es : List En} (h : smallE es) (k : Nat) : smallE (es.drop k) := ⟨by have := h.1; rw [List.length_drop]; omega, fun x hx => h.2 x (List.mem_of_mem_drop hx)⟩
theorem smallB_drop {es : List Br} (h : smallB es) (k : Nat) : smallB (es.drop k) := ⟨by have := h.1; rw [List.length_drop]; omega, fun x hx => h.2 x (List.mem_of_mem_drop hx)⟩
theorem smallE_nil : smallE [] := ⟨by simp, fun x hx => by simp at hx⟩
theorem smallB_nil : smallB [] := ⟨by simp, fun x hx => by simp at hx⟩
theorem sum_drop (zs : List Int) (k : Nat) : (zs.drop k).sum = zs.sum - (zs.take k).sum := by
  have : (zs.take k ++ zs.drop k).sum = zs.sum := by rw [List.take_append_drop]
  rw [List.sum_append] at this
  omega
theorem sizes_cut {l : Bool} {es : List En} {bs : List Br} (m1 : l = true → bs = []) (m2 : l = false → es = []) (k : Nat) :
    cutE l (es.take k) = es.take k ∧ cutB l (bs.take k) = bs.take k ∧ cutE l (es.drop k) = es.drop k ∧ cutB l (bs.drop k) = bs.drop k ∧
    sizeN (es.take k) (bs.take k) = 1 + ((sizesF es bs).take k).sum ∧ sizeN (es.drop k) (bs.drop k) = 1 + ((sizesF es bs).sum - ((sizesF es bs).take k).sum) := by
  rw [← sum_drop]
  cases l
  · obtain rfl := m2 rfl
    simp [cutE, cutB, sizesF, sizeN]
  · obtain rfl := m1 rfl
    simp [cutE, cutB, sizesF, sizeN]
theorem imax_one (a b : Int) : imax (1 + a) (1 + b) = 1 + imax a b := by
  unfold imax; split <;> split <;> omega

theorem rsplit_ok {Z : Glob} : FnOk P Z 46 [tRN] [tRN, tRN, tInt] (fun ((_, es, bs, ()), ()) => [smallE es, smallB bs])
    (fun ((l, es, bs, ()), ()) => ((spL l es bs, spE1 l es bs, spB1 l es bs, ()), (spL l es bs, spE2 l es bs, spB2 l es bs, ()), spC l es bs, ())) := by
  refine fnOk_of_safe Try.func46 (by kernel_rfl) (by kernel_rfl) ?_
  rintro ⟨⟨(l : Bool), (es : List En), (bs : List Br), ⟨⟩⟩, ⟨⟩⟩ _ ⟨(he : smallE es), (hb : smallB bs), _⟩ X hX hz
  have hT : tabRSpl.Ok P Z := Tab.Ok.cons rmay_ok.sum (Tab.Ok.cons rsize_ok.sum (Tab.Ok.cons rcut_ok.sum Tab.Ok.nil))
  show Safe P 46 X (Ends [tRN, tRN, tInt] (spY l es bs)) _
  have hle := he.1
  have hlb := hb.1
  have hlen := sizesF_len es bs
  have loop : splOk l es bs = true → ∀ (n k : Nat), k + n = es.length + bs.length - 1 → Safe P 46 X (Ends [tRN, tRN, tInt] (spY l es bs))
      (cRSpl l es bs ((es.length : Int) + (bs.length : Int)) ((splB (sizesF es bs) k).1 : Int) (if (splB (sizesF es bs) k).1 = 0 then 0 else 1 + (splB (sizesF es bs) k).2) ((k : Int) + 1)) := by
    intro hok n
    have hok' := hok
    simp only [splOk, Bool.and_eq_true, decide_eq_true_eq] at hok'
    obtain ⟨hm, h2⟩ := hok'
    obtain ⟨m1, m2, m3, m4⟩ := mayN_iff hm
    have lenE : l = true → es.length + bs.length = es.length := fun h => by rw [m1 h]; rfl
    have lenB : l = false → es.length + bs.length = bs.length := fun h => by rw [m2 h]; simp
    induction n with
    | zero =>
      intro k hk
      have hle2 := splB_le (sizesF es bs) k
      refine go hz hX hT Try.func46 (loopRSpl l es bs _ _ _ _) ⟨fun h => absurd (of_decide_eq_true h) (by omega), fun h => ⟨by omega, by omega, Int.natCast_nonneg _, fun hl => ?_, fun hl => ?_, ?_⟩⟩
      · have := lenE hl; omega
      · have := lenB hl; omega
      · have hbest : (splB (sizesF es bs) k).1 = bestS es bs := by rw [bestS, show k = es.length + bs.length - 1 from by omega]
        obtain ⟨c1, c2, c3, c4, _⟩ := sizes_cut m1 m2 (bestS es bs)
        rw [hbest]
        refine ends_eq ((l, cutE l (es.take (bestS es bs)), cutB l (bs.take (bestS es bs)), ()), (l, cutE l (es.drop (bestS es bs)), cutB l (bs.drop (bestS es bs)), ()), 0, ()) ?_ (by kernel_rfl)
        rw [c1, c2, c3, c4]
        exact spY_yes hok
    | succ n ih =>
      intro k hk
      obtain ⟨c1, c2, c3, c4, c5, c6⟩ := sizes_cut m1 m2 (k + 1)
      have next := ih (k + 1) (by omega)
      have hcost : imax (sizeN (es.take (k + 1)) (bs.take (k + 1))) (sizeN (es.drop (k + 1)) (bs.drop (k + 1))) = 1 + costS (sizesF es bs) (k + 1) := by rw [c5, c6, imax_one]; rfl
      refine go hz hX hT Try.func46 (loopRSpl l es bs _ _ _ _) ?_
      rw [show ((k : Int) + 1).toNat = k + 1 from by omega]
      refine ⟨fun h => ⟨by omega, by omega, ?_, fun hl => ?_, fun hl => ?_, ?_, ?_, ?_, ?_, fun h0 => ⟨⟨by omega, by omega⟩, ?_⟩, fun h0 => ⟨fun hlt => ⟨⟨by omega, by omega⟩, ?_⟩, fun hlt => ⟨⟨by omega, by omega⟩, ?_⟩⟩⟩, fun h => absurd (of_decide_eq_false h) (by omega)⟩
      · show (0 : Int) ≤ (k : Int) + 1; omega
      · have := lenE hl; omega
      · have := lenB hl; omega
      · exact c1.symm ▸ smallE_take he (k + 1)
      · exact c2.symm ▸ smallB_take hb (k + 1)
      · exact c3.symm ▸ smallE_drop he (k + 1)
      · exact c4.symm ▸ smallB_drop hb (k + 1)
      · have h0 : (splB (sizesF es bs) k).1 = 0 := by have : ((splB (sizesF es bs) k).1 : Int) = 0 := by simpa using h0
                                                      omega
        rw [splB, if_pos (.inl h0)] at next
        have e : imax (sizeN (cutE l (es.take (k + 1))) (cutB l (bs.take (k + 1)))) (sizeN (cutE l (es.drop (k + 1))) (cutB l (bs.drop (k + 1)))) = (if k + 1 = 0 then 0 else 1 + costS (sizesF es bs) (k + 1)) := by
          rw [c1, c2, c3, c4, hcost, if_neg (by omega)]
        rw [← e] at next
        exact next
      · have h0 : (splB (sizesF es bs) k).1 ≠ 0 := fun e => by simp [e] at h0
        have hlt : imax (sizeN (cutE l (es.take (k + 1))) (cutB l (bs.take (k + 1)))) (sizeN (cutE l (es.drop (k + 1))) (cutB l (bs.drop (k + 1)))) < (if (splB (sizesF es bs) k).1 = 0 then 0 else 1 + (splB (sizesF es bs) k).2) := of_decide_eq_true hlt
        have e : imax (sizeN (cutE l (es.take (k + 1))) (cutB l (bs.take (k + 1)))) (sizeN (cutE l (es.drop (k + 1))) (cutB l (bs.drop (k + 1)))) = (if k + 1 = 0 then 0 else 1 + costS (sizesF es bs) (k + 1)) := by
          rw [c1, c2, c3, c4, hcost, if_neg (by omega)]
        have hlt2 : costS (sizesF es bs) (k + 1) < (splB (sizesF es bs) k).2 := by
          rw [e, if_neg h0, if_neg (by omega)] at hlt; omega
        rw [splB, if_pos (.inr hlt2), ← e] at next
        exact next
      · have h0 : (splB (sizesF es bs) k).1 ≠ 0 := fun e => by simp [e] at h0
        have hlt : ¬ imax (sizeN (cutE l (es.take (k + 1))) (cutB l (bs.take (k + 1)))) (sizeN (cutE l (es.drop (k + 1))) (cutB l (bs.drop (k + 1)))) < (if (splB (sizesF es bs) k).1 = 0 then 0 else 1 + (splB (sizesF es bs) k).2) := of_decide_eq_false hlt
        have e : imax (sizeN (cutE l (es.take (k + 1))) (cutB l (bs.take (k + 1)))) (sizeN (cutE l (es.drop (k + 1))) (cutB l (bs.drop (k + 1)))) = 1 + costS (sizesF es bs) (k + 1) := by
          rw [c1, c2, c3, c4, hcost]
        have hlt2 : ¬ ((splB (sizesF es bs) k).1 = 0 ∨ costS (sizesF es bs) (k + 1) < (splB (sizesF es bs) k).2) := by
          rw [e, if_neg h0] at hlt
          rintro (h | h)
          · exact h0 h
          · omega
        rw [splB, if_neg hlt2] at next
        exact next
  refine go hz hX hT Try.func46 (treeRSpl l es bs) ⟨⟨by omega, by omega⟩, fun h => ends_eq ((false, [], [], ()), (false, [], [], ()), 4, ()) (spY_no ?_) (by kernel_rfl), fun h => ⟨fun h2 => ends_eq ((false, [], [], ()), (false, [], [], ()), 4, ()) (spY_no ?_) (by kernel_rfl), fun h2 => ?_⟩⟩
  · have h : mayN l es bs = false := by simpa using h
    simp [splOk, h]
  · have h2 := of_decide_eq_true h2
    simp only [splOk, Bool.and_eq_false_iff, decide_eq_false_iff_not]
    exact .inr (by omega)
  · have h : mayN l es bs = true := by simpa using h
    have h2 := of_decide_eq_false h2
    have hok : splOk l es bs = true := by simp only [splOk, h, Bool.true_and, decide_eq_true_eq]; omega
    exact loop hok (es.length + bs.length - 1) 0 (by omega)
end Lf

namespace Lf
open Go Go.Sx Go.Proofs
abbrev sRSame := sumOf [tRN, tRN] [tBool] (fun _ => []) (fun ((l, es, bs, ()), (l', es', bs', ()), ()) => (sameN l es bs l' es' bs', ()))
abbrev sREnc := sumOf [tRN] [tStr, tInt] (fun ((_, es, bs, ()), ()) => [smallE es, smallB bs]) (fun ((l, es, bs, ()), ()) => (encS l es bs, encN l es bs, ()))
abbrev sRDec := sumOf [tStr] [tRN, tInt] (fun _ => []) (fun (s, ()) => ((decLf s, decE s, decB s, ()), decC s, ()))
abbrev sSpl := sumOf [tNode] [tNode, tNode, tInt] (fun ((_, es, bs, ()), ()) => [smallE es, smallB bs]) (fun ((l, es, bs, ()), ()) => ((spL l es bs, spE1 l es bs, spB1 l es bs, ()), (spL l es bs, spE2 l es bs, spB2 l es bs, ()), spC l es bs, ()))
abbrev sRSpl := sumOf [tRN] [tRN, tRN, tInt] (fun ((_, es, bs, ()), ()) => [smallE es, smallB bs]) (fun ((l, es, bs, ()), ()) => ((spL l es bs, spE1 l es bs, spB1 l es bs, ()), (spL l es bs, spE2 l es bs, spB2 l es bs, ()), spC l es bs, ()))
abbrev sTold := sumOf [tNode] [tRN] (fun ((_, es, bs, ()), ()) => [(es : List En).length ≤ 100000, (bs : List Br).length ≤ 100000]) (fun (n, ()) => (n, ()))
def tabTe : Tab := [(22, sLarge), (23, sTrue), (24, sGiven), (25, sMay), (31, sEnc), (32, sDec), (33, sSame), (34, sSize), (35, sFits), (39, sSpl),
  (40, sRMay), (44, sREnc), (45, sRDec), (43, sRSame), (41, sRSize), (42, sRFits), (46, sRSpl), (47, sTold)]
def nsTe : List (Nat × Norm) := [(14, ⟨[], [3, 7, 16, 17, 22, 23], 0, []⟩), (18, ⟨[], [3, 7, 17, 22, 24], 0, []⟩)]
theorem treeTe (l l' : Bool) (es es' : List En) (bs bs' : List Br) (s : ByteArray) : run P tabTe.sum Try.f8 nsTe (start Try.f8 [avN l es bs, avN l' es' bs', .s (.str s)] []) =
  Tree.ite (largeN es bs) (Tree.ret [AObj.own [AV.s (SV.bool l), AV.s (SV.ro (Con.typ [CK.str, CK.str] es)), AV.s (SV.ro (Con.typ [CK.str, CK.int IntKind.i64] bs))] (25 : Nat), AObj.own [AV.s (SV.bool l'), AV.s (SV.ro (Con.typ [CK.str, CK.str] es')), AV.s (SV.ro (Con.typ [CK.str, CK.int IntKind.i64] bs'))] (25 : Nat)] (AV.s (SV.bool true)))
  (Tree.ite (largeN es' bs') (Tree.ret [AObj.own [AV.s (SV.bool l), AV.s (SV.ro (Con.typ [CK.str, CK.str] es)), AV.s (SV.ro (Con.typ [CK.str, CK.int IntKind.i64] bs))] (25 : Nat), AObj.own [AV.s (SV.bool l'), AV.s (SV.ro (Con.typ [CK.str, CK.str] es')), AV.s (SV.ro (Con.typ [CK.str, CK.int IntKind.i64] bs'))] (25 : Nat)] (AV.s (SV.bool true)))
    (Tree.ite (decide ((↑s.size : Int) > (1000 : Int))) (Tree.ret [AObj.own [AV.s (SV.bool l), AV.s (SV.ro (Con.typ [CK.str, CK.str] es)), AV.s (SV.ro (Con.typ [CK.str, CK.int IntKind.i64] bs))] (25 : Nat), AObj.own [AV.s (SV.bool l'), AV.s (SV.ro (Con.typ [CK.str, CK.str] es')), AV.s (SV.ro (Con.typ [CK.str, CK.int IntKind.i64] bs'))] (25 : Nat)] (AV.s (SV.bool true)))
      (Tree.need (es.length ≤ (100000 : Nat))
        (Tree.need (bs.length ≤ (100000 : Nat))
          (Tree.ite (!mayN l es bs == mayN l es bs) (Tree.ret [AObj.own [AV.s (SV.bool l), AV.s (SV.ro (Con.typ [CK.str, CK.str] es)), AV.s (SV.ro (Con.typ [CK.str, CK.int IntKind.i64] bs))] (25 : Nat), AObj.own [AV.s (SV.bool l'), AV.s (SV.ro (Con.typ [CK.str, CK.str] es')), AV.s (SV.ro (Con.typ [CK.str, CK.int IntKind.i64] bs'))] (25 : Nat), AObj.vec (Con.typ [CK.str, CK.str] es) (59 : Nat), AObj.vec (Con.typ [CK.str, CK.int IntKind.i64] bs) (36 : Nat), AObj.own [AV.s (SV.bool l), AV.vec (2 : Nat), AV.vec (3 : Nat)] (31 : Nat)] (AV.s (SV.blit false)))
            (Tree.need (smallE es)
              (Tree.need (smallB bs)
                (Tree.need (smallE es)
                  (Tree.need (smallB bs)
                    (Tree.ite (sizeN es bs != sizeN es bs) (Tree.ret [AObj.own [AV.s (SV.bool l), AV.s (SV.ro (Con.typ [CK.str, CK.str] es)), AV.s (SV.ro (Con.typ [CK.str, CK.int IntKind.i64] bs))] (25 : Nat), AObj.own [AV.s (SV.bool l'), AV.s (SV.ro (Con.typ [CK.str, CK.str] es')), AV.s (SV.ro (Con.typ [CK.str, CK.int IntKind.i64] bs'))] (25 : Nat), AObj.vec (Con.typ [CK.str, CK.str] es) (59 : Nat), AObj.vec (Con.typ [CK.str, CK.int IntKind.i64] bs) (36 : Nat), AObj.own [AV.s (SV.bool l), AV.vec (2 : Nat), AV.vec (3 : Nat)] (31 : Nat)] (AV.s (SV.blit false)))
                      (Tree.need (smallE es)
                        (Tree.need (smallB bs)
                          (Tree.need (smallE es)
                            (Tree.need (smallB bs)
                              (Tree.ite (!decide (sizeN es bs ≤ (254 : Int)) == decide (sizeN es bs ≤ (254 : Int))) (Tree.ret [AObj.own [AV.s (SV.bool l), AV.s (SV.ro (Con.typ [CK.str, CK.str] es)), AV.s (SV.ro (Con.typ [CK.str, CK.int IntKind.i64] bs))] (25 : Nat), AObj.own [AV.s (SV.bool l'), AV.s (SV.ro (Con.typ [CK.str, CK.str] es')), AV.s (SV.ro (Con.typ [CK.str, CK.int IntKind.i64] bs'))] (25 : Nat), AObj.vec (Con.typ [CK.str, CK.str] es) (59 : Nat), AObj.vec (Con.typ [CK.str, CK.int IntKind.i64] bs) (36 : Nat), AObj.own [AV.s (SV.bool l), AV.vec (2 : Nat), AV.vec (3 : Nat)] (31 : Nat)] (AV.s (SV.blit false)))
                                (Tree.need (es'.length ≤ (100000 : Nat))
                                  (Tree.need (bs'.length ≤ (100000 : Nat))
                                    (Tree.ite (!sameN l es bs l' es' bs' == sameN l es bs l' es' bs') (Tree.ret [AObj.own [AV.s (SV.bool l), AV.s (SV.ro (Con.typ [CK.str, CK.str] es)), AV.s (SV.ro (Con.typ [CK.str, CK.int IntKind.i64] bs))] (25 : Nat), AObj.own [AV.s (SV.bool l'), AV.s (SV.ro (Con.typ [CK.str, CK.str] es')), AV.s (SV.ro (Con.typ [CK.str, CK.int IntKind.i64] bs'))] (25 : Nat), AObj.vec (Con.typ [CK.str, CK.str] es) (59 : Nat), AObj.vec (Con.typ [CK.str, CK.int IntKind.i64] bs) (36 : Nat), AObj.own [AV.s (SV.bool l), AV.vec (2 : Nat), AV.vec (3 : Nat)] (31 : Nat), AObj.vec (Con.typ [CK.str, CK.str] es') (59 : Nat), AObj.vec (Con.typ [CK.str, CK.int IntKind.i64] bs') (36 : Nat)] (AV.s (SV.blit false)))
                                      (Tree.need (smallE es)
                                        (Tree.need (smallB bs)
                                          (Tree.need (smallE es)
                                            (Tree.need (smallB bs)
                                              (Tree.need (smallE es)
                                                (Tree.need (smallB bs)
                                                  (Tree.need (smallE es)
                                                    (Tree.need (smallB bs)
                                                      (Tree.ite (decide (encS l es bs = encS l es bs))
                                                        (Tree.ite (encN l es bs == encN l es bs)
                                                          (Tree.need ((decE s).length ≤ (100000 : Nat))
                                                            (Tree.need ((decB s).length ≤ (100000 : Nat))
                                                              (Tree.ite (sameN (decLf s) (decE s) (decB s) (decLf s) (decE s) (decB s))
                                                                (Tree.ite (decC s == decC s)
                                                                  (Tree.need ((spE1 l es bs).length ≤ (100000 : Nat))
                                                                    (Tree.need ((spB1 l es bs).length ≤ (100000 : Nat))
                                                                      (Tree.ite (sameN (spL l es bs) (spE1 l es bs) (spB1 l es bs) (spL l es bs) (spE1 l es bs) (spB1 l es bs))
                                                                        (Tree.need ((spE2 l es bs).length ≤ (100000 : Nat))
                                                                          (Tree.need ((spB2 l es bs).length ≤ (100000 : Nat))
                                                                            (Tree.ite (sameN (spL l es bs) (spE2 l es bs) (spB2 l es bs) (spL l es bs) (spE2 l es bs) (spB2 l es bs))
                                                                              (Tree.at
                                                                                (Cfg.mk (sl (170 : Nat) [((3 : Nat), AV.ptr (0 : Nat) (0 : Nat)), ((7 : Nat), AV.ptr (1 : Nat) (0 : Nat)), ((16 : Nat), AV.ptr (2 : Nat) (0 : Nat)), ((17 : Nat), AV.ptr (3 : Nat) (0 : Nat)), ((22 : Nat), AV.s (SV.bool (spC l es bs == spC l es bs))), ((23 : Nat), AV.s (SV.int IntKind.i64 (0 : Int)))])
                                                                                  [AObj.own [AV.s (SV.bool l), AV.s (SV.ro (Con.typ [CK.str, CK.str] es)), AV.s (SV.ro (Con.typ [CK.str, CK.int IntKind.i64] bs))] (25 : Nat), AObj.own [AV.s (SV.bool l), AV.vec (4 : Nat), AV.vec (5 : Nat)] (31 : Nat), AObj.own [AV.s (SV.bool (spL l es bs)), AV.vec (6 : Nat), AV.vec (7 : Nat)] (31 : Nat), AObj.own [AV.s (SV.bool (spL l es bs)), AV.vec (8 : Nat), AV.vec (9 : Nat)] (31 : Nat), AObj.vec (Con.typ [CK.str, CK.str] es) (59 : Nat), AObj.vec (Con.typ [CK.str, CK.int IntKind.i64] bs) (36 : Nat), AObj.vec (Con.typ [CK.str, CK.str] (spE1 l ((fun (h : PLift ([CK.str, CK.str] = cE)) => castL h es) (PLift.up (Eq.mpr (id (congrArg (fun (_a : CK) => [_a, CK.str] = [CK.str, CK.str]) (PLift.up rfl).down)) (Eq.mpr (id (congrArg (fun (_a : List CK) => CK.str :: _a = [CK.str, CK.str]) (PLift.up (Eq.mpr (id (congrArg (fun (_a : CK) => [_a] = [CK.str]) (PLift.up rfl).down)) (Eq.mpr (id (congrArg (fun (_a : List CK) => CK.str :: _a = [CK.str]) (PLift.up rfl).down)) (Eq.refl [CK.str])))).down)) (Eq.refl [CK.str, CK.str]))))) ((fun (h : PLift ([CK.str, CK.int IntKind.i64] = cB)) => castL h bs) (PLift.up (Eq.mpr (id (congrArg (fun (_a : CK) => [_a, CK.int IntKind.i64] = [CK.str, CK.int IntKind.i64]) (PLift.up rfl).down)) (Eq.mpr (id (congrArg (fun (_a : List CK) => CK.str :: _a = [CK.str, CK.int IntKind.i64]) (PLift.up (Eq.mpr (id (congrArg (fun (_a : CK) => [_a] = [CK.int IntKind.i64]) ((fun (h : PLift (IntKind.i64 = IntKind.i64)) => PLift.up (congrArg CK.int h.down)) (PLift.up (instDecidableEqIntKind._proof_1 IntKind.i64 IntKind.i64 (Nat.eq_of_beq_eq_true (Eq.refl (IntKind.i64.ctorIdx.beq IntKind.i64.ctorIdx)))))).down)) (Eq.mpr (id (congrArg (fun (_a : List CK) => CK.int IntKind.i64 :: _a = [CK.int IntKind.i64]) (PLift.up rfl).down)) (Eq.refl [CK.int IntKind.i64])))).down)) (Eq.refl [CK.str, CK.int IntKind.i64]))))))) (59 : Nat), AObj.vec (Con.typ [CK.str, CK.int IntKind.i64] (spB1 l ((fun (h : PLift ([CK.str, CK.str] = cE)) => castL h es) (PLift.up (Eq.mpr (id (congrArg (fun (_a : CK) => [_a, CK.str] = [CK.str, CK.str]) (PLift.up rfl).down)) (Eq.mpr (id (congrArg (fun (_a : List CK) => CK.str :: _a = [CK.str, CK.str]) (PLift.up (Eq.mpr (id (congrArg (fun (_a : CK) => [_a] = [CK.str]) (PLift.up rfl).down)) (Eq.mpr (id (congrArg (fun (_a : List CK) => CK.str :: _a = [CK.str]) (PLift.up rfl).down)) (Eq.refl [CK.str])))).down)) (Eq.refl [CK.str, CK.str]))))) ((fun (h : PLift ([CK.str, CK.int IntKind.i64] = cB)) => castL h bs) (PLift.up (Eq.mpr (id (congrArg (fun (_a : CK) => [_a, CK.int IntKind.i64] = [CK.str, CK.int IntKind.i64]) (PLift.up rfl).down)) (Eq.mpr (id (congrArg (fun (_a : List CK) => CK.str :: _a = [CK.str, CK.int IntKind.i64]) (PLift.up (Eq.mpr (id (congrArg (fun (_a : CK) => [_a] = [CK.int IntKind.i64]) ((fun (h : PLift (IntKind.i64 = IntKind.i64)) => PLift.up (congrArg CK.int h.down)) (PLift.up (instDecidableEqIntKind._proof_1 IntKind.i64 IntKind.i64 (Nat.eq_of_beq_eq_true (Eq.refl (IntKind.i64.ctorIdx.beq IntKind.i64.ctorIdx)))))).down)) (Eq.mpr (id (congrArg (fun (_a : List CK) => CK.int IntKind.i64 :: _a = [CK.int IntKind.i64]) (PLift.up rfl).down)) (Eq.refl [CK.int IntKind.i64])))).down)) (Eq.refl [CK.str, CK.int IntKind.i64]))))))) (36 : Nat),
                                                                                    AObj.vec (Con.typ [CK.str, CK.str] (spE2 l ((fun (h : PLift ([CK.str, CK.str] = cE)) => castL h es) (PLift.up (Eq.mpr (id (congrArg (fun (_a : CK) => [_a, CK.str] = [CK.str, CK.str]) (PLift.up rfl).down)) (Eq.mpr (id (congrArg (fun (_a : List CK) => CK.str :: _a = [CK.str, CK.str]) (PLift.up (Eq.mpr (id (congrArg (fun (_a : CK) => [_a] = [CK.str]) (PLift.up rfl).down)) (Eq.mpr (id (congrArg (fun (_a : List CK) => CK.str :: _a = [CK.str]) (PLift.up rfl).down)) (Eq.refl [CK.str])))).down)) (Eq.refl [CK.str, CK.str]))))) ((fun (h : PLift ([CK.str, CK.int IntKind.i64] = cB)) => castL h bs) (PLift.up (Eq.mpr (id (congrArg (fun (_a : CK) => [_a, CK.int IntKind.i64] = [CK.str, CK.int IntKind.i64]) (PLift.up rfl).down)) (Eq.mpr (id (congrArg (fun (_a : List CK) => CK.str :: _a = [CK.str, CK.int IntKind.i64]) (PLift.up (Eq.mpr (id (congrArg (fun (_a : CK) => [_a] = [CK.int IntKind.i64]) ((fun (h : PLift (IntKind.i64 = IntKind.i64)) => PLift.up (congrArg CK.int h.down)) (PLift.up (instDecidableEqIntKind._proof_1 IntKind.i64 IntKind.i64 (Nat.eq_of_beq_eq_true (Eq.refl (IntKind.i64.ctorIdx.beq IntKind.i64.ctorIdx)))))).down)) (Eq.mpr (id (congrArg (fun (_a : List CK) => CK.int IntKind.i64 :: _a = [CK.int IntKind.i64]) (PLift.up rfl).down)) (Eq.refl [CK.int IntKind.i64])))).down)) (Eq.refl [CK.str, CK.int IntKind.i64]))))))) (59 : Nat), AObj.vec (Con.typ [CK.str, CK.int IntKind.i64] (spB2 l ((fun (h : PLift ([CK.str, CK.str] = cE)) => castL h es) (PLift.up (Eq.mpr (id (congrArg (fun (_a : CK) => [_a, CK.str] = [CK.str, CK.str]) (PLift.up rfl).down)) (Eq.mpr (id (congrArg (fun (_a : List CK) => CK.str :: _a = [CK.str, CK.str]) (PLift.up (Eq.mpr (id (congrArg (fun (_a : CK) => [_a] = [CK.str]) (PLift.up rfl).down)) (Eq.mpr (id (congrArg (fun (_a : List CK) => CK.str :: _a = [CK.str]) (PLift.up rfl).down)) (Eq.refl [CK.str])))).down)) (Eq.refl [CK.str, CK.str]))))) ((fun (h : PLift ([CK.str, CK.int IntKind.i64] = cB)) => castL h bs) (PLift.up (Eq.mpr (id (congrArg (fun (_a : CK) => [_a, CK.int IntKind.i64] = [CK.str, CK.int IntKind.i64]) (PLift.up rfl).down)) (Eq.mpr (id (congrArg (fun (_a : List CK) => CK.str :: _a = [CK.str, CK.int IntKind.i64]) (PLift.up (Eq.mpr (id (congrArg (fun (_a : CK) => [_a] = [CK.int IntKind.i64]) ((fun (h : PLift (IntKind.i64 = IntKind.i64)) => PLift.up (congrArg CK.int h.down)) (PLift.up (instDecidableEqIntKind._proof_1 IntKind.i64 IntKind.i64 (Nat.eq_of_beq_eq_true (Eq.refl (IntKind.i64.ctorIdx.beq IntKind.i64.ctorIdx)))))).down)) (Eq.mpr (id (congrArg (fun (_a : List CK) => CK.int IntKind.i64 :: _a = [CK.int IntKind.i64]) (PLift.up rfl).down)) (Eq.refl [CK.int IntKind.i64])))).down)) (Eq.refl [CK.str, CK.int IntKind.i64]))))))) (36 : Nat)]
                                                                                  (hd Try.f8 (14 : Nat)) (Stk.mk none false (0 : Nat) [] (0 : Nat))))
                                                                              (Tree.at
                                                                                (Cfg.mk (sl (170 : Nat) [((3 : Nat), AV.ptr (0 : Nat) (0 : Nat)), ((7 : Nat), AV.ptr (1 : Nat) (0 : Nat)), ((16 : Nat), AV.ptr (2 : Nat) (0 : Nat)), ((17 : Nat), AV.ptr (3 : Nat) (0 : Nat)), ((22 : Nat), AV.s (SV.bool false)), ((23 : Nat), AV.s (SV.int IntKind.i64 (0 : Int)))])
                                                                                  [AObj.own [AV.s (SV.bool l), AV.s (SV.ro (Con.typ [CK.str, CK.str] es)), AV.s (SV.ro (Con.typ [CK.str, CK.int IntKind.i64] bs))] (25 : Nat), AObj.own [AV.s (SV.bool l), AV.vec (4 : Nat), AV.vec (5 : Nat)] (31 : Nat), AObj.own [AV.s (SV.bool (spL l es bs)), AV.vec (6 : Nat), AV.vec (7 : Nat)] (31 : Nat), AObj.own [AV.s (SV.bool (spL l es bs)), AV.vec (8 : Nat), AV.vec (9 : Nat)] (31 : Nat), AObj.vec (Con.typ [CK.str, CK.str] es) (59 : Nat), AObj.vec (Con.typ [CK.str, CK.int IntKind.i64] bs) (36 : Nat), AObj.vec (Con.typ [CK.str, CK.str] (spE1 l ((fun (h : PLift ([CK.str, CK.str] = cE)) => castL h es) (PLift.up (Eq.mpr (id (congrArg (fun (_a : CK) => [_a, CK.str] = [CK.str, CK.str]) (PLift.up rfl).down)) (Eq.mpr (id (congrArg (fun (_a : List CK) => CK.str :: _a = [CK.str, CK.str]) (PLift.up (Eq.mpr (id (congrArg (fun (_a : CK) => [_a] = [CK.str]) (PLift.up rfl).down)) (Eq.mpr (id (congrArg (fun (_a : List CK) => CK.str :: _a = [CK.str]) (PLift.up rfl).down)) (Eq.refl [CK.str])))).down)) (Eq.refl [CK.str, CK.str]))))) ((fun (h : PLift ([CK.str, CK.int IntKind.i64] = cB)) => castL h bs) (PLift.up (Eq.mpr (id (congrArg (fun (_a : CK) => [_a, CK.int IntKind.i64] = [CK.str, CK.int IntKind.i64]) (PLift.up rfl).down)) (Eq.mpr (id (congrArg (fun (_a : List CK) => CK.str :: _a = [CK.str, CK.int IntKind.i64]) (PLift.up (Eq.mpr (id (congrArg (fun (_a : CK) => [_a] = [CK.int IntKind.i64]) ((fun (h : PLift (IntKind.i64 = IntKind.i64)) => PLift.up (congrArg CK.int h.down)) (PLift.up (instDecidableEqIntKind._proof_1 IntKind.i64 IntKind.i64 (Nat.eq_of_beq_eq_true (Eq.refl (IntKind.i64.ctorIdx.beq IntKind.i64.ctorIdx)))))).down)) (Eq.mpr (id (congrArg (fun (_a : List CK) => CK.int IntKind.i64 :: _a = [CK.int IntKind.i64]) (PLift.up rfl).down)) (Eq.refl [CK.int IntKind.i64])))).down)) (Eq.refl [CK.str, CK.int IntKind.i64]))))))) (59 : Nat), AObj.vec (Con.typ [CK.str, CK.int IntKind.i64] (spB1 l ((fun (h : PLift ([CK.str, CK.str] = cE)) => castL h es) (PLift.up (Eq.mpr (id (congrArg (fun (_a : CK) => [_a, CK.str] = [CK.str, CK.str]) (PLift.up rfl).down)) (Eq.mpr (id (congrArg (fun (_a : List CK) => CK.str :: _a = [CK.str, CK.str]) (PLift.up (Eq.mpr (id (congrArg (fun (_a : CK) => [_a] = [CK.str]) (PLift.up rfl).down)) (Eq.mpr (id (congrArg (fun (_a : List CK) => CK.str :: _a = [CK.str]) (PLift.up rfl).down)) (Eq.refl [CK.str])))).down)) (Eq.refl [CK.str, CK.str]))))) ((fun (h : PLift ([CK.str, CK.int IntKind.i64] = cB)) => castL h bs) (PLift.up (Eq.mpr (id (congrArg (fun (_a : CK) => [_a, CK.int IntKind.i64] = [CK.str, CK.int IntKind.i64]) (PLift.up rfl).down)) (Eq.mpr (id (congrArg (fun (_a : List CK) => CK.str :: _a = [CK.str, CK.int IntKind.i64]) (PLift.up (Eq.mpr (id (congrArg (fun (_a : CK) => [_a] = [CK.int IntKind.i64]) ((fun (h : PLift (IntKind.i64 = IntKind.i64)) => PLift.up (congrArg CK.int h.down)) (PLift.up (instDecidableEqIntKind._proof_1 IntKind.i64 IntKind.i64 (Nat.eq_of_beq_eq_true (Eq.refl (IntKind.i64.ctorIdx.beq IntKind.i64.ctorIdx)))))).down)) (Eq.mpr (id (congrArg (fun (_a : List CK) => CK.int IntKind.i64 :: _a = [CK.int IntKind.i64]) (PLift.up rfl).down)) (Eq.refl [CK.int IntKind.i64])))).down)) (Eq.refl [CK.str, CK.int IntKind.i64]))))))) (36 : Nat),
                                                                                    AObj.vec (Con.typ [CK.str, CK.str] (spE2 l ((fun (h : PLift ([CK.str, CK.str] = cE)) => castL h es) (PLift.up (Eq.mpr (id (congrArg (fun (_a : CK) => [_a, CK.str] = [CK.str, CK.str]) (PLift.up rfl).down)) (Eq.mpr (id (congrArg (fun (_a : List CK) => CK.str :: _a = [CK.str, CK.str]) (PLift.up (Eq.mpr (id (congrArg (fun (_a : CK) => [_a] = [CK.str]) (PLift.up rfl).down)) (Eq.mpr (id (congrArg (fun (_a : List CK) => CK.str :: _a = [CK.str]) (PLift.up rfl).down)) (Eq.refl [CK.str])))).down)) (Eq.refl [CK.str, CK.str]))))) ((fun (h : PLift ([CK.str, CK.int IntKind.i64] = cB)) => castL h bs) (PLift.up (Eq.mpr (id (congrArg (fun (_a : CK) => [_a, CK.int IntKind.i64] = [CK.str, CK.int IntKind.i64]) (PLift.up rfl).down)) (Eq.mpr (id (congrArg (fun (_a : List CK) => CK.str :: _a = [CK.str, CK.int IntKind.i64]) (PLift.up (Eq.mpr (id (congrArg (fun (_a : CK) => [_a] = [CK.int IntKind.i64]) ((fun (h : PLift (IntKind.i64 = IntKind.i64)) => PLift.up (congrArg CK.int h.down)) (PLift.up (instDecidableEqIntKind._proof_1 IntKind.i64 IntKind.i64 (Nat.eq_of_beq_eq_true (Eq.refl (IntKind.i64.ctorIdx.beq IntKind.i64.ctorIdx)))))).down)) (Eq.mpr (id (congrArg (fun (_a : List CK) => CK.int IntKind.i64 :: _a = [CK.int IntKind.i64]) (PLift.up rfl).down)) (Eq.refl [CK.int IntKind.i64])))).down)) (Eq.refl [CK.str, CK.int IntKind.i64]))))))) (59 : Nat), AObj.vec (Con.typ [CK.str, CK.int IntKind.i64] (spB2 l ((fun (h : PLift ([CK.str, CK.str] = cE)) => castL h es) (PLift.up (Eq.mpr (id (congrArg (fun (_a : CK) => [_a, CK.str] = [CK.str, CK.str]) (PLift.up rfl).down)) (Eq.mpr (id (congrArg (fun (_a : List CK) => CK.str :: _a = [CK.str, CK.str]) (PLift.up (Eq.mpr (id (congrArg (fun (_a : CK) => [_a] = [CK.str]) (PLift.up rfl).down)) (Eq.mpr (id (congrArg (fun (_a : List CK) => CK.str :: _a = [CK.str]) (PLift.up rfl).down)) (Eq.refl [CK.str])))).down)) (Eq.refl [CK.str, CK.str]))))) ((fun (h : PLift ([CK.str, CK.int IntKind.i64] = cB)) => castL h bs) (PLift.up (Eq.mpr (id (congrArg (fun (_a : CK) => [_a, CK.int IntKind.i64] = [CK.str, CK.int IntKind.i64]) (PLift.up rfl).down)) (Eq.mpr (id (congrArg (fun (_a : List CK) => CK.str :: _a = [CK.str, CK.int IntKind.i64]) (PLift.up (Eq.mpr (id (congrArg (fun (_a : CK) => [_a] = [CK.int IntKind.i64]) ((fun (h : PLift (IntKind.i64 = IntKind.i64)) => PLift.up (congrArg CK.int h.down)) (PLift.up (instDecidableEqIntKind._proof_1 IntKind.i64 IntKind.i64 (Nat.eq_of_beq_eq_true (Eq.refl (IntKind.i64.ctorIdx.beq IntKind.i64.ctorIdx)))))).down)) (Eq.mpr (id (congrArg (fun (_a : List CK) => CK.int IntKind.i64 :: _a = [CK.int IntKind.i64]) (PLift.up rfl).down)) (Eq.refl [CK.int IntKind.i64])))).down)) (Eq.refl [CK.str, CK.int IntKind.i64]))))))) (36 : Nat)]
                                                                                  (hd Try.f8 (14 : Nat)) (Stk.mk none false (0 : Nat) [] (0 : Nat)))))))
                                                                        (Tree.at
                                                                          (Cfg.mk (sl (170 : Nat) [((3 : Nat), AV.ptr (0 : Nat) (0 : Nat)), ((7 : Nat), AV.ptr (1 : Nat) (0 : Nat)), ((16 : Nat), AV.ptr (2 : Nat) (0 : Nat)), ((17 : Nat), AV.ptr (3 : Nat) (0 : Nat)), ((22 : Nat), AV.s (SV.bool false)), ((23 : Nat), AV.s (SV.int IntKind.i64 (0 : Int)))])
                                                                            [AObj.own [AV.s (SV.bool l), AV.s (SV.ro (Con.typ [CK.str, CK.str] es)), AV.s (SV.ro (Con.typ [CK.str, CK.int IntKind.i64] bs))] (25 : Nat), AObj.own [AV.s (SV.bool l), AV.vec (4 : Nat), AV.vec (5 : Nat)] (31 : Nat), AObj.own [AV.s (SV.bool (spL l es bs)), AV.vec (6 : Nat), AV.vec (7 : Nat)] (31 : Nat), AObj.own [AV.s (SV.bool (spL l es bs)), AV.vec (8 : Nat), AV.vec (9 : Nat)] (31 : Nat), AObj.vec (Con.typ [CK.str, CK.str] es) (59 : Nat), AObj.vec (Con.typ [CK.str, CK.int IntKind.i64] bs) (36 : Nat), AObj.vec (Con.typ [CK.str, CK.str] (spE1 l ((fun (h : PLift ([CK.str, CK.str] = cE)) => castL h es) (PLift.up (Eq.mpr (id (congrArg (fun (_a : CK) => [_a, CK.str] = [CK.str, CK.str]) (PLift.up rfl).down)) (Eq.mpr (id (congrArg (fun (_a : List CK) => CK.str :: _a = [CK.str, CK.str]) (PLift.up (Eq.mpr (id (congrArg (fun (_a : CK) => [_a] = [CK.str]) (PLift.up rfl).down)) (Eq.mpr (id (congrArg (fun (_a : List CK) => CK.str :: _a = [CK.str]) (PLift.up rfl).down)) (Eq.refl [CK.str])))).down)) (Eq.refl [CK.str, CK.str]))))) ((fun (h : PLift ([CK.str, CK.int IntKind.i64] = cB)) => castL h bs) (PLift.up (Eq.mpr (id (congrArg (fun (_a : CK) => [_a, CK.int IntKind.i64] = [CK.str, CK.int IntKind.i64]) (PLift.up rfl).down)) (Eq.mpr (id (congrArg (fun (_a : List CK) => CK.str :: _a = [CK.str, CK.int IntKind.i64]) (PLift.up (Eq.mpr (id (congrArg (fun (_a : CK) => [_a] = [CK.int IntKind.i64]) ((fun (h : PLift (IntKind.i64 = IntKind.i64)) => PLift.up (congrArg CK.int h.down)) (PLift.up (instDecidableEqIntKind._proof_1 IntKind.i64 IntKind.i64 (Nat.eq_of_beq_eq_true (Eq.refl (IntKind.i64.ctorIdx.beq IntKind.i64.ctorIdx)))))).down)) (Eq.mpr (id (congrArg (fun (_a : List CK) => CK.int IntKind.i64 :: _a = [CK.int IntKind.i64]) (PLift.up rfl).down)) (Eq.refl [CK.int IntKind.i64])))).down)) (Eq.refl [CK.str, CK.int IntKind.i64]))))))) (59 : Nat), AObj.vec (Con.typ [CK.str, CK.int IntKind.i64] (spB1 l ((fun (h : PLift ([CK.str, CK.str] = cE)) => castL h es) (PLift.up (Eq.mpr (id (congrArg (fun (_a : CK) => [_a, CK.str] = [CK.str, CK.str]) (PLift.up rfl).down)) (Eq.mpr (id (congrArg (fun (_a : List CK) => CK.str :: _a = [CK.str, CK.str]) (PLift.up (Eq.mpr (id (congrArg (fun (_a : CK) => [_a] = [CK.str]) (PLift.up rfl).down)) (Eq.mpr (id (congrArg (fun (_a : List CK) => CK.str :: _a = [CK.str]) (PLift.up rfl).down)) (Eq.refl [CK.str])))).down)) (Eq.refl [CK.str, CK.str]))))) ((fun (h : PLift ([CK.str, CK.int IntKind.i64] = cB)) => castL h bs) (PLift.up (Eq.mpr (id (congrArg (fun (_a : CK) => [_a, CK.int IntKind.i64] = [CK.str, CK.int IntKind.i64]) (PLift.up rfl).down)) (Eq.mpr (id (congrArg (fun (_a : List CK) => CK.str :: _a = [CK.str, CK.int IntKind.i64]) (PLift.up (Eq.mpr (id (congrArg (fun (_a : CK) => [_a] = [CK.int IntKind.i64]) ((fun (h : PLift (IntKind.i64 = IntKind.i64)) => PLift.up (congrArg CK.int h.down)) (PLift.up (instDecidableEqIntKind._proof_1 IntKind.i64 IntKind.i64 (Nat.eq_of_beq_eq_true (Eq.refl (IntKind.i64.ctorIdx.beq IntKind.i64.ctorIdx)))))).down)) (Eq.mpr (id (congrArg (fun (_a : List CK) => CK.int IntKind.i64 :: _a = [CK.int IntKind.i64]) (PLift.up rfl).down)) (Eq.refl [CK.int IntKind.i64])))).down)) (Eq.refl [CK.str, CK.int IntKind.i64]))))))) (36 : Nat),
                                                                              AObj.vec (Con.typ [CK.str, CK.str] (spE2 l ((fun (h : PLift ([CK.str, CK.str] = cE)) => castL h es) (PLift.up (Eq.mpr (id (congrArg (fun (_a : CK) => [_a, CK.str] = [CK.str, CK.str]) (PLift.up rfl).down)) (Eq.mpr (id (congrArg (fun (_a : List CK) => CK.str :: _a = [CK.str, CK.str]) (PLift.up (Eq.mpr (id (congrArg (fun (_a : CK) => [_a] = [CK.str]) (PLift.up rfl).down)) (Eq.mpr (id (congrArg (fun (_a : List CK) => CK.str :: _a = [CK.str]) (PLift.up rfl).down)) (Eq.refl [CK.str])))).down)) (Eq.refl [CK.str, CK.str]))))) ((fun (h : PLift ([CK.str, CK.int IntKind.i64] = cB)) => castL h bs) (PLift.up (Eq.mpr (id (congrArg (fun (_a : CK) => [_a, CK.int IntKind.i64] = [CK.str, CK.int IntKind.i64]) (PLift.up rfl).down)) (Eq.mpr (id (congrArg (fun (_a : List CK) => CK.str :: _a = [CK.str, CK.int IntKind.i64]) (PLift.up (Eq.mpr (id (congrArg (fun (_a : CK) => [_a] = [CK.int IntKind.i64]) ((fun (h : PLift (IntKind.i64 = IntKind.i64)) => PLift.up (congrArg CK.int h.down)) (PLift.up (instDecidableEqIntKind._proof_1 IntKind.i64 IntKind.i64 (Nat.eq_of_beq_eq_true (Eq.refl (IntKind.i64.ctorIdx.beq IntKind.i64.ctorIdx)))))).down)) (Eq.mpr (id (congrArg (fun (_a : List CK) => CK.int IntKind.i64 :: _a = [CK.int IntKind.i64]) (PLift.up rfl).down)) (Eq.refl [CK.int IntKind.i64])))).down)) (Eq.refl [CK.str, CK.int IntKind.i64]))))))) (59 : Nat), AObj.vec (Con.typ [CK.str, CK.int IntKind.i64] (spB2 l ((fun (h : PLift ([CK.str, CK.str] = cE)) => castL h es) (PLift.up (Eq.mpr (id (congrArg (fun (_a : CK) => [_a, CK.str] = [CK.str, CK.str]) (PLift.up rfl).down)) (Eq.mpr (id (congrArg (fun (_a : List CK) => CK.str :: _a = [CK.str, CK.str]) (PLift.up (Eq.mpr (id (congrArg (fun (_a : CK) => [_a] = [CK.str]) (PLift.up rfl).down)) (Eq.mpr (id (congrArg (fun (_a : List CK) => CK.str :: _a = [CK.str]) (PLift.up rfl).down)) (Eq.refl [CK.str])))).down)) (Eq.refl [CK.str, CK.str]))))) ((fun (h : PLift ([CK.str, CK.int IntKind.i64] = cB)) => castL h bs) (PLift.up (Eq.mpr (id (congrArg (fun (_a : CK) => [_a, CK.int IntKind.i64] = [CK.str, CK.int IntKind.i64]) (PLift.up rfl).down)) (Eq.mpr (id (congrArg (fun (_a : List CK) => CK.str :: _a = [CK.str, CK.int IntKind.i64]) (PLift.up (Eq.mpr (id (congrArg (fun (_a : CK) => [_a] = [CK.int IntKind.i64]) ((fun (h : PLift (IntKind.i64 = IntKind.i64)) => PLift.up (congrArg CK.int h.down)) (PLift.up (instDecidableEqIntKind._proof_1 IntKind.i64 IntKind.i64 (Nat.eq_of_beq_eq_true (Eq.refl (IntKind.i64.ctorIdx.beq IntKind.i64.ctorIdx)))))).down)) (Eq.mpr (id (congrArg (fun (_a : List CK) => CK.int IntKind.i64 :: _a = [CK.int IntKind.i64]) (PLift.up rfl).down)) (Eq.refl [CK.int IntKind.i64])))).down)) (Eq.refl [CK.str, CK.int IntKind.i64]))))))) (36 : Nat)]
                                                                            (hd Try.f8 (14 : Nat)) (Stk.mk none false (0 : Nat) [] (0 : Nat)))))))
                                                                  (Tree.at
                                                                    (Cfg.mk (sl (170 : Nat) [((3 : Nat), AV.ptr (0 : Nat) (0 : Nat)), ((7 : Nat), AV.ptr (1 : Nat) (0 : Nat)), ((16 : Nat), AV.ptr (2 : Nat) (0 : Nat)), ((17 : Nat), AV.ptr (3 : Nat) (0 : Nat)), ((22 : Nat), AV.s (SV.bool false)), ((23 : Nat), AV.s (SV.int IntKind.i64 (0 : Int)))])
                                                                      [AObj.own [AV.s (SV.bool l), AV.s (SV.ro (Con.typ [CK.str, CK.str] es)), AV.s (SV.ro (Con.typ [CK.str, CK.int IntKind.i64] bs))] (25 : Nat), AObj.own [AV.s (SV.bool l), AV.vec (4 : Nat), AV.vec (5 : Nat)] (31 : Nat), AObj.own [AV.s (SV.bool (spL l es bs)), AV.vec (6 : Nat), AV.vec (7 : Nat)] (31 : Nat), AObj.own [AV.s (SV.bool (spL l es bs)), AV.vec (8 : Nat), AV.vec (9 : Nat)] (31 : Nat), AObj.vec (Con.typ [CK.str, CK.str] es) (59 : Nat), AObj.vec (Con.typ [CK.str, CK.int IntKind.i64] bs) (36 : Nat), AObj.vec (Con.typ [CK.str, CK.str] (spE1 l ((fun (h : PLift ([CK.str, CK.str] = cE)) => castL h es) (PLift.up (Eq.mpr (id (congrArg (fun (_a : CK) => [_a, CK.str] = [CK.str, CK.str]) (PLift.up rfl).down)) (Eq.mpr (id (congrArg (fun (_a : List CK) => CK.str :: _a = [CK.str, CK.str]) (PLift.up (Eq.mpr (id (congrArg (fun (_a : CK) => [_a] = [CK.str]) (PLift.up rfl).down)) (Eq.mpr (id (congrArg (fun (_a : List CK) => CK.str :: _a = [CK.str]) (PLift.up rfl).down)) (Eq.refl [CK.str])))).down)) (Eq.refl [CK.str, CK.str]))))) ((fun (h : PLift ([CK.str, CK.int IntKind.i64] = cB)) => castL h bs) (PLift.up (Eq.mpr (id (congrArg (fun (_a : CK) => [_a, CK.int IntKind.i64] = [CK.str, CK.int IntKind.i64]) (PLift.up rfl).down)) (Eq.mpr (id (congrArg (fun (_a : List CK) => CK.str :: _a = [CK.str, CK.int IntKind.i64]) (PLift.up (Eq.mpr (id (congrArg (fun (_a : CK) => [_a] = [CK.int IntKind.i64]) ((fun (h : PLift (IntKind.i64 = IntKind.i64)) => PLift.up (congrArg CK.int h.down)) (PLift.up (instDecidableEqIntKind._proof_1 IntKind.i64 IntKind.i64 (Nat.eq_of_beq_eq_true (Eq.refl (IntKind.i64.ctorIdx.beq IntKind.i64.ctorIdx)))))).down)) (Eq.mpr (id (congrArg (fun (_a : List CK) => CK.int IntKind.i64 :: _a = [CK.int IntKind.i64]) (PLift.up rfl).down)) (Eq.refl [CK.int IntKind.i64])))).down)) (Eq.refl [CK.str, CK.int IntKind.i64]))))))) (59 : Nat), AObj.vec (Con.typ [CK.str, CK.int IntKind.i64] (spB1 l ((fun (h : PLift ([CK.str, CK.str] = cE)) => castL h es) (PLift.up (Eq.mpr (id (congrArg (fun (_a : CK) => [_a, CK.str] = [CK.str, CK.str]) (PLift.up rfl).down)) (Eq.mpr (id (congrArg (fun (_a : List CK) => CK.str :: _a = [CK.str, CK.str]) (PLift.up (Eq.mpr (id (congrArg (fun (_a : CK) => [_a] = [CK.str]) (PLift.up rfl).down)) (Eq.mpr (id (congrArg (fun (_a : List CK) => CK.str :: _a = [CK.str]) (PLift.up rfl).down)) (Eq.refl [CK.str])))).down)) (Eq.refl [CK.str, CK.str]))))) ((fun (h : PLift ([CK.str, CK.int IntKind.i64] = cB)) => castL h bs) (PLift.up (Eq.mpr (id (congrArg (fun (_a : CK) => [_a, CK.int IntKind.i64] = [CK.str, CK.int IntKind.i64]) (PLift.up rfl).down)) (Eq.mpr (id (congrArg (fun (_a : List CK) => CK.str :: _a = [CK.str, CK.int IntKind.i64]) (PLift.up (Eq.mpr (id (congrArg (fun (_a : CK) => [_a] = [CK.int IntKind.i64]) ((fun (h : PLift (IntKind.i64 = IntKind.i64)) => PLift.up (congrArg CK.int h.down)) (PLift.up (instDecidableEqIntKind._proof_1 IntKind.i64 IntKind.i64 (Nat.eq_of_beq_eq_true (Eq.refl (IntKind.i64.ctorIdx.beq IntKind.i64.ctorIdx)))))).down)) (Eq.mpr (id (congrArg (fun (_a : List CK) => CK.int IntKind.i64 :: _a = [CK.int IntKind.i64]) (PLift.up rfl).down)) (Eq.refl [CK.int IntKind.i64])))).down)) (Eq.refl [CK.str, CK.int IntKind.i64]))))))) (36 : Nat),
                                                                        AObj.vec (Con.typ [CK.str, CK.str] (spE2 l ((fun (h : PLift ([CK.str, CK.str] = cE)) => castL h es) (PLift.up (Eq.mpr (id (congrArg (fun (_a : CK) => [_a, CK.str] = [CK.str, CK.str]) (PLift.up rfl).down)) (Eq.mpr (id (congrArg (fun (_a : List CK) => CK.str :: _a = [CK.str, CK.str]) (PLift.up (Eq.mpr (id (congrArg (fun (_a : CK) => [_a] = [CK.str]) (PLift.up rfl).down)) (Eq.mpr (id (congrArg (fun (_a : List CK) => CK.str :: _a = [CK.str]) (PLift.up rfl).down)) (Eq.refl [CK.str])))).down)) (Eq.refl [CK.str, CK.str]))))) ((fun (h : PLift ([CK.str, CK.int IntKind.i64] = cB)) => castL h bs) (PLift.up (Eq.mpr (id (congrArg (fun (_a : CK) => [_a, CK.int IntKind.i64] = [CK.str, CK.int IntKind.i64]) (PLift.up rfl).down)) (Eq.mpr (id (congrArg (fun (_a : List CK) => CK.str :: _a = [CK.str, CK.int IntKind.i64]) (PLift.up (Eq.mpr (id (congrArg (fun (_a : CK) => [_a] = [CK.int IntKind.i64]) ((fun (h : PLift (IntKind.i64 = IntKind.i64)) => PLift.up (congrArg CK.int h.down)) (PLift.up (instDecidableEqIntKind._proof_1 IntKind.i64 IntKind.i64 (Nat.eq_of_beq_eq_true (Eq.refl (IntKind.i64.ctorIdx.beq IntKind.i64.ctorIdx)))))).down)) (Eq.mpr (id (congrArg (fun (_a : List CK) => CK.int IntKind.i64 :: _a = [CK.int IntKind.i64]) (PLift.up rfl).down)) (Eq.refl [CK.int IntKind.i64])))).down)) (Eq.refl [CK.str, CK.int IntKind.i64]))))))) (59 : Nat), AObj.vec (Con.typ [CK.str, CK.int IntKind.i64] (spB2 l ((fun (h : PLift ([CK.str, CK.str] = cE)) => castL h es) (PLift.up (Eq.mpr (id (congrArg (fun (_a : CK) => [_a, CK.str] = [CK.str, CK.str]) (PLift.up rfl).down)) (Eq.mpr (id (congrArg (fun (_a : List CK) => CK.str :: _a = [CK.str, CK.str]) (PLift.up (Eq.mpr (id (congrArg (fun (_a : CK) => [_a] = [CK.str]) (PLift.up rfl).down)) (Eq.mpr (id (congrArg (fun (_a : List CK) => CK.str :: _a = [CK.str]) (PLift.up rfl).down)) (Eq.refl [CK.str])))).down)) (Eq.refl [CK.str, CK.str]))))) ((fun (h : PLift ([CK.str, CK.int IntKind.i64] = cB)) => castL h bs) (PLift.up (Eq.mpr (id (congrArg (fun (_a : CK) => [_a, CK.int IntKind.i64] = [CK.str, CK.int IntKind.i64]) (PLift.up rfl).down)) (Eq.mpr (id (congrArg (fun (_a : List CK) => CK.str :: _a = [CK.str, CK.int IntKind.i64]) (PLift.up (Eq.mpr (id (congrArg (fun (_a : CK) => [_a] = [CK.int IntKind.i64]) ((fun (h : PLift (IntKind.i64 = IntKind.i64)) => PLift.up (congrArg CK.int h.down)) (PLift.up (instDecidableEqIntKind._proof_1 IntKind.i64 IntKind.i64 (Nat.eq_of_beq_eq_true (Eq.refl (IntKind.i64.ctorIdx.beq IntKind.i64.ctorIdx)))))).down)) (Eq.mpr (id (congrArg (fun (_a : List CK) => CK.int IntKind.i64 :: _a = [CK.int IntKind.i64]) (PLift.up rfl).down)) (Eq.refl [CK.int IntKind.i64])))).down)) (Eq.refl [CK.str, CK.int IntKind.i64]))))))) (36 : Nat)]
                                                                      (hd Try.f8 (14 : Nat)) (Stk.mk none false (0 : Nat) [] (0 : Nat)))))
                                                                (Tree.at
                                                                  (Cfg.mk (sl (170 : Nat) [((3 : Nat), AV.ptr (0 : Nat) (0 : Nat)), ((7 : Nat), AV.ptr (1 : Nat) (0 : Nat)), ((16 : Nat), AV.ptr (2 : Nat) (0 : Nat)), ((17 : Nat), AV.ptr (3 : Nat) (0 : Nat)), ((22 : Nat), AV.s (SV.bool false)), ((23 : Nat), AV.s (SV.int IntKind.i64 (0 : Int)))])
                                                                    [AObj.own [AV.s (SV.bool l), AV.s (SV.ro (Con.typ [CK.str, CK.str] es)), AV.s (SV.ro (Con.typ [CK.str, CK.int IntKind.i64] bs))] (25 : Nat), AObj.own [AV.s (SV.bool l), AV.vec (4 : Nat), AV.vec (5 : Nat)] (31 : Nat), AObj.own [AV.s (SV.bool (spL l es bs)), AV.vec (6 : Nat), AV.vec (7 : Nat)] (31 : Nat), AObj.own [AV.s (SV.bool (spL l es bs)), AV.vec (8 : Nat), AV.vec (9 : Nat)] (31 : Nat), AObj.vec (Con.typ [CK.str, CK.str] es) (59 : Nat), AObj.vec (Con.typ [CK.str, CK.int IntKind.i64] bs) (36 : Nat), AObj.vec (Con.typ [CK.str, CK.str] (spE1 l ((fun (h : PLift ([CK.str, CK.str] = cE)) => castL h es) (PLift.up (Eq.mpr (id (congrArg (fun (_a : CK) => [_a, CK.str] = [CK.str, CK.str]) (PLift.up rfl).down)) (Eq.mpr (id (congrArg (fun (_a : List CK) => CK.str :: _a = [CK.str, CK.str]) (PLift.up (Eq.mpr (id (congrArg (fun (_a : CK) => [_a] = [CK.str]) (PLift.up rfl).down)) (Eq.mpr (id (congrArg (fun (_a : List CK) => CK.str :: _a = [CK.str]) (PLift.up rfl).down)) (Eq.refl [CK.str])))).down)) (Eq.refl [CK.str, CK.str]))))) ((fun (h : PLift ([CK.str, CK.int IntKind.i64] = cB)) => castL h bs) (PLift.up (Eq.mpr (id (congrArg (fun (_a : CK) => [_a, CK.int IntKind.i64] = [CK.str, CK.int IntKind.i64]) (PLift.up rfl).down)) (Eq.mpr (id (congrArg (fun (_a : List CK) => CK.str :: _a = [CK.str, CK.int IntKind.i64]) (PLift.up (Eq.mpr (id (congrArg (fun (_a : CK) => [_a] = [CK.int IntKind.i64]) ((fun (h : PLift (IntKind.i64 = IntKind.i64)) => PLift.up (congrArg CK.int h.down)) (PLift.up (instDecidableEqIntKind._proof_1 IntKind.i64 IntKind.i64 (Nat.eq_of_beq_eq_true (Eq.refl (IntKind.i64.ctorIdx.beq IntKind.i64.ctorIdx)))))).down)) (Eq.mpr (id (congrArg (fun (_a : List CK) => CK.int IntKind.i64 :: _a = [CK.int IntKind.i64]) (PLift.up rfl).down)) (Eq.refl [CK.int IntKind.i64])))).down)) (Eq.refl [CK.str, CK.int IntKind.i64]))))))) (59 : Nat), AObj.vec (Con.typ [CK.str, CK.int IntKind.i64] (spB1 l ((fun (h : PLift ([CK.str, CK.str] = cE)) => castL h es) (PLift.up (Eq.mpr (id (congrArg (fun (_a : CK) => [_a, CK.str] = [CK.str, CK.str]) (PLift.up rfl).down)) (Eq.mpr (id (congrArg (fun (_a : List CK) => CK.str :: _a = [CK.str, CK.str]) (PLift.up (Eq.mpr (id (congrArg (fun (_a : CK) => [_a] = [CK.str]) (PLift.up rfl).down)) (Eq.mpr (id (congrArg (fun (_a : List CK) => CK.str :: _a = [CK.str]) (PLift.up rfl).down)) (Eq.refl [CK.str])))).down)) (Eq.refl [CK.str, CK.str]))))) ((fun (h : PLift ([CK.str, CK.int IntKind.i64] = cB)) => castL h bs) (PLift.up (Eq.mpr (id (congrArg (fun (_a : CK) => [_a, CK.int IntKind.i64] = [CK.str, CK.int IntKind.i64]) (PLift.up rfl).down)) (Eq.mpr (id (congrArg (fun (_a : List CK) => CK.str :: _a = [CK.str, CK.int IntKind.i64]) (PLift.up (Eq.mpr (id (congrArg (fun (_a : CK) => [_a] = [CK.int IntKind.i64]) ((fun (h : PLift (IntKind.i64 = IntKind.i64)) => PLift.up (congrArg CK.int h.down)) (PLift.up (instDecidableEqIntKind._proof_1 IntKind.i64 IntKind.i64 (Nat.eq_of_beq_eq_true (Eq.refl (IntKind.i64.ctorIdx.beq IntKind.i64.ctorIdx)))))).down)) (Eq.mpr (id (congrArg (fun (_a : List CK) => CK.int IntKind.i64 :: _a = [CK.int IntKind.i64]) (PLift.up rfl).down)) (Eq.refl [CK.int IntKind.i64])))).down)) (Eq.refl [CK.str, CK.int IntKind.i64]))))))) (36 : Nat),
                                                                      AObj.vec (Con.typ [CK.str, CK.str] (spE2 l ((fun (h : PLift ([CK.str, CK.str] = cE)) => castL h es) (PLift.up (Eq.mpr (id (congrArg (fun (_a : CK) => [_a, CK.str] = [CK.str, CK.str]) (PLift.up rfl).down)) (Eq.mpr (id (congrArg (fun (_a : List CK) => CK.str :: _a = [CK.str, CK.str]) (PLift.up (Eq.mpr (id (congrArg (fun (_a : CK) => [_a] = [CK.str]) (PLift.up rfl).down)) (Eq.mpr (id (congrArg (fun (_a : List CK) => CK.str :: _a = [CK.str]) (PLift.up rfl).down)) (Eq.refl [CK.str])))).down)) (Eq.refl [CK.str, CK.str]))))) ((fun (h : PLift ([CK.str, CK.int IntKind.i64] = cB)) => castL h bs) (PLift.up (Eq.mpr (id (congrArg (fun (_a : CK) => [_a, CK.int IntKind.i64] = [CK.str, CK.int IntKind.i64]) (PLift.up rfl).down)) (Eq.mpr (id (congrArg (fun (_a : List CK) => CK.str :: _a = [CK.str, CK.int IntKind.i64]) (PLift.up (Eq.mpr (id (congrArg (fun (_a : CK) => [_a] = [CK.int IntKind.i64]) ((fun (h : PLift (IntKind.i64 = IntKind.i64)) => PLift.up (congrArg CK.int h.down)) (PLift.up (instDecidableEqIntKind._proof_1 IntKind.i64 IntKind.i64 (Nat.eq_of_beq_eq_true (Eq.refl (IntKind.i64.ctorIdx.beq IntKind.i64.ctorIdx)))))).down)) (Eq.mpr (id (congrArg (fun (_a : List CK) => CK.int IntKind.i64 :: _a = [CK.int IntKind.i64]) (PLift.up rfl).down)) (Eq.refl [CK.int IntKind.i64])))).down)) (Eq.refl [CK.str, CK.int IntKind.i64]))))))) (59 : Nat), AObj.vec (Con.typ [CK.str, CK.int IntKind.i64] (spB2 l ((fun (h : PLift ([CK.str, CK.str] = cE)) => castL h es) (PLift.up (Eq.mpr (id (congrArg (fun (_a : CK) => [_a, CK.str] = [CK.str, CK.str]) (PLift.up rfl).down)) (Eq.mpr (id (congrArg (fun (_a : List CK) => CK.str :: _a = [CK.str, CK.str]) (PLift.up (Eq.mpr (id (congrArg (fun (_a : CK) => [_a] = [CK.str]) (PLift.up rfl).down)) (Eq.mpr (id (congrArg (fun (_a : List CK) => CK.str :: _a = [CK.str]) (PLift.up rfl).down)) (Eq.refl [CK.str])))).down)) (Eq.refl [CK.str, CK.str]))))) ((fun (h : PLift ([CK.str, CK.int IntKind.i64] = cB)) => castL h bs) (PLift.up (Eq.mpr (id (congrArg (fun (_a : CK) => [_a, CK.int IntKind.i64] = [CK.str, CK.int IntKind.i64]) (PLift.up rfl).down)) (Eq.mpr (id (congrArg (fun (_a : List CK) => CK.str :: _a = [CK.str, CK.int IntKind.i64]) (PLift.up (Eq.mpr (id (congrArg (fun (_a : CK) => [_a] = [CK.int IntKind.i64]) ((fun (h : PLift (IntKind.i64 = IntKind.i64)) => PLift.up (congrArg CK.int h.down)) (PLift.up (instDecidableEqIntKind._proof_1 IntKind.i64 IntKind.i64 (Nat.eq_of_beq_eq_true (Eq.refl (IntKind.i64.ctorIdx.beq IntKind.i64.ctorIdx)))))).down)) (Eq.mpr (id (congrArg (fun (_a : List CK) => CK.int IntKind.i64 :: _a = [CK.int IntKind.i64]) (PLift.up rfl).down)) (Eq.refl [CK.int IntKind.i64])))).down)) (Eq.refl [CK.str, CK.int IntKind.i64]))))))) (36 : Nat)]
                                                                    (hd Try.f8 (14 : Nat)) (Stk.mk none false (0 : Nat) [] (0 : Nat)))))))
                                                          (Tree.at
                                                            (Cfg.mk (sl (170 : Nat) [((3 : Nat), AV.ptr (0 : Nat) (0 : Nat)), ((7 : Nat), AV.ptr (1 : Nat) (0 : Nat)), ((16 : Nat), AV.ptr (2 : Nat) (0 : Nat)), ((17 : Nat), AV.ptr (3 : Nat) (0 : Nat)), ((22 : Nat), AV.s (SV.bool false)), ((23 : Nat), AV.s (SV.int IntKind.i64 (0 : Int)))])
                                                              [AObj.own [AV.s (SV.bool l), AV.s (SV.ro (Con.typ [CK.str, CK.str] es)), AV.s (SV.ro (Con.typ [CK.str, CK.int IntKind.i64] bs))] (25 : Nat), AObj.own [AV.s (SV.bool l), AV.vec (4 : Nat), AV.vec (5 : Nat)] (31 : Nat), AObj.own [AV.s (SV.bool (spL l es bs)), AV.vec (6 : Nat), AV.vec (7 : Nat)] (31 : Nat), AObj.own [AV.s (SV.bool (spL l es bs)), AV.vec (8 : Nat), AV.vec (9 : Nat)] (31 : Nat), AObj.vec (Con.typ [CK.str, CK.str] es) (59 : Nat), AObj.vec (Con.typ [CK.str, CK.int IntKind.i64] bs) (36 : Nat), AObj.vec (Con.typ [CK.str, CK.str] (spE1 l ((fun (h : PLift ([CK.str, CK.str] = cE)) => castL h es) (PLift.up (Eq.mpr (id (congrArg (fun (_a : CK) => [_a, CK.str] = [CK.str, CK.str]) (PLift.up rfl).down)) (Eq.mpr (id (congrArg (fun (_a : List CK) => CK.str :: _a = [CK.str, CK.str]) (PLift.up (Eq.mpr (id (congrArg (fun (_a : CK) => [_a] = [CK.str]) (PLift.up rfl).down)) (Eq.mpr (id (congrArg (fun (_a : List CK) => CK.str :: _a = [CK.str]) (PLift.up rfl).down)) (Eq.refl [CK.str])))).down)) (Eq.refl [CK.str, CK.str]))))) ((fun (h : PLift ([CK.str, CK.int IntKind.i64] = cB)) => castL h bs) (PLift.up (Eq.mpr (id (congrArg (fun (_a : CK) => [_a, CK.int IntKind.i64] = [CK.str, CK.int IntKind.i64]) (PLift.up rfl).down)) (Eq.mpr (id (congrArg (fun (_a : List CK) => CK.str :: _a = [CK.str, CK.int IntKind.i64]) (PLift.up (Eq.mpr (id (congrArg (fun (_a : CK) => [_a] = [CK.int IntKind.i64]) ((fun (h : PLift (IntKind.i64 = IntKind.i64)) => PLift.up (congrArg CK.int h.down)) (PLift.up (instDecidableEqIntKind._proof_1 IntKind.i64 IntKind.i64 (Nat.eq_of_beq_eq_true (Eq.refl (IntKind.i64.ctorIdx.beq IntKind.i64.ctorIdx)))))).down)) (Eq.mpr (id (congrArg (fun (_a : List CK) => CK.int IntKind.i64 :: _a = [CK.int IntKind.i64]) (PLift.up rfl).down)) (Eq.refl [CK.int IntKind.i64])))).down)) (Eq.refl [CK.str, CK.int IntKind.i64]))))))) (59 : Nat), AObj.vec (Con.typ [CK.str, CK.int IntKind.i64] (spB1 l ((fun (h : PLift ([CK.str, CK.str] = cE)) => castL h es) (PLift.up (Eq.mpr (id (congrArg (fun (_a : CK) => [_a, CK.str] = [CK.str, CK.str]) (PLift.up rfl).down)) (Eq.mpr (id (congrArg (fun (_a : List CK) => CK.str :: _a = [CK.str, CK.str]) (PLift.up (Eq.mpr (id (congrArg (fun (_a : CK) => [_a] = [CK.str]) (PLift.up rfl).down)) (Eq.mpr (id (congrArg (fun (_a : List CK) => CK.str :: _a = [CK.str]) (PLift.up rfl).down)) (Eq.refl [CK.str])))).down)) (Eq.refl [CK.str, CK.str]))))) ((fun (h : PLift ([CK.str, CK.int IntKind.i64] = cB)) => castL h bs) (PLift.up (Eq.mpr (id (congrArg (fun (_a : CK) => [_a, CK.int IntKind.i64] = [CK.str, CK.int IntKind.i64]) (PLift.up rfl).down)) (Eq.mpr (id (congrArg (fun (_a : List CK) => CK.str :: _a = [CK.str, CK.int IntKind.i64]) (PLift.up (Eq.mpr (id (congrArg (fun (_a : CK) => [_a] = [CK.int IntKind.i64]) ((fun (h : PLift (IntKind.i64 = IntKind.i64)) => PLift.up (congrArg CK.int h.down)) (PLift.up (instDecidableEqIntKind._proof_1 IntKind.i64 IntKind.i64 (Nat.eq_of_beq_eq_true (Eq.refl (IntKind.i64.ctorIdx.beq IntKind.i64.ctorIdx)))))).down)) (Eq.mpr (id (congrArg (fun (_a : List CK) => CK.int IntKind.i64 :: _a = [CK.int IntKind.i64]) (PLift.up rfl).down)) (Eq.refl [CK.int IntKind.i64])))).down)) (Eq.refl [CK.str, CK.int IntKind.i64]))))))) (36 : Nat),
                                                                AObj.vec (Con.typ [CK.str, CK.str] (spE2 l ((fun (h : PLift ([CK.str, CK.str] = cE)) => castL h es) (PLift.up (Eq.mpr (id (congrArg (fun (_a : CK) => [_a, CK.str] = [CK.str, CK.str]) (PLift.up rfl).down)) (Eq.mpr (id (congrArg (fun (_a : List CK) => CK.str :: _a = [CK.str, CK.str]) (PLift.up (Eq.mpr (id (congrArg (fun (_a : CK) => [_a] = [CK.str]) (PLift.up rfl).down)) (Eq.mpr (id (congrArg (fun (_a : List CK) => CK.str :: _a = [CK.str]) (PLift.up rfl).down)) (Eq.refl [CK.str])))).down)) (Eq.refl [CK.str, CK.str]))))) ((fun (h : PLift ([CK.str, CK.int IntKind.i64] = cB)) => castL h bs) (PLift.up (Eq.mpr (id (congrArg (fun (_a : CK) => [_a, CK.int IntKind.i64] = [CK.str, CK.int IntKind.i64]) (PLift.up rfl).down)) (Eq.mpr (id (congrArg (fun (_a : List CK) => CK.str :: _a = [CK.str, CK.int IntKind.i64]) (PLift.up (Eq.mpr (id (congrArg (fun (_a : CK) => [_a] = [CK.int IntKind.i64]) ((fun (h : PLift (IntKind.i64 = IntKind.i64)) => PLift.up (congrArg CK.int h.down)) (PLift.up (instDecidableEqIntKind._proof_1 IntKind.i64 IntKind.i64 (Nat.eq_of_beq_eq_true (Eq.refl (IntKind.i64.ctorIdx.beq IntKind.i64.ctorIdx)))))).down)) (Eq.mpr (id (congrArg (fun (_a : List CK) => CK.int IntKind.i64 :: _a = [CK.int IntKind.i64]) (PLift.up rfl).down)) (Eq.refl [CK.int IntKind.i64])))).down)) (Eq.refl [CK.str, CK.int IntKind.i64]))))))) (59 : Nat), AObj.vec (Con.typ [CK.str, CK.int IntKind.i64] (spB2 l ((fun (h : PLift ([CK.str, CK.str] = cE)) => castL h es) (PLift.up (Eq.mpr (id (congrArg (fun (_a : CK) => [_a, CK.str] = [CK.str, CK.str]) (PLift.up rfl).down)) (Eq.mpr (id (congrArg (fun (_a : List CK) => CK.str :: _a = [CK.str, CK.str]) (PLift.up (Eq.mpr (id (congrArg (fun (_a : CK) => [_a] = [CK.str]) (PLift.up rfl).down)) (Eq.mpr (id (congrArg (fun (_a : List CK) => CK.str :: _a = [CK.str]) (PLift.up rfl).down)) (Eq.refl [CK.str])))).down)) (Eq.refl [CK.str, CK.str]))))) ((fun (h : PLift ([CK.str, CK.int IntKind.i64] = cB)) => castL h bs) (PLift.up (Eq.mpr (id (congrArg (fun (_a : CK) => [_a, CK.int IntKind.i64] = [CK.str, CK.int IntKind.i64]) (PLift.up rfl).down)) (Eq.mpr (id (congrArg (fun (_a : List CK) => CK.str :: _a = [CK.str, CK.int IntKind.i64]) (PLift.up (Eq.mpr (id (congrArg (fun (_a : CK) => [_a] = [CK.int IntKind.i64]) ((fun (h : PLift (IntKind.i64 = IntKind.i64)) => PLift.up (congrArg CK.int h.down)) (PLift.up (instDecidableEqIntKind._proof_1 IntKind.i64 IntKind.i64 (Nat.eq_of_beq_eq_true (Eq.refl (IntKind.i64.ctorIdx.beq IntKind.i64.ctorIdx)))))).down)) (Eq.mpr (id (congrArg (fun (_a : List CK) => CK.int IntKind.i64 :: _a = [CK.int IntKind.i64]) (PLift.up rfl).down)) (Eq.refl [CK.int IntKind.i64])))).down)) (Eq.refl [CK.str, CK.int IntKind.i64]))))))) (36 : Nat)]
                                                              (hd Try.f8 (14 : Nat)) (Stk.mk none false (0 : Nat) [] (0 : Nat)))))
                                                        (Tree.at
                                                          (Cfg.mk (sl (170 : Nat) [((3 : Nat), AV.ptr (0 : Nat) (0 : Nat)), ((7 : Nat), AV.ptr (1 : Nat) (0 : Nat)), ((16 : Nat), AV.ptr (2 : Nat) (0 : Nat)), ((17 : Nat), AV.ptr (3 : Nat) (0 : Nat)), ((22 : Nat), AV.s (SV.bool false)), ((23 : Nat), AV.s (SV.int IntKind.i64 (0 : Int)))])
                                                            [AObj.own [AV.s (SV.bool l), AV.s (SV.ro (Con.typ [CK.str, CK.str] es)), AV.s (SV.ro (Con.typ [CK.str, CK.int IntKind.i64] bs))] (25 : Nat), AObj.own [AV.s (SV.bool l), AV.vec (4 : Nat), AV.vec (5 : Nat)] (31 : Nat), AObj.own [AV.s (SV.bool (spL l es bs)), AV.vec (6 : Nat), AV.vec (7 : Nat)] (31 : Nat), AObj.own [AV.s (SV.bool (spL l es bs)), AV.vec (8 : Nat), AV.vec (9 : Nat)] (31 : Nat), AObj.vec (Con.typ [CK.str, CK.str] es) (59 : Nat), AObj.vec (Con.typ [CK.str, CK.int IntKind.i64] bs) (36 : Nat), AObj.vec (Con.typ [CK.str, CK.str] (spE1 l ((fun (h : PLift ([CK.str, CK.str] = cE)) => castL h es) (PLift.up (Eq.mpr (id (congrArg (fun (_a : CK) => [_a, CK.str] = [CK.str, CK.str]) (PLift.up rfl).down)) (Eq.mpr (id (congrArg (fun (_a : List CK) => CK.str :: _a = [CK.str, CK.str]) (PLift.up (Eq.mpr (id (congrArg (fun (_a : CK) => [_a] = [CK.str]) (PLift.up rfl).down)) (Eq.mpr (id (congrArg (fun (_a : List CK) => CK.str :: _a = [CK.str]) (PLift.up rfl).down)) (Eq.refl [CK.str])))).down)) (Eq.refl [CK.str, CK.str]))))) ((fun (h : PLift ([CK.str, CK.int IntKind.i64] = cB)) => castL h bs) (PLift.up (Eq.mpr (id (congrArg (fun (_a : CK) => [_a, CK.int IntKind.i64] = [CK.str, CK.int IntKind.i64]) (PLift.up rfl).down)) (Eq.mpr (id (congrArg (fun (_a : List CK) => CK.str :: _a = [CK.str, CK.int IntKind.i64]) (PLift.up (Eq.mpr (id (congrArg (fun (_a : CK) => [_a] = [CK.int IntKind.i64]) ((fun (h : PLift (IntKind.i64 = IntKind.i64)) => PLift.up (congrArg CK.int h.down)) (PLift.up (instDecidableEqIntKind._proof_1 IntKind.i64 IntKind.i64 (Nat.eq_of_beq_eq_true (Eq.refl (IntKind.i64.ctorIdx.beq IntKind.i64.ctorIdx)))))).down)) (Eq.mpr (id (congrArg (fun (_a : List CK) => CK.int IntKind.i64 :: _a = [CK.int IntKind.i64]) (PLift.up rfl).down)) (Eq.refl [CK.int IntKind.i64])))).down)) (Eq.refl [CK.str, CK.int IntKind.i64]))))))) (59 : Nat), AObj.vec (Con.typ [CK.str, CK.int IntKind.i64] (spB1 l ((fun (h : PLift ([CK.str, CK.str] = cE)) => castL h es) (PLift.up (Eq.mpr (id (congrArg (fun (_a : CK) => [_a, CK.str] = [CK.str, CK.str]) (PLift.up rfl).down)) (Eq.mpr (id (congrArg (fun (_a : List CK) => CK.str :: _a = [CK.str, CK.str]) (PLift.up (Eq.mpr (id (congrArg (fun (_a : CK) => [_a] = [CK.str]) (PLift.up rfl).down)) (Eq.mpr (id (congrArg (fun (_a : List CK) => CK.str :: _a = [CK.str]) (PLift.up rfl).down)) (Eq.refl [CK.str])))).down)) (Eq.refl [CK.str, CK.str]))))) ((fun (h : PLift ([CK.str, CK.int IntKind.i64] = cB)) => castL h bs) (PLift.up (Eq.mpr (id (congrArg (fun (_a : CK) => [_a, CK.int IntKind.i64] = [CK.str, CK.int IntKind.i64]) (PLift.up rfl).down)) (Eq.mpr (id (congrArg (fun (_a : List CK) => CK.str :: _a = [CK.str, CK.int IntKind.i64]) (PLift.up (Eq.mpr (id (congrArg (fun (_a : CK) => [_a] = [CK.int IntKind.i64]) ((fun (h : PLift (IntKind.i64 = IntKind.i64)) => PLift.up (congrArg CK.int h.down)) (PLift.up (instDecidableEqIntKind._proof_1 IntKind.i64 IntKind.i64 (Nat.eq_of_beq_eq_true (Eq.refl (IntKind.i64.ctorIdx.beq IntKind.i64.ctorIdx)))))).down)) (Eq.mpr (id (congrArg (fun (_a : List CK) => CK.int IntKind.i64 :: _a = [CK.int IntKind.i64]) (PLift.up rfl).down)) (Eq.refl [CK.int IntKind.i64])))).down)) (Eq.refl [CK.str, CK.int IntKind.i64]))))))) (36 : Nat),
                                                              AObj.vec (Con.typ [CK.str, CK.str] (spE2 l ((fun (h : PLift ([CK.str, CK.str] = cE)) => castL h es) (PLift.up (Eq.mpr (id (congrArg (fun (_a : CK) => [_a, CK.str] = [CK.str, CK.str]) (PLift.up rfl).down)) (Eq.mpr (id (congrArg (fun (_a : List CK) => CK.str :: _a = [CK.str, CK.str]) (PLift.up (Eq.mpr (id (congrArg (fun (_a : CK) => [_a] = [CK.str]) (PLift.up rfl).down)) (Eq.mpr (id (congrArg (fun (_a : List CK) => CK.str :: _a = [CK.str]) (PLift.up rfl).down)) (Eq.refl [CK.str])))).down)) (Eq.refl [CK.str, CK.str]))))) ((fun (h : PLift ([CK.str, CK.int IntKind.i64] = cB)) => castL h bs) (PLift.up (Eq.mpr (id (congrArg (fun (_a : CK) => [_a, CK.int IntKind.i64] = [CK.str, CK.int IntKind.i64]) (PLift.up rfl).down)) (Eq.mpr (id (congrArg (fun (_a : List CK) => CK.str :: _a = [CK.str, CK.int IntKind.i64]) (PLift.up (Eq.mpr (id (congrArg (fun (_a : CK) => [_a] = [CK.int IntKind.i64]) ((fun (h : PLift (IntKind.i64 = IntKind.i64)) => PLift.up (congrArg CK.int h.down)) (PLift.up (instDecidableEqIntKind._proof_1 IntKind.i64 IntKind.i64 (Nat.eq_of_beq_eq_true (Eq.refl (IntKind.i64.ctorIdx.beq IntKind.i64.ctorIdx)))))).down)) (Eq.mpr (id (congrArg (fun (_a : List CK) => CK.int IntKind.i64 :: _a = [CK.int IntKind.i64]) (PLift.up rfl).down)) (Eq.refl [CK.int IntKind.i64])))).down)) (Eq.refl [CK.str, CK.int IntKind.i64]))))))) (59 : Nat), AObj.vec (Con.typ [CK.str, CK.int IntKind.i64] (spB2 l ((fun (h : PLift ([CK.str, CK.str] = cE)) => castL h es) (PLift.up (Eq.mpr (id (congrArg (fun (_a : CK) => [_a, CK.str] = [CK.str, CK.str]) (PLift.up rfl).down)) (Eq.mpr (id (congrArg (fun (_a : List CK) => CK.str :: _a = [CK.str, CK.str]) (PLift.up (Eq.mpr (id (congrArg (fun (_a : CK) => [_a] = [CK.str]) (PLift.up rfl).down)) (Eq.mpr (id (congrArg (fun (_a : List CK) => CK.str :: _a = [CK.str]) (PLift.up rfl).down)) (Eq.refl [CK.str])))).down)) (Eq.refl [CK.str, CK.str]))))) ((fun (h : PLift ([CK.str, CK.int IntKind.i64] = cB)) => castL h bs) (PLift.up (Eq.mpr (id (congrArg (fun (_a : CK) => [_a, CK.int IntKind.i64] = [CK.str, CK.int IntKind.i64]) (PLift.up rfl).down)) (Eq.mpr (id (congrArg (fun (_a : List CK) => CK.str :: _a = [CK.str, CK.int IntKind.i64]) (PLift.up (Eq.mpr (id (congrArg (fun (_a : CK) => [_a] = [CK.int IntKind.i64]) ((fun (h : PLift (IntKind.i64 = IntKind.i64)) => PLift.up (congrArg CK.int h.down)) (PLift.up (instDecidableEqIntKind._proof_1 IntKind.i64 IntKind.i64 (Nat.eq_of_beq_eq_true (Eq.refl (IntKind.i64.ctorIdx.beq IntKind.i64.ctorIdx)))))).down)) (Eq.mpr (id (congrArg (fun (_a : List CK) => CK.int IntKind.i64 :: _a = [CK.int IntKind.i64]) (PLift.up rfl).down)) (Eq.refl [CK.int IntKind.i64])))).down)) (Eq.refl [CK.str, CK.int IntKind.i64]))))))) (36 : Nat)]
                                                            (hd Try.f8 (14 : Nat)) (Stk.mk none false (0 : Nat) [] (0 : Nat))))))))))))))))))))))))))))))) := by kernel_rfl
noncomputable def hTe (l m : Bool) (es a c : List En) (bs b d : List Br) : List AObj := [obN l es bs eRN, .own [.s (.bool l), .vec 4, .vec 5] 31, .own [.s (.bool m), .vec 6, .vec 7] 31, .own [.s (.bool m), .vec 8, .vec 9] 31,
  .vec (.typ cE es) eE, .vec (.typ cB bs) eB, .vec (.typ cE a) eE, .vec (.typ cB b) eB, .vec (.typ cE c) eE, .vec (.typ cB d) eB]
noncomputable def cTe1 (l m k : Bool) (es a c : List En) (bs b d : List Br) (i : Int) : Cfg := ⟨sl 170 [(3, .ptr 0 0), (7, .ptr 1 0), (16, .ptr 2 0), (17, .ptr 3 0), (22, .s (.bool k)), (23, .s (.int .i64 i))], hTe l m es a c bs b d, hd Try.f8 14, {}⟩
theorem loopTe1 (l m k : Bool) (es a c : List En) (bs b d : List Br) (i : Int) : run P tabTe.sum Try.f8 nsTe (cTe1 l m k es a c bs b d i) =
  Tree.ite (decide (i < (↑a.length : Int))) (Tree.need ((0 : Int) ≤ i) (Tree.need (i < (↑a.length : Int)) (Tree.need (inI64 (i + (1 : Int))) (Tree.at (Cfg.mk (sl (170 : Nat) [((3 : Nat), AV.ptr (0 : Nat) (0 : Nat)), ((7 : Nat), AV.ptr (1 : Nat) (0 : Nat)), ((16 : Nat), AV.ptr (2 : Nat) (0 : Nat)), ((17 : Nat), AV.ptr (3 : Nat) (0 : Nat)), ((22 : Nat), AV.s (SV.bool k)), ((23 : Nat), AV.s (SV.int IntKind.i64 (i + (1 : Int))))]) [AObj.own [AV.s (SV.bool l), AV.s (SV.ro (Con.typ [CK.str, CK.str] es)), AV.s (SV.ro (Con.typ [CK.str, CK.int IntKind.i64] bs))] (25 : Nat), AObj.own [AV.s (SV.bool l), AV.vec (4 : Nat), AV.vec (5 : Nat)] (31 : Nat), AObj.own [AV.s (SV.bool m), AV.vec (6 : Nat), AV.vec (7 : Nat)] (31 : Nat), AObj.own [AV.s (SV.bool m), AV.vec (8 : Nat), AV.vec (9 : Nat)] (31 : Nat), AObj.vec (Con.typ [CK.str, CK.str] es) (59 : Nat), AObj.vec (Con.typ [CK.str, CK.int IntKind.i64] bs) (36 : Nat), AObj.vec (Con.typ [CK.str, CK.str] (a.set i.toNat ((a.getD i.toNat (CL.d [CK.str, CK.str])).fst, ByteArray.mk #[(115 : UInt8), (112 : UInt8), (111 : UInt8), (105 : UInt8), (108 : UInt8), (116 : UInt8)], (a.getD i.toNat (CL.d [CK.str, CK.str])).snd.snd))) (59 : Nat), AObj.vec (Con.typ [CK.str, CK.int IntKind.i64] b) (36 : Nat), AObj.vec (Con.typ [CK.str, CK.str] c) (59 : Nat), AObj.vec (Con.typ [CK.str, CK.int IntKind.i64] d) (36 : Nat)] (hd Try.f8 (14 : Nat)) (Stk.mk none false (0 : Nat) [] (0 : Nat))))))) (Tree.at (Cfg.mk (sl (170 : Nat) [((3 : Nat), AV.ptr (0 : Nat) (0 : Nat)), ((7 : Nat), AV.ptr (1 : Nat) (0 : Nat)), ((17 : Nat), AV.ptr (2 : Nat) (0 : Nat)), ((22 : Nat), AV.s (SV.bool k)), ((24 : Nat), AV.s (SV.int IntKind.i64 (0 : Int)))]) [AObj.own [AV.s (SV.bool l), AV.s (SV.ro (Con.typ [CK.str, CK.str] es)), AV.s (SV.ro (Con.typ [CK.str, CK.int IntKind.i64] bs))] (25 : Nat), AObj.own [AV.s (SV.bool l), AV.vec (3 : Nat), AV.vec (4 : Nat)] (31 : Nat), AObj.own [AV.s (SV.bool m), AV.vec (5 : Nat), AV.vec (6 : Nat)] (31 : Nat), AObj.vec (Con.typ [CK.str, CK.str] es) (59 : Nat), AObj.vec (Con.typ [CK.str, CK.int IntKind.i64] bs) (36 : Nat), AObj.vec (Con.typ [CK.str, CK.str] c) (59 : Nat), AObj.vec (Con.typ [CK.str, CK.int IntKind.i64] d) (36 : Nat)] (hd Try.f8 (18 : Nat)) (Stk.mk none false (0 : Nat) [] (0 : Nat)))) := by kernel_rfl
noncomputable def cTe2 (l m k : Bool) (es c : List En) (bs d : List Br) (i : Int) : Cfg := ⟨sl 170 [(3, .ptr 0 0), (7, .ptr 1 0), (17, .ptr 2 0), (22, .s (.bool k)), (24, .s (.int .i64 i))], [obN l es bs eRN, .own [.s (.bool l), .vec 3, .vec 4] 31, .own [.s (.bool m), .vec 5, .vec 6] 31,
  .vec (.typ cE es) eE, .vec (.typ cB bs) eB, .vec (.typ cE c) eE, .vec (.typ cB d) eB], hd Try.f8 18, {}⟩
theorem loopTe2 (l m k : Bool) (es c : List En) (bs d : List Br) (i : Int) : run P tabTe.sum Try.f8 nsTe (cTe2 l m k es c bs d i) =
  Tree.ite (decide (i < (↑d.length : Int))) (Tree.need ((0 : Int) ≤ i) (Tree.need (i < (↑d.length : Int)) (Tree.need (inI64 (i + (1 : Int))) (Tree.at (Cfg.mk (sl (170 : Nat) [((3 : Nat), AV.ptr (0 : Nat) (0 : Nat)), ((7 : Nat), AV.ptr (1 : Nat) (0 : Nat)), ((17 : Nat), AV.ptr (2 : Nat) (0 : Nat)), ((22 : Nat), AV.s (SV.bool k)), ((24 : Nat), AV.s (SV.int IntKind.i64 (i + (1 : Int))))]) [AObj.own [AV.s (SV.bool l), AV.s (SV.ro (Con.typ [CK.str, CK.str] es)), AV.s (SV.ro (Con.typ [CK.str, CK.int IntKind.i64] bs))] (25 : Nat), AObj.own [AV.s (SV.bool l), AV.vec (3 : Nat), AV.vec (4 : Nat)] (31 : Nat), AObj.own [AV.s (SV.bool m), AV.vec (5 : Nat), AV.vec (6 : Nat)] (31 : Nat), AObj.vec (Con.typ [CK.str, CK.str] es) (59 : Nat), AObj.vec (Con.typ [CK.str, CK.int IntKind.i64] bs) (36 : Nat), AObj.vec (Con.typ [CK.str, CK.str] c) (59 : Nat), AObj.vec (Con.typ [CK.str, CK.int IntKind.i64] (d.set i.toNat ((d.getD i.toNat (CL.d [CK.str, CK.int IntKind.i64])).fst, (-7 : Int), (d.getD i.toNat (CL.d [CK.str, CK.int IntKind.i64])).snd.snd))) (36 : Nat)] (hd Try.f8 (18 : Nat)) (Stk.mk none false (0 : Nat) [] (0 : Nat))))))) (Tree.ite k (Tree.need (es.length ≤ (100000 : Nat)) (Tree.need (bs.length ≤ (100000 : Nat)) (Tree.ite (sameN l es bs l es bs) (Tree.ret [AObj.own [AV.s (SV.bool l), AV.s (SV.ro (Con.typ [CK.str, CK.str] es)), AV.s (SV.ro (Con.typ [CK.str, CK.int IntKind.i64] bs))] (25 : Nat), AObj.own [AV.s (SV.bool l), AV.vec (3 : Nat), AV.vec (4 : Nat)] (31 : Nat), AObj.own [AV.s (SV.bool m), AV.vec (5 : Nat), AV.vec (6 : Nat)] (31 : Nat), AObj.vec (Con.typ [CK.str, CK.str] es) (59 : Nat), AObj.vec (Con.typ [CK.str, CK.int IntKind.i64] bs) (36 : Nat), AObj.vec (Con.typ [CK.str, CK.str] c) (59 : Nat), AObj.vec (Con.typ [CK.str, CK.int IntKind.i64] d) (36 : Nat), AObj.vec (Con.typ [CK.str, CK.str] es) (134 : Nat), AObj.vec (Con.typ [CK.str, CK.int IntKind.i64] bs) (135 : Nat)] (AV.s (SV.bool true))) (Tree.ret [AObj.own [AV.s (SV.bool l), AV.s (SV.ro (Con.typ [CK.str, CK.str] es)), AV.s (SV.ro (Con.typ [CK.str, CK.int IntKind.i64] bs))] (25 : Nat), AObj.own [AV.s (SV.bool l), AV.vec (3 : Nat), AV.vec (4 : Nat)] (31 : Nat), AObj.own [AV.s (SV.bool m), AV.vec (5 : Nat), AV.vec (6 : Nat)] (31 : Nat), AObj.vec (Con.typ [CK.str, CK.str] es) (59 : Nat), AObj.vec (Con.typ [CK.str, CK.int IntKind.i64] bs) (36 : Nat), AObj.vec (Con.typ [CK.str, CK.str] c) (59 : Nat), AObj.vec (Con.typ [CK.str, CK.int IntKind.i64] d) (36 : Nat), AObj.vec (Con.typ [CK.str, CK.str] es) (134 : Nat), AObj.vec (Con.typ [CK.str, CK.int IntKind.i64] bs) (135 : Nat)] (AV.s (SV.blit false)))))) (Tree.ret [AObj.own [AV.s (SV.bool l), AV.s (SV.ro (Con.typ [CK.str, CK.str] es)), AV.s (SV.ro (Con.typ [CK.str, CK.int IntKind.i64] bs))] (25 : Nat), AObj.own [AV.s (SV.bool l), AV.vec (3 : Nat), AV.vec (4 : Nat)] (31 : Nat), AObj.own [AV.s (SV.bool m), AV.vec (5 : Nat), AV.vec (6 : Nat)] (31 : Nat), AObj.vec (Con.typ [CK.str, CK.str] es) (59 : Nat), AObj.vec (Con.typ [CK.str, CK.int IntKind.i64] bs) (36 : Nat), AObj.vec (Con.typ [CK.str, CK.str] c) (59 : Nat), AObj.vec (Con.typ [CK.str, CK.int IntKind.i64] d) (36 : Nat)] (AV.s (SV.blit false)))) := by kernel_rfl
theorem tabTe_ok {Z : Glob} : tabTe.Ok P Z := Tab.Ok.cons large_ok.sum (Tab.Ok.cons awake_ok.sum (Tab.Ok.cons given_ok.sum (Tab.Ok.cons may_ok.sum (Tab.Ok.cons encode_ok.sum (Tab.Ok.cons dec_ok.sum (Tab.Ok.cons same_ok.sum (Tab.Ok.cons size_ok.sum (Tab.Ok.cons fits_ok.sum (Tab.Ok.cons split_ok.sum
  (Tab.Ok.cons rmay_ok.sum (Tab.Ok.cons renc_ok.sum (Tab.Ok.cons rdec_ok.sum (Tab.Ok.cons rsame_ok.sum (Tab.Ok.cons rsize_ok.sum (Tab.Ok.cons rfits_ok.sum (Tab.Ok.cons rsplit_ok.sum (Tab.Ok.cons told_ok.sum Tab.Ok.nil)))))))))))))))))
theorem yes_and {A B : Prop} {b : Bool} (hb : b = true) (h : A) : (b = true → A) ∧ (b = false → B) := ⟨fun _ => h, fun e => absurd (hb.symm.trans e) (by simp)⟩
theorem no_and {A B : Prop} {b : Bool} (hb : b = false) (h : B) : (b = true → A) ∧ (b = false → B) := ⟨fun e => absurd (hb.symm.trans e) (by simp), fun _ => h⟩
theorem dec_len (s : ByteArray) : (decE s).length ≤ 100000 ∧ (decB s).length ≤ 100000 := by
  by_cases h : decC s = 0
  · obtain ⟨h1, h2, _⟩ := enc_dec h
    exact ⟨by have := h1.1; omega, by have := h2.1; omega⟩
  · obtain ⟨_, h2, h3⟩ := dec_err h
    rw [h2, h3]; simp
theorem sp_len {l : Bool} {es : List En} {bs : List Br} (he : es.length ≤ 1000) (hb : bs.length ≤ 1000) : (spE1 l es bs).length ≤ 1000 ∧ (spB1 l es bs).length ≤ 1000 ∧ (spE2 l es bs).length ≤ 1000 ∧ (spB2 l es bs).length ≤ 1000 := by
  cases h : splOk l es bs
  · simp [spE1, spE2, spB1, spB2, h]
  · simp only [spE1, spE2, spB1, spB2, h, if_true, List.length_take, List.length_drop]; omega

theorem leafTells_ok {Z : Glob} : FnOk P Z 8 [tRN, tRN, tStr] [tBool] (fun _ => []) (fun _ => (true, ())) := by
  refine fnOk_of_safe Try.func8 (by kernel_rfl) (by kernel_rfl) ?_
  rintro ⟨⟨(l : Bool), (es : List En), (bs : List Br), ⟨⟩⟩, ⟨(l' : Bool), (es' : List En), (bs' : List Br), ⟨⟩⟩, (s : ByteArray), ⟨⟩⟩ _ _ X hX hz
  show Safe P 8 X (Ends [tBool] (true, ())) _
  have second : es.length ≤ 100000 → bs.length ≤ 100000 → ∀ (m : Bool) (c : List En) (n k : Nat) (d : List Br), d.length ≤ 100000 → k + n = d.length → Safe P 8 X (Ends [tBool] (true, ())) (cTe2 l m true es c bs d (k : Int)) := by
    intro he hb m c n
    induction n with
    | zero =>
      intro k d hd hk
      refine go hz hX tabTe_ok Try.func8 (loopTe2 l m true es c bs d k) ⟨fun h => absurd (of_decide_eq_true h) (by omega), fun h => ?_⟩
      exact yes_and rfl ⟨he, hb, yes_and (same_refl _ _ _) ends_b⟩
    | succ n ih =>
      intro k d hd hk
      refine go hz hX tabTe_ok Try.func8 (loopTe2 l m true es c bs d k) ⟨fun h => ⟨by omega, by omega, ⟨by omega, by omega⟩, ?_⟩, fun h => absurd (of_decide_eq_false h) (by omega)⟩
      exact ih (k + 1) _ (by rw [List.length_set]; exact hd) (by rw [List.length_set]; omega)
  have first : es.length ≤ 100000 → bs.length ≤ 100000 → ∀ (m : Bool) (c : List En) (b d : List Br), d.length ≤ 100000 → ∀ (n k : Nat) (a : List En), a.length ≤ 100000 → k + n = a.length → Safe P 8 X (Ends [tBool] (true, ())) (cTe1 l m true es a c bs b d (k : Int)) := by
    intro he hb m c b d hd n
    induction n with
    | zero =>
      intro k a ha hk
      refine go hz hX tabTe_ok Try.func8 (loopTe1 l m true es a c bs b d k) ⟨fun h => absurd (of_decide_eq_true h) (by omega), fun h => ?_⟩
      exact second he hb m c d.length 0 d hd (by omega)
    | succ n ih =>
      intro k a ha hk
      refine go hz hX tabTe_ok Try.func8 (loopTe1 l m true es a c bs b d k) ⟨fun h => ⟨by omega, by omega, ⟨by omega, by omega⟩, ?_⟩, fun h => absurd (of_decide_eq_false h) (by omega)⟩
      exact ih (k + 1) _ (by rw [List.length_set]; exact ha) (by rw [List.length_set]; omega)
  refine go hz hX tabTe_ok Try.func8 (treeTe l l' es es' bs bs' s) ⟨fun _ => ends_b, fun hL => ⟨fun _ => ends_b, fun hL' => ⟨fun _ => ends_b, fun hs => ?_⟩⟩⟩
  have hE := smallE_of hL
  have hB := smallB_of hL
  obtain ⟨hl1, hl2, _, _⟩ := notLarge hL
  obtain ⟨hl1', hl2', _, _⟩ := notLarge hL'
  obtain ⟨q1, q2⟩ := dec_len s
  obtain ⟨p1, p2, p3, p4⟩ := sp_len (l := l) hE.1 hB.1
  refine ⟨by omega, by omega, no_and (by simp) ⟨hE, hB, hE, hB, no_and (by simp) ⟨hE, hB, hE, hB, no_and (by simp) ⟨by omega, by omega, no_and (by simp) ⟨hE, hB, hE, hB, hE, hB, hE, hB, yes_and (by simp) (yes_and (by simp) ⟨q1, q2, yes_and (same_refl _ _ _) (yes_and (by simp) ⟨by omega, by omega, yes_and (same_refl _ _ _) ⟨by omega, by omega, yes_and (same_refl _ _ _) ?_⟩⟩)⟩)⟩⟩⟩⟩⟩
  rw [show (spC l es bs == spC l es bs) = true from by simp]
  exact first (by omega) (by omega) (spL l es bs) (spE2 l es bs) (spB1 l es bs) (spB2 l es bs) (by omega) (spE1 l es bs).length 0 (spE1 l es bs) (by omega) (by omega)
end Lf

namespace Lf
open Go Go.Sx Go.Proofs
def nsRFind : List (Nat × Norm) := [(2, ⟨[], [0, 1, 6], 0, []⟩)]
noncomputable def cRFind (l : List En) (key : ByteArray) (i : Int) : Cfg := ⟨sl 25 [(0, .s (.ro (.typ cE l))), (1, .s (.str key)), (6, .s (.int .i64 i))], [], hd Try.f49 2, {}⟩
theorem treeRFind (l : List En) (key : ByteArray) : run P tab0.sum Try.f49 nsRFind (start Try.f49 [.s (.ro (.typ cE l)), .s (.str key)] []) =
  Tree.at (Cfg.mk (sl (25 : Nat) [((0 : Nat), AV.s (SV.ro (Con.typ [CK.str, CK.str] l))), ((1 : Nat), AV.s (SV.str key)), ((6 : Nat), AV.s (SV.int IntKind.i64 (0 : Int)))]) [] (hd Try.f49 (2 : Nat)) (Stk.mk none false (0 : Nat) [] (0 : Nat))) := by kernel_rfl
theorem loopRFind (l : List En) (key : ByteArray) (i : Int) : run P tab0.sum Try.f49 nsRFind (cRFind l key i) =
  Tree.ite (decide (i < (↑l.length : Int))) (Tree.need ((0 : Int) ≤ i) (Tree.need (i < (↑l.length : Int)) (Tree.ite (decide ((l.getD i.toNat (CL.d [CK.str, CK.str])).fst = key)) (Tree.need ((0 : Int) ≤ i) (Tree.need (i < (↑l.length : Int)) (Tree.ret [] (AV.tup [AV.s (SV.str (l.getD i.toNat (CL.d [CK.str, CK.str])).snd.fst), AV.s (SV.blit true)])))) (Tree.need (inI64 (i + (1 : Int))) (Tree.at (Cfg.mk (sl (25 : Nat) [((0 : Nat), AV.s (SV.ro (Con.typ [CK.str, CK.str] l))), ((1 : Nat), AV.s (SV.str key)), ((6 : Nat), AV.s (SV.int IntKind.i64 (i + (1 : Int))))]) [] (hd Try.f49 (2 : Nat)) (Stk.mk none false (0 : Nat) [] (0 : Nat)))))))) (Tree.ret [] (AV.tup [AV.s (SV.str ByteArray.empty), AV.s (SV.blit false)])) := by kernel_rfl
def nsRPut : List (Nat × Norm) := [(4, ⟨[(7, .typ cE [], eRE)], [0, 1, 2, 7, 8, 9], 0, []⟩)]
noncomputable def cRPut (l : List En) (key val : ByteArray) (out : List En) (dn : Bool) (i : Int) : Cfg := ⟨sl 56 [(0, .s (.ro (.typ cE l))), (1, .s (.str key)), (2, .s (.str val)), (7, .vec 0), (8, .s (.bool dn)), (9, .s (.int .i64 i))], [.vec (.typ cE out) eRE], hd Try.f54 4, {}⟩
theorem treeRPut (l : List En) (key val : ByteArray) : run P tab0.sum Try.f54 nsRPut (start Try.f54 [.s (.ro (.typ cE l)), .s (.str key), .s (.str val)] []) =
  Tree.at (Cfg.mk (sl (56 : Nat) [((0 : Nat), AV.s (SV.ro (Con.typ [CK.str, CK.str] l))), ((1 : Nat), AV.s (SV.str key)), ((2 : Nat), AV.s (SV.str val)), ((7 : Nat), AV.vec (0 : Nat)), ((8 : Nat), AV.s (SV.bool false)), ((9 : Nat), AV.s (SV.int IntKind.i64 (0 : Int)))]) [AObj.vec (Con.typ [CK.str, CK.str] []) (134 : Nat)] (hd Try.f54 (4 : Nat)) (Stk.mk none false (0 : Nat) [] (0 : Nat))) := by kernel_rfl
theorem loopRPut (l : List En) (key val : ByteArray) (out : List En) (dn : Bool) (i : Int) : run P tab0.sum Try.f54 nsRPut (cRPut l key val out dn i) =
  Tree.ite (decide (i < (↑l.length : Int))) (Tree.ite (!dn) (Tree.need ((0 : Int) ≤ i) (Tree.need (i < (↑l.length : Int)) (Tree.ite (!slt (l.getD i.toNat (CL.d [CK.str, CK.str])).fst key) (Tree.need (out.length + (1 : Nat) ≤ (4294967296 : Nat)) (Tree.need ((0 : Int) ≤ i) (Tree.need (i < (↑l.length : Int)) (Tree.ite (decide ((l.getD i.toNat (CL.d [CK.str, CK.str])).fst = key)) (Tree.need (inI64 (i + (1 : Int))) (Tree.at (Cfg.mk (sl (56 : Nat) [((0 : Nat), AV.s (SV.ro (Con.typ [CK.str, CK.str] l))), ((1 : Nat), AV.s (SV.str key)), ((2 : Nat), AV.s (SV.str val)), ((7 : Nat), AV.vec (0 : Nat)), ((8 : Nat), AV.s (SV.bool true)), ((9 : Nat), AV.s (SV.int IntKind.i64 (i + (1 : Int))))]) [AObj.vec (Con.typ [CK.str, CK.str] (out ++ [(key, val, ())])) (134 : Nat)] (hd Try.f54 (4 : Nat)) (Stk.mk none false (0 : Nat) [] (0 : Nat))))) (Tree.need ((0 : Int) ≤ i) (Tree.need (i < (↑l.length : Int)) (Tree.need ((out ++ [(key, val, ())]).length + (1 : Nat) ≤ (4294967296 : Nat)) (Tree.need (inI64 (i + (1 : Int))) (Tree.at (Cfg.mk (sl (56 : Nat) [((0 : Nat), AV.s (SV.ro (Con.typ [CK.str, CK.str] l))), ((1 : Nat), AV.s (SV.str key)), ((2 : Nat), AV.s (SV.str val)), ((7 : Nat), AV.vec (0 : Nat)), ((8 : Nat), AV.s (SV.bool true)), ((9 : Nat), AV.s (SV.int IntKind.i64 (i + (1 : Int))))]) [AObj.vec (Con.typ [CK.str, CK.str] (out ++ [(key, val, ())] ++ [((l.getD i.toNat (CL.d [CK.str, CK.str])).fst, (l.getD i.toNat (CL.d [CK.str, CK.str])).snd.fst, ())])) (134 : Nat)] (hd Try.f54 (4 : Nat)) (Stk.mk none false (0 : Nat) [] (0 : Nat)))))))))))) (Tree.need ((0 : Int) ≤ i) (Tree.need (i < (↑l.length : Int)) (Tree.need (out.length + (1 : Nat) ≤ (4294967296 : Nat)) (Tree.need (inI64 (i + (1 : Int))) (Tree.at (Cfg.mk (sl (56 : Nat) [((0 : Nat), AV.s (SV.ro (Con.typ [CK.str, CK.str] l))), ((1 : Nat), AV.s (SV.str key)), ((2 : Nat), AV.s (SV.str val)), ((7 : Nat), AV.vec (0 : Nat)), ((8 : Nat), AV.s (SV.bool dn)), ((9 : Nat), AV.s (SV.int IntKind.i64 (i + (1 : Int))))]) [AObj.vec (Con.typ [CK.str, CK.str] (out ++ [((l.getD i.toNat (CL.d [CK.str, CK.str])).fst, (l.getD i.toNat (CL.d [CK.str, CK.str])).snd.fst, ())])) (134 : Nat)] (hd Try.f54 (4 : Nat)) (Stk.mk none false (0 : Nat) [] (0 : Nat))))))))))) (Tree.need ((0 : Int) ≤ i) (Tree.need (i < (↑l.length : Int)) (Tree.need (out.length + (1 : Nat) ≤ (4294967296 : Nat)) (Tree.need (inI64 (i + (1 : Int))) (Tree.at (Cfg.mk (sl (56 : Nat) [((0 : Nat), AV.s (SV.ro (Con.typ [CK.str, CK.str] l))), ((1 : Nat), AV.s (SV.str key)), ((2 : Nat), AV.s (SV.str val)), ((7 : Nat), AV.vec (0 : Nat)), ((8 : Nat), AV.s (SV.bool dn)), ((9 : Nat), AV.s (SV.int IntKind.i64 (i + (1 : Int))))]) [AObj.vec (Con.typ [CK.str, CK.str] (out ++ [((l.getD i.toNat (CL.d [CK.str, CK.str])).fst, (l.getD i.toNat (CL.d [CK.str, CK.str])).snd.fst, ())])) (134 : Nat)] (hd Try.f54 (4 : Nat)) (Stk.mk none false (0 : Nat) [] (0 : Nat))))))))) (Tree.ite (!dn) (Tree.need (out.length + (1 : Nat) ≤ (4294967296 : Nat)) (Tree.ret [AObj.dead, AObj.vec (Con.typ [CK.str, CK.str] [(key, val, ())]) (134 : Nat), AObj.vec (Con.typ [CK.str, CK.str] (out ++ [(key, val, ())])) (134 : Nat)] (AV.vec (2 : Nat)))) (Tree.ret [AObj.vec (Con.typ [CK.str, CK.str] out) (134 : Nat)] (AV.vec (0 : Nat)))) := by kernel_rfl
def nsRDel : List (Nat × Norm) := [(3, ⟨[(6, .typ cE [], eRE)], [0, 1, 6, 7], 0, []⟩)]
noncomputable def cRDel (l : List En) (key : ByteArray) (out : List En) (i : Int) : Cfg := ⟨sl 34 [(0, .s (.ro (.typ cE l))), (1, .s (.str key)), (6, .vec 0), (7, .s (.int .i64 i))], [.vec (.typ cE out) eRE], hd Try.f52 3, {}⟩
theorem treeRDel (l : List En) (key : ByteArray) : run P tab0.sum Try.f52 nsRDel (start Try.f52 [.s (.ro (.typ cE l)), .s (.str key)] []) =
  Tree.at (Cfg.mk (sl (34 : Nat) [((0 : Nat), AV.s (SV.ro (Con.typ [CK.str, CK.str] l))), ((1 : Nat), AV.s (SV.str key)), ((6 : Nat), AV.vec (0 : Nat)), ((7 : Nat), AV.s (SV.int IntKind.i64 (0 : Int)))]) [AObj.vec (Con.typ [CK.str, CK.str] []) (134 : Nat)] (hd Try.f52 (3 : Nat)) (Stk.mk none false (0 : Nat) [] (0 : Nat))) := by kernel_rfl
theorem loopRDel (l : List En) (key : ByteArray) (out : List En) (i : Int) : run P tab0.sum Try.f52 nsRDel (cRDel l key out i) =
  Tree.ite (decide (i < (↑l.length : Int))) (Tree.need ((0 : Int) ≤ i) (Tree.need (i < (↑l.length : Int)) (Tree.ite (!decide ((l.getD i.toNat (CL.d [CK.str, CK.str])).fst = key)) (Tree.need ((0 : Int) ≤ i) (Tree.need (i < (↑l.length : Int)) (Tree.need (out.length + (1 : Nat) ≤ (4294967296 : Nat)) (Tree.need (inI64 (i + (1 : Int))) (Tree.at (Cfg.mk (sl (34 : Nat) [((0 : Nat), AV.s (SV.ro (Con.typ [CK.str, CK.str] l))), ((1 : Nat), AV.s (SV.str key)), ((6 : Nat), AV.vec (0 : Nat)), ((7 : Nat), AV.s (SV.int IntKind.i64 (i + (1 : Int))))]) [AObj.vec (Con.typ [CK.str, CK.str] (out ++ [((l.getD i.toNat (CL.d [CK.str, CK.str])).fst, (l.getD i.toNat (CL.d [CK.str, CK.str])).snd.fst, ())])) (134 : Nat)] (hd Try.f52 (3 : Nat)) (Stk.mk none false (0 : Nat) [] (0 : Nat)))))))) (Tree.need (inI64 (i + (1 : Int))) (Tree.at (Cfg.mk (sl (34 : Nat) [((0 : Nat), AV.s (SV.ro (Con.typ [CK.str, CK.str] l))), ((1 : Nat), AV.s (SV.str key)), ((6 : Nat), AV.vec (0 : Nat)), ((7 : Nat), AV.s (SV.int IntKind.i64 (i + (1 : Int))))]) [AObj.vec (Con.typ [CK.str, CK.str] out) (134 : Nat)] (hd Try.f52 (3 : Nat)) (Stk.mk none false (0 : Nat) [] (0 : Nat)))))))) (Tree.ret [AObj.vec (Con.typ [CK.str, CK.str] out) (134 : Nat)] (AV.tup [AV.vec (0 : Nat), AV.s (SV.bool (decide ((↑out.length : Int) < (↑l.length : Int))))])) := by kernel_rfl
def nsRPl : List (Nat × Norm) := [(3, ⟨[], [0, 1, 5, 6], 0, []⟩)]
noncomputable def cRPl (l : List Br) (key : ByteArray) (at_ i : Int) : Cfg := ⟨sl 22 [(0, .s (.ro (.typ cB l))), (1, .s (.str key)), (5, .s (.int .i64 at_)), (6, .s (.int .i64 i))], [], hd Try.f55 3, {}⟩
theorem treeRPl (l : List Br) (key : ByteArray) : run P tab0.sum Try.f55 nsRPl (start Try.f55 [.s (.ro (.typ cB l)), .s (.str key)] []) =
  Tree.at (Cfg.mk (sl (22 : Nat) [((0 : Nat), AV.s (SV.ro (Con.typ [CK.str, CK.int IntKind.i64] l))), ((1 : Nat), AV.s (SV.str key)), ((5 : Nat), AV.s (SV.int IntKind.i64 (0 : Int))), ((6 : Nat), AV.s (SV.int IntKind.i64 (0 : Int)))]) [] (hd Try.f55 (3 : Nat)) (Stk.mk none false (0 : Nat) [] (0 : Nat))) := by kernel_rfl
theorem loopRPl (l : List Br) (key : ByteArray) (at_ i : Int) : run P tab0.sum Try.f55 nsRPl (cRPl l key at_ i) =
  Tree.ite (decide (i < (↑l.length : Int))) (Tree.need ((0 : Int) ≤ i) (Tree.need (i < (↑l.length : Int)) (Tree.ite (slt (l.getD i.toNat (CL.d [CK.str, CK.int IntKind.i64])).fst key || decide ((l.getD i.toNat (CL.d [CK.str, CK.int IntKind.i64])).fst = key)) (Tree.need (inI64 (i + (1 : Int))) (Tree.at (Cfg.mk (sl (22 : Nat) [((0 : Nat), AV.s (SV.ro (Con.typ [CK.str, CK.int IntKind.i64] l))), ((1 : Nat), AV.s (SV.str key)), ((5 : Nat), AV.s (SV.int IntKind.i64 i)), ((6 : Nat), AV.s (SV.int IntKind.i64 (i + (1 : Int))))]) [] (hd Try.f55 (3 : Nat)) (Stk.mk none false (0 : Nat) [] (0 : Nat))))) (Tree.need (inI64 (i + (1 : Int))) (Tree.at (Cfg.mk (sl (22 : Nat) [((0 : Nat), AV.s (SV.ro (Con.typ [CK.str, CK.int IntKind.i64] l))), ((1 : Nat), AV.s (SV.str key)), ((5 : Nat), AV.s (SV.int IntKind.i64 at_)), ((6 : Nat), AV.s (SV.int IntKind.i64 (i + (1 : Int))))]) [] (hd Try.f55 (3 : Nat)) (Stk.mk none false (0 : Nat) [] (0 : Nat)))))))) (Tree.ret [] (AV.s (SV.int IntKind.i64 at_))) := by kernel_rfl
abbrev sSearch := sumOf [tEs, tStr] [tInt, tBool] (fun (l, _, ()) => [(l : List En).length ≤ 1000000, srt (ksE l)]) (fun (l, key, ()) => ((lbP (ksE l) key : Nat), atK (ksE l) key, ()))
def tabFind : Tab := [(104, sSearch)]
theorem treeFind (l : List En) (key : ByteArray) : run P tabFind.sum Try.f48 [] (start Try.f48 [.s (.ro (.typ cE l)), .s (.str key)] []) =
  Tree.need (l.length ≤ (1000000 : Nat)) (Tree.need (srt (ksE l)) (Tree.ite (!atK (ksE l) key) (Tree.ret [] (AV.tup [AV.s (SV.str ByteArray.empty), AV.s (SV.blit false)])) (Tree.need ((0 : Int) ≤ (↑(lbP (ksE l) key) : tInt.V)) (Tree.need ((↑(lbP (ksE l) key) : tInt.V) < (↑l.length : Int)) (Tree.ret [] (AV.tup [AV.s (SV.str (l.getD (Int.toNat (↑(lbP (ksE l) key) : tInt.V)) (CL.d [CK.str, CK.str])).snd.fst), AV.s (SV.blit true)])))))) := by kernel_rfl
theorem treeDelete (l : List En) (i j : Int) : run P tab0.sum Try.f107 [] (start Try.f107 [.vec 0, .s (.int .i64 i), .s (.int .i64 j)] [.vec (.typ cE l) eE]) =
  Tree.need ((0 : Int) ≤ i) (Tree.need (i ≤ j) (Tree.need (j ≤ (↑l.length : Int)) (Tree.need ((↑(0 : Nat) : Int) + (↑l.length : Int) ≤ (↑l.length : Int)) (Tree.ite (i == j) (Tree.ret [AObj.vec (Con.typ [CK.str, CK.str] l) (59 : Nat)] (AV.vec (0 : Nat))) (Tree.need ((0 : Int) ≤ (0 : Int)) (Tree.need ((0 : Int) ≤ i) (Tree.need ((↑(0 : Nat) : Int) + i ≤ (↑l.length : Int)) (Tree.need ((0 : Int) ≤ j) (Tree.need (j ≤ (↑l.length : Int)) (Tree.need ((↑(0 : Nat) : Int) + (↑l.length : Int) ≤ (↑l.length : Int)) (Tree.need ((0 : Nat) + (i.toNat - Int.toNat (0 : Int)) + (List.drop ((0 : Nat) + j.toNat) (List.take ((0 : Nat) + j.toNat + ((↑l.length : Int).toNat - j.toNat)) l)).length ≤ l.length) (Tree.need ((0 : Int) ≤ (↑(i.toNat - Int.toNat (0 : Int) + (List.drop ((0 : Nat) + j.toNat) (List.take ((0 : Nat) + j.toNat + ((↑l.length : Int).toNat - j.toNat)) l)).length) : Int)) (Tree.need ((↑(i.toNat - Int.toNat (0 : Int) + (List.drop ((0 : Nat) + j.toNat) (List.take ((0 : Nat) + j.toNat + ((↑l.length : Int).toNat - j.toNat)) l)).length) : Int) ≤ (↑l.length : Int)) (Tree.need ((↑(0 : Nat) : Int) + (↑l.length : Int) ≤ (↑(over l ((0 : Nat) + (i.toNat - Int.toNat (0 : Int))) (List.drop ((0 : Nat) + j.toNat) (List.take ((0 : Nat) + j.toNat + ((↑l.length : Int).toNat - j.toNat)) l)).length (List.drop ((0 : Nat) + j.toNat) (List.take ((0 : Nat) + j.toNat + ((↑l.length : Int).toNat - j.toNat)) l))).length : Int)) (Tree.ret [AObj.vec (Con.typ [CK.str, CK.str] (over (over l ((0 : Nat) + (i.toNat - Int.toNat (0 : Int))) (List.drop ((0 : Nat) + j.toNat) (List.take ((0 : Nat) + j.toNat + ((↑l.length : Int).toNat - j.toNat)) l)).length (List.drop ((0 : Nat) + j.toNat) (List.take ((0 : Nat) + j.toNat + ((↑l.length : Int).toNat - j.toNat)) l))) ((0 : Nat) + (↑(i.toNat - Int.toNat (0 : Int) + (List.drop ((0 : Nat) + j.toNat) (List.take ((0 : Nat) + j.toNat + ((↑l.length : Int).toNat - j.toNat)) l)).length) : Int).toNat) ((↑l.length : Int).toNat - (↑(i.toNat - Int.toNat (0 : Int) + (List.drop ((0 : Nat) + j.toNat) (List.take ((0 : Nat) + j.toNat + ((↑l.length : Int).toNat - j.toNat)) l)).length) : Int).toNat) (List.replicate ((↑l.length : Int).toNat - (↑(i.toNat - Int.toNat (0 : Int) + (List.drop ((0 : Nat) + j.toNat) (List.take ((0 : Nat) + j.toNat + ((↑l.length : Int).toNat - j.toNat)) l)).length) : Int).toNat) (CL.d [CK.str, CK.str])))) (59 : Nat)] (AV.part (0 : Nat) (0 : Nat) (i.toNat - Int.toNat (0 : Int) + (List.drop ((0 : Nat) + j.toNat) (List.take ((0 : Nat) + j.toNat + ((↑l.length : Int).toNat - j.toNat)) l)).length))))))))))))))))) := by kernel_rfl
theorem drop_cons {α : Type} {l : List α} {k : Nat} (d : α) (h : k < l.length) : l.drop k = l.getD k d :: l.drop (k + 1) := by rw [List.drop_eq_getElem_cons h, getD_lt h]
abbrev isK (key : ByteArray) (x : En) : Bool := decide (x.1 = key)
def fndE (l : List En) (key : ByteArray) : ByteArray := match l.find? (isK key) with | some x => x.2.1 | none => ByteArray.empty
def fndB (l : List En) (key : ByteArray) : Bool := (l.find? (isK key)).isSome
theorem ends_sb {L : List AObj} {s : ByteArray} {b : Bool} : Ends [tStr, tBool] (s, b, ()) L (.tup [.s (.str s), .s (.blit b)]) := rfl

theorem rfind_ok {Z : Glob} : FnOk P Z 49 [tREs, tStr] [tStr, tBool] (fun _ => []) (fun (l, key, ()) => (fndE l key, fndB l key, ())) := by
  refine fnOk_of_safe Try.func49 (by kernel_rfl) (by kernel_rfl) ?_
  rintro ⟨(l : List En), (key : ByteArray), ⟨⟩⟩ ⟨hl, _⟩ _ X hX hz
  have hl : l.length ≤ 9223372036854775807 := hl
  show Safe P 49 X (Ends [tStr, tBool] (fndE l key, fndB l key, ())) _
  have loop : ∀ (n k : Nat), k + n = l.length → l.find? (isK key) = (l.drop k).find? (isK key) → Safe P 49 X (Ends [tStr, tBool] (fndE l key, fndB l key, ())) (cRFind l key (k : Int)) := by
    intro n
    induction n with
    | zero =>
      intro k hk hp
      refine go hz hX Tab.Ok.nil Try.func49 (loopRFind l key k) ⟨fun h => absurd (of_decide_eq_true h) (by omega), fun h => ?_⟩
      have e : l.find? (isK key) = none := by rw [hp, List.drop_of_length_le (by omega)]; rfl
      have e1 : fndE l key = ByteArray.empty := by rw [fndE, e]
      have e2 : fndB l key = false := by rw [fndB, e]; rfl
      rw [e1, e2]; exact ends_sb
    | succ n ih =>
      intro k hk hp
      rw [drop_cons dE (by omega), List.find?_cons] at hp
      refine go hz hX Tab.Ok.nil Try.func49 (loopRFind l key k) ?_
      simp only [Int.toNat_natCast]
      refine ⟨fun h => ⟨by omega, by omega, fun h1 => ⟨by omega, by omega, ?_⟩, fun h1 => ⟨⟨by omega, by omega⟩, ?_⟩⟩, fun h => absurd (of_decide_eq_false h) (by omega)⟩
      · rw [show isK key (l.getD k dE) = true from h1] at hp
        have e1 : fndE l key = (l.getD k dE).2.1 := by rw [fndE, hp]
        have e2 : fndB l key = true := by rw [fndB, hp]; rfl
        rw [e1, e2]; exact ends_sb
      · rw [show isK key (l.getD k dE) = false from h1] at hp
        exact ih (k + 1) (by omega) hp
  exact go hz hX Tab.Ok.nil Try.func49 (treeRFind l key) (loop l.length 0 (by omega) rfl)

/-! the key in a risen row -/
theorem srt_inj {l : List En} (hs : srt (ksE l)) {i j : Nat} (hi : i < l.length) (hj : j < l.length) (h : (l.getD i dE).1 = (l.getD j dE).1) : i = j := by
  have hk : ∀ t, (ksE l).getD t ByteArray.empty = (l.getD t dE).1 := fun t => map_getD l keyE dE t
  have hn : (ksE l).length = l.length := List.length_map _
  rcases Nat.lt_trichotomy i j with h1 | h1 | h1
  · have := hs i j h1 (by omega); rw [hk, hk, h, slt_irrefl] at this; cases this
  · exact h1
  · have := hs j i h1 (by omega); rw [hk, hk, h, slt_irrefl] at this; cases this
theorem find_lb {l : List En} {key : ByteArray} (hs : srt (ksE l)) : fndB l key = atK (ksE l) key ∧ (atK (ksE l) key = true → lbP (ksE l) key < l.length ∧ fndE l key = (l.getD (lbP (ksE l) key) dE).2.1) := by
  have hk : ∀ t, (ksE l).getD t ByteArray.empty = (l.getD t dE).1 := fun t => map_getD l keyE dE t
  have hn : (ksE l).length = l.length := List.length_map _
  cases ha : atK (ksE l) key
  · refine ⟨?_, fun h => by cases h⟩
    cases hf : l.find? (isK key) with
    | none => rw [fndB, hf]; rfl
    | some x =>
      exfalso
      have h1 := List.find?_some hf
      obtain ⟨i, hi, rfl⟩ := List.getElem_of_mem (List.mem_of_find?_eq_some hf)
      have h1 : l[i].1 = key := of_decide_eq_true h1
      have h2 : (l.getD i dE).1 = key := by rw [getD_lt hi]; exact h1
      rcases Nat.lt_or_ge i (lbP (ksE l) key) with h3 | h3
      · have := lbP_lt h3; rw [hk, h2, slt_irrefl] at this; cases this
      · rcases Nat.eq_or_lt_of_le h3 with h4 | h4
        · have : atK (ksE l) key = true := atK_iff.2 ⟨by omega, by rw [hk, h4]; exact h2⟩
          rw [ha] at this; cases this
        · have h5 := lbP_ge hs (key := key) (t := lbP (ksE l) key) (Nat.le_refl _) (by omega)
          have h6 := hs _ _ h4 (by omega)
          rw [hk i, h2] at h6
          rw [h6] at h5; cases h5
  · obtain ⟨h1, h2⟩ := atK_iff.1 ha
    rw [hk] at h2
    rw [hn] at h1
    cases hf : l.find? (isK key) with
    | none =>
      exfalso
      have := List.find?_eq_none.1 hf (l.getD (lbP (ksE l) key) dE) (by rw [getD_lt h1]; exact List.getElem_mem _)
      exact this (decide_eq_true h2)
    | some x =>
      obtain ⟨i, hi, rfl⟩ := List.getElem_of_mem (List.mem_of_find?_eq_some hf)
      have h3 := List.find?_some hf
      have h3 : l[i].1 = key := of_decide_eq_true h3
      have e : i = lbP (ksE l) key := srt_inj hs hi h1 (by rw [h2, getD_lt hi]; exact h3)
      subst e
      exact ⟨by rw [fndB, hf]; rfl, fun _ => ⟨h1, by rw [fndE, hf, getD_lt hi]⟩⟩

theorem find_ok {Z : Glob} : FnOk P Z 48 [tEs, tStr] [tStr, tBool] (fun (l, _, ()) => [(l : List En).length ≤ 1000000, srt (ksE l)]) (fun (l, key, ()) => (fndE l key, fndB l key, ())) := by
  refine fnOk_of_safe Try.func48 (by kernel_rfl) (by kernel_rfl) ?_
  rintro ⟨(l : List En), (key : ByteArray), ⟨⟩⟩ _ ⟨(hl : l.length ≤ 1000000), (hs : srt (ksE l)), _⟩ X hX hz
  show Safe P 48 X (Ends [tStr, tBool] (fndE l key, fndB l key, ())) _
  obtain ⟨h1, h2⟩ := find_lb (key := key) hs
  refine go hz hX (Tab.Ok.cons search_ok.sum Tab.Ok.nil) Try.func48 (treeFind l key) ⟨hl, hs, fun h => ?_, fun h => ?_⟩
  · have h : atK (ksE l) key = false := by simpa using h
    have e2 : fndB l key = false := by rw [h1, h]
    have e1 : fndE l key = ByteArray.empty := by
      cases hf : l.find? (isK key) with
      | none => rw [fndE, hf]
      | some x => rw [fndB, hf] at e2; cases e2
    rw [e1, e2]; exact ends_sb
  · have h : atK (ksE l) key = true := by simpa using h
    obtain ⟨h3, h4⟩ := h2 h
    rw [h4, h1, h]
    refine ⟨Int.natCast_nonneg _, ?_, ends_sb⟩
    show ((lbP (ksE l) key : Nat) : Int) < _; omega

def putT (key val : ByteArray) : Bool → List En → List En
  | dn, [] => if dn = true then [] else [(key, val, ())]
  | dn, x :: r => if dn = false ∧ slt x.1 key = false then (if x.1 = key then (key, val, ()) :: putT key val true r else (key, val, ()) :: x :: putT key val true r) else x :: putT key val dn r
theorem rput_ok {Z : Glob} : FnOk P Z 54 [tREs, tStr, tStr] [tREs] (fun (l, _, _, ()) => [(l : List En).length ≤ 100000]) (fun (l, key, val, ()) => (putT key val false l, ())) := by
  refine fnOk_of_safe Try.func54 (by kernel_rfl) (by kernel_rfl) ?_
  rintro ⟨(l : List En), (key : ByteArray), (val : ByteArray), ⟨⟩⟩ _ ⟨(hl : l.length ≤ 100000), _⟩ X hX hz
  show Safe P 54 X (Ends [tREs] (putT key val false l, ())) _
  have loop : ∀ (n k : Nat) (out : List En) (dn : Bool), k + n = l.length → out.length ≤ 2 * k → putT key val false l = out ++ putT key val dn (l.drop k) → Safe P 54 X (Ends [tREs] (putT key val false l, ())) (cRPut l key val out dn (k : Int)) := by
    intro n
    induction n with
    | zero =>
      intro k out dn hk hlen hp
      rw [List.drop_of_length_le (by omega)] at hp
      refine go hz hX Tab.Ok.nil Try.func54 (loopRPut l key val out dn k) ⟨fun h => absurd (of_decide_eq_true h) (by omega), fun h => ⟨fun h1 => ⟨by omega, ?_⟩, fun h1 => ?_⟩⟩
      · have h1 : dn = false := by simpa using h1
        subst h1
        rw [hp]
        exact ends_eq (out ++ [(key, val, ())], ()) rfl (by kernel_rfl)
      · have h1 : dn = true := by simpa using h1
        subst h1
        have hp : putT key val false l = out := by rw [hp]; exact List.append_nil _
        rw [hp]
        exact ends_eq (out, ()) rfl (by kernel_rfl)
    | succ n ih =>
      intro k out dn hk hlen hp
      rw [drop_cons dE (by omega), putT] at hp
      refine go hz hX Tab.Ok.nil Try.func54 (loopRPut l key val out dn k) ?_
      simp only [Int.toNat_natCast]
      have keep : ¬ (dn = false ∧ slt (l.getD k dE).1 key = false) → Safe P 54 X (Ends [tREs] (putT key val false l, ())) (cRPut l key val (out ++ [l.getD k dE]) dn ((k : Int) + 1)) := fun h => by
        rw [if_neg h] at hp
        exact ih (k + 1) _ dn (by omega) (by simp only [List.length_append, List.length_cons, List.length_nil]; omega) (by rw [hp, List.append_assoc]; rfl)
      refine ⟨fun h => ⟨fun h1 => ⟨by omega, by omega, fun h2 => ⟨by omega, by omega, by omega, fun h3 => ⟨⟨by omega, by omega⟩, ?_⟩, fun h3 => ⟨by omega, by omega, ?_, ⟨by omega, by omega⟩, ?_⟩⟩, fun h2 => ⟨by omega, by omega, by omega, ⟨by omega, by omega⟩, keep ?_⟩⟩, fun h1 => ⟨by omega, by omega, by omega, ⟨by omega, by omega⟩, keep ?_⟩⟩, fun h => absurd (of_decide_eq_false h) (by omega)⟩
      · have h1 : dn = false := by simpa using h1
        have h2 : (!slt (l.getD k dE).1 key) = true := h2
        rw [if_pos ⟨h1, by simpa using h2⟩, if_pos (show (l.getD k dE).1 = key from of_decide_eq_true h3)] at hp
        exact ih (k + 1) _ true (by omega) (by simp only [List.length_append, List.length_cons, List.length_nil]; omega) (by rw [hp, List.append_assoc]; rfl)
      · simp only [List.length_append, List.length_cons, List.length_nil]; omega
      · have h1 : dn = false := by simpa using h1
        have h2 : (!slt (l.getD k dE).1 key) = true := h2
        rw [if_pos ⟨h1, by simpa using h2⟩, if_neg (show ¬ (l.getD k dE).1 = key from of_decide_eq_false h3)] at hp
        exact ih (k + 1) (out ++ [(key, val, ())] ++ [l.getD k dE]) true (by omega) (by simp only [List.length_append, List.length_cons, List.length_nil]; omega) (by rw [hp, List.append_assoc, List.append_assoc]; rfl)
      · have h2 : (!slt (l.getD k dE).1 key) = false := h2
        exact fun g => by rw [g.2] at h2; cases h2
      · exact fun g => by rw [g.1] at h1; cases h1
  exact go hz hX Tab.Ok.nil Try.func54 (treeRPut l key val) (loop l.length 0 [] false (by omega) (by simp) rfl)

def delE (l : List En) (key : ByteArray) : List En := l.filter fun x => !isK key x
def delB (l : List En) (key : ByteArray) : Bool := decide (((delE l key).length : Int) < (l.length : Int))
theorem delE_cons (x : En) (r : List En) (key : ByteArray) : delE (x :: r) key = if (!isK key x) = true then x :: delE r key else delE r key := by
  unfold delE; rw [List.filter_cons]
theorem rdel_ok {Z : Glob} : FnOk P Z 52 [tREs, tStr] [tREs, tBool] (fun (l, _, ()) => [(l : List En).length ≤ 100000]) (fun (l, key, ()) => (delE l key, delB l key, ())) := by
  refine fnOk_of_safe Try.func52 (by kernel_rfl) (by kernel_rfl) ?_
  rintro ⟨(l : List En), (key : ByteArray), ⟨⟩⟩ _ ⟨(hl : l.length ≤ 100000), _⟩ X hX hz
  show Safe P 52 X (Ends [tREs, tBool] (delE l key, delB l key, ())) _
  have loop : ∀ (n k : Nat) (out : List En), k + n = l.length → out.length ≤ k → delE l key = out ++ delE (l.drop k) key → Safe P 52 X (Ends [tREs, tBool] (delE l key, delB l key, ())) (cRDel l key out (k : Int)) := by
    intro n
    induction n with
    | zero =>
      intro k out hk hlen hp
      rw [List.drop_of_length_le (by omega)] at hp
      have hp : delE l key = out := by rw [hp]; exact List.append_nil _
      refine go hz hX Tab.Ok.nil Try.func52 (loopRDel l key out k) ⟨fun h => absurd (of_decide_eq_true h) (by omega), fun h => ?_⟩
      exact ends_eq (out, decide ((out.length : Int) < (l.length : Int)), ()) (by rw [delB, hp]; rfl) (by kernel_rfl)
    | succ n ih =>
      intro k out hk hlen hp
      rw [drop_cons dE (by omega), delE_cons] at hp
      refine go hz hX Tab.Ok.nil Try.func52 (loopRDel l key out k) ?_
      simp only [Int.toNat_natCast]
      refine ⟨fun h => ⟨by omega, by omega, fun h1 => ⟨by omega, by omega, by omega, ⟨by omega, by omega⟩, ?_⟩, fun h1 => ⟨⟨by omega, by omega⟩, ?_⟩⟩, fun h => absurd (of_decide_eq_false h) (by omega)⟩
      · rw [if_pos (show (!isK key (l.getD k dE)) = true from h1)] at hp
        exact ih (k + 1) _ (by omega) (by simp only [List.length_append, List.length_cons, List.length_nil]; omega) (by rw [hp, List.append_assoc]; rfl)
      · rw [if_neg (show ¬ (!isK key (l.getD k dE)) = true from by rw [show (!isK key (l.getD k dE)) = false from h1]; simp)] at hp
        exact ih (k + 1) out (by omega) (by omega) (by rw [hp])
  exact go hz hX Tab.Ok.nil Try.func52 (treeRDel l key) (loop l.length 0 [] (by omega) (by simp) rfl)

def leK (key : ByteArray) (x : Br) : Bool := slt x.1 key || decide (x.1 = key)
def plR (l : List Br) (key : ByteArray) : Nat → Nat
  | 0 => 0
  | k + 1 => if leK key (l.getD k dB) = true then k else plR l key k
theorem rplace_ok {Z : Glob} : FnOk P Z 55 [tRBs, tStr] [tInt] (fun _ => []) (fun (l, key, ()) => (((plR l key (l : List Br).length : Nat) : Int), ())) := by
  refine fnOk_of_safe Try.func55 (by kernel_rfl) (by kernel_rfl) ?_
  rintro ⟨(l : List Br), (key : ByteArray), ⟨⟩⟩ ⟨hl, _⟩ _ X hX hz
  have hl : l.length ≤ 9223372036854775807 := hl
  show Safe P 55 X (Ends [tInt] (((plR l key l.length : Nat) : Int), ())) _
  have loop : ∀ (n k : Nat), k + n = l.length → Safe P 55 X (Ends [tInt] (((plR l key l.length : Nat) : Int), ())) (cRPl l key ((plR l key k : Nat) : Int) (k : Int)) := by
    intro n
    induction n with
    | zero =>
      intro k hk
      refine go hz hX Tab.Ok.nil Try.func55 (loopRPl l key _ k) ⟨fun h => absurd (of_decide_eq_true h) (by omega), fun h => ends_ii (by rw [show l.length = k from by omega])⟩
    | succ n ih =>
      intro k hk
      have next := ih (k + 1) (by omega)
      rw [plR] at next
      refine go hz hX Tab.Ok.nil Try.func55 (loopRPl l key _ k) ?_
      simp only [Int.toNat_natCast]
      refine ⟨fun h => ⟨by omega, by omega, fun h1 => ⟨⟨by omega, by omega⟩, ?_⟩, fun h1 => ⟨⟨by omega, by omega⟩, ?_⟩⟩, fun h => absurd (of_decide_eq_false h) (by omega)⟩
      · rw [if_pos (show leK key (l.getD k dB) = true from h1)] at next
        exact next
      · rw [if_neg (show ¬ leK key (l.getD k dB) = true from by rw [show leK key (l.getD k dB) = false from h1]; simp)] at next
        exact next
  exact go hz hX Tab.Ok.nil Try.func55 (treeRPl l key) (loop l.length 0 (by omega))
end Lf

namespace Lf
open Go Go.Sx Go.Proofs
abbrev delS (l : List En) (j : Int) : List En := List.drop ((0 : Nat) + j.toNat) (List.take ((0 : Nat) + j.toNat + (((l.length : Int)).toNat - j.toNat)) l)
abbrev delN (l : List En) (i j : Int) : Nat := i.toNat - Int.toNat (0 : Int) + (delS l j).length
abbrev delX (l : List En) (i j : Int) : List En := over (over l ((0 : Nat) + (i.toNat - Int.toNat (0 : Int))) (delS l j).length (delS l j)) ((0 : Nat) + ((delN l i j : Nat) : Int).toNat) (((l.length : Int)).toNat - ((delN l i j : Nat) : Int).toNat) (List.replicate (((l.length : Int)).toNat - ((delN l i j : Nat) : Int).toNat) (CL.d cE))
def specDel : Spec (List En × Int × Int) := ⟨fun x => [.vec 0, .s (.int .i64 x.2.1), .s (.int .i64 x.2.2)], fun x => [.vec (.typ cE x.1) eE], fun x => [0 ≤ x.2.1, x.2.1 < x.2.2, x.2.2 ≤ ((x.1.length : Nat) : Int)], fun x => [.vec (.typ cE (delX x.1 x.2.1 x.2.2)) eE], fun x => .part 0 0 (delN x.1 x.2.1 x.2.2)⟩
def mDel : List AV → RM ((List En × Int × Int) × List Nat)
  | [.vec id, .s (.int .i64 i), .s (.int .i64 j)] => .look id fun
    | some (.vec (.typ [.str, .str] l) _) => .ret ((l, i, j), [id])
    | _ => .fail "delete: no row"
  | _ => .fail "delete"
def tabDel : Tab := [(104, sSearch), (105, sClE), (107, sumS specDel mDel)]
theorem treeDel (l : List En) (key : ByteArray) : run P tabDel.sum Try.f51 [] (start Try.f51 [.s (.ro (.typ cE l)), .s (.str key)] []) =
  Tree.need (l.length ≤ (1000000 : Nat)) (Tree.need (srt (ksE l)) (Tree.need (l.length ≤ (100000 : Nat)) (Tree.ite (atK (ksE l) key) (Tree.need (inI64 ((↑(lbP (ksE l) key) : tInt.V) + (1 : Int))) (Tree.need (some [AV.vec (0 : Nat), AV.s (SV.int IntKind.i64 (↑(lbP (ksE l) key) : tInt.V)), AV.s (SV.int IntKind.i64 ((↑(lbP (ksE l) key) : tInt.V) + (1 : Int)))] = some [AV.vec (0 : Nat), AV.s (SV.int IntKind.i64 (↑(lbP (ksE l) key) : tInt.V)), AV.s (SV.int IntKind.i64 ((↑(lbP (ksE l) key) : tInt.V) + (1 : Int)))]) (Tree.need (some [AObj.vec (Con.typ [CK.str, CK.str] l) (59 : Nat)] = some [AObj.vec (Con.typ [CK.str, CK.str] (l, (↑(lbP (ksE l) key) : tInt.V), (↑(lbP (ksE l) key) : tInt.V) + (1 : Int)).fst) (59 : Nat)]) (Tree.need ((0 : Int) ≤ (↑(lbP (ksE l) key) : tInt.V)) (Tree.need ((↑(lbP (ksE l) key) : tInt.V) < (↑(lbP (ksE l) key) : tInt.V) + (1 : Int)) (Tree.need ((↑(lbP (ksE l) key) : tInt.V) + (1 : Int) ≤ (↑l.length : Int)) (Tree.ret [AObj.vec (Con.typ [CK.str, CK.str] (delX (l, (↑(lbP (ksE l) key) : tInt.V), (↑(lbP (ksE l) key) : tInt.V) + (1 : Int)).fst (l, (↑(lbP (ksE l) key) : tInt.V), (↑(lbP (ksE l) key) : tInt.V) + (1 : Int)).snd.fst (l, (↑(lbP (ksE l) key) : tInt.V), (↑(lbP (ksE l) key) : tInt.V) + (1 : Int)).snd.snd)) (59 : Nat)] (AV.tup [AV.part (0 : Nat) (0 : Nat) (delN l (↑(lbP (ksE l) key) : tInt.V) ((↑(lbP (ksE l) key) : tInt.V) + (1 : Int))), AV.s (SV.bool (atK (ksE l) key))])))))))) (Tree.ret [AObj.vec (Con.typ [CK.str, CK.str] l) (59 : Nat)] (AV.tup [AV.vec (0 : Nat), AV.s (SV.bool (atK (ksE l) key))]))))) := by kernel_rfl
theorem delete_ok {Z : Glob} : FnS P Z 107 specDel := by
  refine fnS_of_safe Try.func107 (by kernel_rfl) (fun x => Nat.le_of_ble_eq_true (by kernel_rfl)) ?_
  rintro ⟨(l : List En), (i : Int), (j : Int)⟩ ⟨(h1 : 0 ≤ i), (h2 : i < j), (h3 : j ≤ (l.length : Int)), _⟩ X hX hz
  have e1 : (delS l j).length = l.length - j.toNat := by simp only [delS, List.length_drop, List.length_take]; omega
  refine goS hz hX (by simp) Tab.Ok.nil Try.func107 (treeDelete l i j) ⟨h1, by omega, h3, by omega, fun h => absurd h (by simp; omega), fun _ => ⟨by omega, h1, by omega, by omega, h3, by omega, ?_, ?_, ?_, ?_, ⟨⟨[], [0], 1, []⟩, Nat.le_refl _, ?_⟩⟩⟩
  · show 0 + (i.toNat - Int.toNat 0) + (delS l j).length ≤ l.length; rw [e1]; omega
  · show (0 : Int) ≤ ((delN l i j : Nat) : Int); omega
  · show ((delN l i j : Nat) : Int) ≤ _; simp only [delN, e1]; omega
  · show ((0 : Nat) : Int) + (l.length : Int) ≤ ((over l (0 + (i.toNat - Int.toNat 0)) (delS l j).length (delS l j)).length : Int)
    simp only [over, List.length_append, List.length_take, List.length_drop, e1]; omega
  · show Norm.run _ _ = some ⟨[.part 0 0 (delN l i j)], [.vec (.typ cE (delX l i j)) eE], [], {}⟩
    kernel_rfl

theorem del_lb {l : List En} {key : ByteArray} (hs : srt (ksE l)) : (atK (ksE l) key = false → delE l key = l) ∧ (atK (ksE l) key = true → delE l key = l.take (lbP (ksE l) key) ++ l.drop (lbP (ksE l) key + 1)) := by
  have hk : ∀ t, (ksE l).getD t ByteArray.empty = (l.getD t dE).1 := fun t => map_getD l keyE dE t
  have hn : (ksE l).length = l.length := List.length_map _
  obtain ⟨f1, f2⟩ := find_lb (key := key) hs
  refine ⟨fun h => ?_, fun h => ?_⟩
  · rw [h] at f1
    refine List.filter_eq_self.2 fun x hx => ?_
    have : l.find? (isK key) = none := by
      cases hf : l.find? (isK key) with
      | none => rfl
      | some y => rw [fndB, hf] at f1; cases f1
    have := List.find?_eq_none.1 this x hx
    cases hb : isK key x
    · rfl
    · exact absurd hb this
  · obtain ⟨h1, h2⟩ := atK_iff.1 h
    rw [hk] at h2
    rw [hn] at h1
    have e : l = l.take (lbP (ksE l) key) ++ l.getD (lbP (ksE l) key) dE :: l.drop (lbP (ksE l) key + 1) := by rw [← drop_cons dE h1, List.take_append_drop]
    have other : ∀ i, i < l.length → i ≠ lbP (ksE l) key → (!isK key (l.getD i dE)) = true := fun i hi hne => by
      cases hb : isK key (l.getD i dE)
      · rfl
      · exact absurd (srt_inj hs hi h1 ((show (l.getD i dE).1 = key from of_decide_eq_true hb).trans h2.symm)) hne
    have g1 : delE (l.take (lbP (ksE l) key)) key = l.take (lbP (ksE l) key) := by
      refine List.filter_eq_self.2 fun x hx => ?_
      obtain ⟨i, hi, rfl⟩ := List.getElem_of_mem hx
      rw [List.length_take] at hi
      have := other i (by omega) (by omega)
      rw [getD_lt (by omega)] at this
      rw [List.getElem_take]; exact this
    have g2 : delE (l.drop (lbP (ksE l) key + 1)) key = l.drop (lbP (ksE l) key + 1) := by
      refine List.filter_eq_self.2 fun x hx => ?_
      obtain ⟨i, hi, rfl⟩ := List.getElem_of_mem hx
      rw [List.length_drop] at hi
      have := other (lbP (ksE l) key + 1 + i) (by omega) (by omega)
      rw [getD_lt (by omega)] at this
      rw [List.getElem_drop]; exact this
    have app : ∀ a b : List En, delE (a ++ b) key = delE a key ++ delE b key := fun a b => List.filter_append ..
    have : delE l key = delE (l.take (lbP (ksE l) key) ++ l.getD (lbP (ksE l) key) dE :: l.drop (lbP (ksE l) key + 1)) key := by rw [← e]
    rw [this, app, delE_cons, if_neg (show ¬ (!decide ((l.getD (lbP (ksE l) key) dE).1 = key)) = true from by rw [decide_eq_true h2]; simp), g1, g2]
theorem delB_eq {l : List En} {key : ByteArray} (hs : srt (ksE l)) : delB l key = atK (ksE l) key := by
  obtain ⟨h1, h2⟩ := del_lb (key := key) hs
  cases ha : atK (ksE l) key
  · rw [delB, h1 ha]; simp
  · obtain ⟨h3, _⟩ := atK_iff.1 ha
    rw [List.length_map] at h3
    rw [delB, h2 ha]
    simp only [List.length_append, List.length_take, List.length_drop, decide_eq_true_eq]
    omega
theorem delX_take {l : List En} {k : Nat} (h : k < l.length) : (delX l (k : Int) ((k : Int) + 1)).take (delN l (k : Int) ((k : Int) + 1)) = l.take k ++ l.drop (k + 1) := by
  have e0 : delS l ((k : Int) + 1) = l.drop (k + 1) := by
    simp only [delS]
    rw [show 0 + ((k : Int) + 1).toNat = k + 1 from by omega, List.take_of_length_le (by omega)]
  have e1 : delN l (k : Int) ((k : Int) + 1) = l.length - 1 := by
    simp only [delN, e0, List.length_drop]; omega
  simp only [delX, e0, e1, over]
  rw [show 0 + ((k : Int).toNat - Int.toNat 0) = k from by omega, show 0 + (((l.length - 1 : Nat) : Int)).toNat = l.length - 1 from by omega, show k + (l.drop (k + 1)).length = l.length - 1 from by rw [List.length_drop]; omega]
  rw [List.take_of_length_le (l := l.drop (k + 1)) (Nat.le_refl _)]
  have hlen : (l.take k ++ l.drop (k + 1)).length = l.length - 1 := by simp only [List.length_append, List.length_take, List.length_drop]; omega
  rw [List.append_assoc, List.append_assoc, ← List.append_assoc (l.take k), List.take_left' hlen, List.take_left' hlen]
theorem del_ok {Z : Glob} : FnOk P Z 51 [tEs, tStr] [tEs, tBool] (fun (l, _, ()) => [(l : List En).length ≤ 100000, srt (ksE l)]) (fun (l, key, ()) => (delE l key, delB l key, ())) := by
  refine fnOk_of_safe Try.func51 (by kernel_rfl) (by kernel_rfl) ?_
  rintro ⟨(l : List En), (key : ByteArray), ⟨⟩⟩ _ ⟨(hl : l.length ≤ 100000), (hs : srt (ksE l)), _⟩ X hX hz
  show Safe P 51 X (Ends [tEs, tBool] (delE l key, delB l key, ())) _
  have hT : tabDel.Ok P Z := Tab.Ok.cons search_ok.sum (Tab.Ok.cons clE_ok.sum (Tab.Ok.cons (delete_ok.sum mDel) Tab.Ok.nil))
  obtain ⟨d1, d2⟩ := del_lb (key := key) hs
  have hb := delB_eq (key := key) hs
  have hle := lbP_le (ksE l) key
  rw [List.length_map] at hle
  refine go hz hX hT Try.func51 (treeDel l key) ⟨by omega, hs, hl, fun h => ?_, fun h => ?_⟩
  · obtain ⟨h3, _⟩ := atK_iff.1 h
    rw [List.length_map] at h3
    refine ⟨⟨?_, ?_⟩, rfl, rfl, ?_, ?_, ?_, ?_⟩
    · show (-9223372036854775808 : Int) ≤ ((lbP (ksE l) key : Nat) : Int) + 1; omega
    · show ((lbP (ksE l) key : Nat) : Int) + 1 ≤ (9223372036854775807 : Int); omega
    · show (0 : Int) ≤ ((lbP (ksE l) key : Nat) : Int); omega
    · show ((lbP (ksE l) key : Nat) : Int) < ((lbP (ksE l) key : Nat) : Int) + 1; omega
    · show ((lbP (ksE l) key : Nat) : Int) + 1 ≤ (l.length : Int); omega
    · refine ends_eq (List.drop 0 ((delX l ((lbP (ksE l) key : Nat) : Int) (((lbP (ksE l) key : Nat) : Int) + 1)).take (0 + delN l ((lbP (ksE l) key : Nat) : Int) (((lbP (ksE l) key : Nat) : Int) + 1))), atK (ksE l) key, ()) ?_ (by kernel_rfl)
      rw [d2 h, hb, Nat.zero_add, delX_take h3]; rfl
  · refine ends_eq (l, atK (ksE l) key, ()) ?_ (by kernel_rfl)
    rw [d1 h, hb]; rfl
end Lf

namespace Lf
open Go Go.Sx Go.Proofs
/-! What Put, Place and the document's say: plain laws. -/
theorem putT_true (key val : ByteArray) : ∀ l : List En, putT key val true l = l
  | [] => rfl
  | x :: r => by rw [putT, if_neg (by simp), putT_true key val r]
def putE (l : List En) (key val : ByteArray) : List En := l.take (lbP (ksE l) key) ++ (key, val, ()) :: l.drop (if atK (ksE l) key = true then lbP (ksE l) key + 1 else lbP (ksE l) key)
theorem lbP_yes {x : En} {r : List En} {key : ByteArray} (h : slt x.1 key = true) : lbP (ksE (x :: r)) key = lbP (ksE r) key + 1 := by simp [lbP, ksE, List.takeWhile, h]
theorem lbP_no {x : En} {r : List En} {key : ByteArray} (h : slt x.1 key = false) : lbP (ksE (x :: r)) key = 0 := by simp [lbP, ksE, List.takeWhile, h]
theorem atK_yes {x : En} {r : List En} {key : ByteArray} (h : slt x.1 key = true) : atK (ksE (x :: r)) key = atK (ksE r) key := by
  unfold atK
  rw [lbP_yes h]
  rfl
theorem atK_no {x : En} {r : List En} {key : ByteArray} (h : slt x.1 key = false) : atK (ksE (x :: r)) key = decide (x.1 = key) := by
  unfold atK
  rw [lbP_no h]
  simp [ksE]
theorem put_eq (key val : ByteArray) : ∀ l : List En, putT key val false l = putE l key val
  | [] => rfl
  | x :: r => by
    rw [putT]
    cases hs : slt x.1 key
    · rw [if_pos ⟨rfl, rfl⟩, putE, lbP_no hs, atK_no hs, putT_true]
      by_cases hk : x.1 = key
      · rw [if_pos hk, decide_eq_true hk]; rfl
      · rw [if_neg hk, decide_eq_false hk]; rfl
    · rw [if_neg (by simp), put_eq key val r, putE, putE, lbP_yes hs, atK_yes hs]
      cases atK (ksE r) key <;> rfl

theorem plR_eq {l : List Br} {key : ByteArray} {p : Nat} (h1 : p < l.length) (h2 : p = 0 ∨ slt key (l.getD p dB).1 = false) (h3 : ∀ t, p < t → t < l.length → slt key (l.getD t dB).1 = true) : plR l key l.length = p := by
  have down : ∀ n, p + 1 + n ≤ l.length → plR l key (p + 1 + n) = plR l key (p + 1) := by
    intro n
    induction n with
    | zero => exact fun _ => rfl
    | succ n ih =>
      intro h
      have hs := h3 (p + 1 + n) (by omega) (by omega)
      rw [show p + 1 + (n + 1) = (p + 1 + n) + 1 from by omega, plR, if_neg (by simp only [leK, slt_asymm hs, decide_eq_false (Ne.symm (slt_ne hs))]; simp), ih (by omega)]
  have := down (l.length - (p + 1)) (by omega)
  rw [show p + 1 + (l.length - (p + 1)) = l.length from by omega] at this
  rw [this, plR]
  cases hl : leK key (l.getD p dB)
  · rw [if_neg (by simp)]
    rcases h2 with rfl | h2
    · rfl
    · exfalso
      simp only [leK, Bool.or_eq_false_iff, decide_eq_false_iff_not] at hl
      rw [slt_of_not hl.1 hl.2] at h2; cases h2
  · rw [if_pos rfl]
theorem rplace_eq {l : List Br} {key : ByteArray} (hs : srt (ksB l)) : ((plR l key l.length : Nat) : Int) = placeF l key := by
  have hn : (ksB l).length = l.length := List.length_map _
  have hk : ∀ t, (ksB l).getD t ByteArray.empty = (l.getD t dB).1 := fun t => map_getD l keyB dB t
  cases l with
  | nil =>
    show (0 : Int) = imax 0 (if atK [] key = true then ((0 : Nat) : Int) else ((0 : Nat) : Int) - 1)
    split <;> rfl
  | cons x r =>
    obtain ⟨p, hp, hp1, hp2, hp3⟩ := place_spec (key := key) hs (by simp)
    rw [hn] at hp1 hp3
    have hp : placeF (x :: r) key = (p : Int) := hp
    rw [hp, plR_eq hp1 (by rw [← hk]; exact hp2) (fun t h1 h2 => by rw [← hk]; exact hp3 t h1 h2)]

/-! ### what was put -/
theorem put_len {l : List En} {key val : ByteArray} : (putE l key val).length = l.length + (if atK (ksE l) key = true then 0 else 1) := by
  have := lbP_le (ksE l) key
  rw [List.length_map] at this
  cases ha : atK (ksE l) key
  · simp only [putE, ha, List.length_append, List.length_cons, List.length_take, List.length_drop]
    simp; omega
  · have h1 := (atK_iff.1 ha).1
    rw [List.length_map] at h1
    simp only [putE, ha, List.length_append, List.length_cons, List.length_take, List.length_drop]
    simp; omega
theorem fnd_cons (x : En) (r : List En) (key : ByteArray) : (x :: r).find? (isK key) = if x.1 = key then some x else r.find? (isK key) := by
  rw [List.find?_cons]
  by_cases h : x.1 = key
  · rw [if_pos h, show isK key x = true from decide_eq_true h]
  · rw [if_neg h, show isK key x = false from decide_eq_false h]
theorem put_find : ∀ (l : List En) (key val : ByteArray), (putT key val false l).find? (isK key) = some (key, val, ())
  | [], key, val => by rw [putT, if_neg (by simp), fnd_cons, if_pos rfl]
  | x :: r, key, val => by
    rw [putT]
    split
    · split <;> rw [fnd_cons, if_pos rfl]
    · rename_i h
      have h : slt x.1 key = true := by simpa using h
      rw [fnd_cons, if_neg (slt_ne h), put_find r key val]
theorem put_find_other : ∀ (l : List En) (key val other : ByteArray), other ≠ key → (putT key val false l).find? (isK other) = l.find? (isK other)
  | [], key, val, other, ho => by rw [putT, if_neg (by simp), fnd_cons, if_neg (Ne.symm ho)]
  | x :: r, key, val, other, ho => by
    rw [putT]
    split
    · split
      · rename_i h
        rw [putT_true, fnd_cons, if_neg (Ne.symm ho), fnd_cons, if_neg (by rw [h]; exact Ne.symm ho)]
      · rw [putT_true, fnd_cons, if_neg (Ne.symm ho)]
    · rw [fnd_cons, fnd_cons, put_find_other r key val other ho]
theorem put_del : ∀ (l : List En) (key val : ByteArray), delE (putT key val false l) key = delE l key
  | [], key, val => by rw [putT, if_neg (by simp), delE_cons, if_neg (by simp [isK])]
  | x :: r, key, val => by
    rw [putT]
    split
    · split
      · rename_i h
        rw [putT_true, delE_cons, if_neg (by simp [isK]), delE_cons, if_neg (by simp [isK, h])]
      · rw [putT_true, delE_cons, if_neg (by simp [isK])]
    · rw [delE_cons, delE_cons, put_del r key val]
theorem del_find (l : List En) (key : ByteArray) : (delE l key).find? (isK key) = none :=
  List.find?_eq_none.2 fun x hx => by
    have := (List.mem_filter.1 hx).2
    simpa using this

abbrev ris (l : List En) : Prop := l.Pairwise fun a b => slt a.1 b.1 = true
theorem srt_ris {l : List En} : srt (ksE l) ↔ ris l := by
  have hk : ∀ t, (ksE l).getD t ByteArray.empty = (l.getD t dE).1 := fun t => map_getD l keyE dE t
  have hn : (ksE l).length = l.length := List.length_map _
  rw [ris, List.pairwise_iff_getElem]
  constructor
  · intro h i j hi hj hij
    have := h i j hij (by omega)
    rw [hk, hk, getD_lt hi, getD_lt hj] at this
    exact this
  · intro h i j hij hj
    rw [hn] at hj
    have := h i j (by omega) hj hij
    rw [hk, hk, getD_lt (by omega), getD_lt hj]
    exact this
theorem put_ris : ∀ {l : List En} (key val : ByteArray), ris l → ris (putT key val false l) ∧ ∀ a : En, slt a.1 key = true → (∀ x ∈ l, slt a.1 x.1 = true) → ∀ x ∈ putT key val false l, slt a.1 x.1 = true
  | [], key, val, _ => by
    rw [putT, if_neg (by simp)]
    exact ⟨List.pairwise_singleton .., fun a h _ x hx => by
      simp only [List.mem_singleton] at hx
      subst hx; exact h⟩
  | x :: r, key, val, h => by
    obtain ⟨h1, h2⟩ := List.pairwise_cons.1 h
    obtain ⟨g1, g2⟩ := put_ris (l := r) key val h2
    rw [putT]
    split
    · rename_i hc
      split
      · rename_i hk
        rw [putT_true]
        refine ⟨List.pairwise_cons.2 ⟨fun y hy => by rw [show (key, val, ()).1 = x.1 from hk.symm]; exact h1 y hy, h2⟩, fun a ha hl y hy => ?_⟩
        rcases List.mem_cons.1 hy with rfl | hy
        · exact ha
        · exact hl y (List.mem_cons_of_mem _ hy)
      · rename_i hk
        rw [putT_true]
        have hlt : slt key x.1 = true := slt_of_not hc.2 hk
        refine ⟨List.pairwise_cons.2 ⟨fun y hy => ?_, h⟩, fun a ha hl y hy => ?_⟩
        · rcases List.mem_cons.1 hy with rfl | hy
          · exact hlt
          · exact slt_trans hlt (h1 y hy)
        · rcases List.mem_cons.1 hy with rfl | hy
          · exact ha
          · exact hl y hy
    · rename_i hc
      have hx : slt x.1 key = true := by simpa using hc
      refine ⟨List.pairwise_cons.2 ⟨fun y hy => g2 x hx h1 y hy, g1⟩, fun a ha hl y hy => ?_⟩
      rcases List.mem_cons.1 hy with rfl | hy
      · exact hl _ (by simp)
      · exact g2 a ha (fun z hz => hl z (List.mem_cons_of_mem _ hz)) y hy
theorem put_srt {l : List En} (key val : ByteArray) (h : srt (ksE l)) : srt (ksE (putE l key val)) := by
  rw [← put_eq]
  exact srt_ris.2 (put_ris key val (srt_ris.1 h)).1
theorem del_srt {l : List En} (key : ByteArray) (h : srt (ksE l)) : srt (ksE (delE l key)) := srt_ris.2 (List.Pairwise.filter _ (srt_ris.1 h))
theorem find_put {l : List En} {key val : ByteArray} : fndB (putE l key val) key = true ∧ fndE (putE l key val) key = val := by
  rw [← put_eq, fndB, fndE, put_find]
  exact ⟨rfl, rfl⟩
theorem find_put_other {l : List En} {key val other : ByteArray} (h : other ≠ key) : fndB (putE l key val) other = fndB l other ∧ fndE (putE l key val) other = fndE l other := by
  rw [← put_eq, fndB, fndE, put_find_other _ _ _ _ h]
  exact ⟨rfl, rfl⟩
theorem del_put {l : List En} {key val : ByteArray} : delE (putE l key val) key = delE l key := by rw [← put_eq, put_del]
theorem find_del {l : List En} {key : ByteArray} : fndB (delE l key) key = false := by rw [fndB, del_find]; rfl
theorem fnd_atK {l : List En} {key : ByteArray} (h : srt (ksE l)) : fndB l key = delB l key := by rw [(find_lb h).1, delB_eq h]
end Lf

/-! A row seen with its room, or as one that has none. -/
namespace Go.Sx
open Go
section
variable {ρ ρ' : Nat → Value} {H H' : AHeap} {G O O' : Nat → Prop} {w w' : World} {P : Program} {X : Ctx} {L : List AObj} {K : List AObj → AV → Prop}

theorem reroot (hs : Sat ρ (lk L) G w) {id : Nat} {c c2 : Con} {e : TypeId} {root : Value} (hid : L[id]? = some (.vec c e)) (hblk : ∀ b, blk root = some b → blk (ρ id) = some b) (hobj : ObjSat ρ (lk L) (Hot ρ (lk L) G) w root (.vec c2 e)) :
    ∃ ρ', Sat ρ' (lk (L.set id .dead ++ [.vec c2 e])) G w ∧ stp ρ L G w ρ' (L.set id .dead ++ [.vec c2 e]) ∧ ρ' L.length = root := by
  have hlt : id < L.length := (List.getElem?_eq_some_iff.1 hid).1
  generalize hx : AObj.vec c2 e = x
  have hxa : x.alive = true := by rw [← hx]; rfl
  have old : ∀ {k : Nat} {o : AObj}, (L.set id .dead ++ [x])[k]? = some o → (k = L.length ∧ o = x) ∨ (k = id ∧ o = .dead) ∨ (k ≠ id ∧ k ≠ L.length ∧ L[k]? = some o) := by
    intro k o ho
    have h2 := (List.getElem?_eq_some_iff.1 ho).1
    simp only [List.length_append, List.length_set, List.length_cons, List.length_nil] at h2
    by_cases hk : k = L.length
    · subst hk
      rw [List.getElem?_append_right (by simp)] at ho
      simp at ho
      exact .inl ⟨rfl, ho.symm⟩
    · rw [List.getElem?_append_left (by simp; omega), List.getElem?_set] at ho
      split at ho
      · rename_i hk2
        first
          | exact .inr (.inl ⟨hk2.symm, by simpa using ho.symm⟩)
          | (rw [if_pos hlt] at ho; exact .inr (.inl ⟨hk2.symm, by simpa using ho.symm⟩))
      · rename_i hk2
        exact .inr (.inr ⟨Ne.symm hk2, hk, ho⟩)
  have new : ∀ {k : Nat} {o : AObj}, L[k]? = some o → k ≠ id → (L.set id .dead ++ [x])[k]? = some o := by
    intro k o ho hk
    have h1 := (List.getElem?_eq_some_iff.1 ho).1
    rw [List.getElem?_append_left (by simpa using h1), List.getElem?_set_ne (Ne.symm hk)]
    exact ho
  have newid : (L.set id .dead ++ [x])[id]? = some .dead := by
    rw [List.getElem?_append_left (by simpa using hlt), List.getElem?_set_self hlt]
  have newx : (L.set id .dead ++ [x])[L.length]? = some x := by
    rw [List.getElem?_append_right (by simp)]
    simp
  let ρ' : Nat → Value := fun j => if j = L.length then root else ρ j
  have hown : ∀ b, Own ρ' (lk (L.set id .dead ++ [x])) b → Own ρ (lk L) b := by
    rintro b ⟨k, o, ho, ha, hb⟩
    rcases old ho with ⟨h1, h2⟩ | ⟨h1, h2⟩ | ⟨h1, h2, h3⟩
    · simp only [ρ', h1, if_true] at hb
      exact ⟨id, _, hid, rfl, hblk b hb⟩
    · subst h2; cases ha
    · simp only [ρ', h2, if_false] at hb
      exact ⟨k, o, h3, ha, hb⟩
  have st : stp ρ L G w ρ' (L.set id .dead ++ [x]) := by
    refine ⟨fun k o ho => ?_, fun k o ho => ?_, fun b hb => .inl ?_, fun _ _ _ => rfl, Nat.le_refl _⟩
    · have h1 : k < L.length := (List.getElem?_eq_some_iff.1 ho).1
      simp only [ρ']
      rw [if_neg (by omega)]
    · by_cases hk : k = id
      · subst hk
        exact ⟨.dead, newid, fun c' e' hc => by cases hc⟩
      · exact ⟨o, new ho hk, fun c' e' hc => ⟨c', e', hc, rfl, rfl⟩⟩
    · rcases hb with hb | hb
      · exact .inl (hown b hb)
      · exact .inr hb
  refine ⟨ρ', ⟨fun k o ho => ?_, fun i j oi oj b hi hj ai aj bi bj => ?_, fun b hb => hs.apart b (hown b hb), hs.low⟩, st, ?_⟩
  · rcases old ho with ⟨h1, h2⟩ | ⟨h1, h2⟩ | ⟨h1, h2, h3⟩
    · rw [h2]
      simp only [ρ', h1, if_true]
      rw [hx] at hobj
      exact hobj.step st (fun _ _ _ => rfl)
    · subst h2; trivial
    · simp only [ρ', h2, if_false]
      exact (hs.obj k o h3).step st (fun _ _ _ => rfl)
  · have cls : ∀ {k : Nat} {o : AObj}, (L.set id .dead ++ [x])[k]? = some o → o.alive = true → blk (ρ' k) = some b → (k = L.length ∧ blk (ρ id) = some b) ∨ (k ≠ id ∧ k ≠ L.length ∧ L[k]? = some o ∧ blk (ρ k) = some b) := by
      intro k o ho ha hb
      rcases old ho with ⟨h1, h2⟩ | ⟨h1, h2⟩ | ⟨h1, h2, h3⟩
      · simp only [ρ', h1, if_true] at hb
        exact .inl ⟨h1, hblk b hb⟩
      · subst h2; cases ha
      · simp only [ρ', h2, if_false] at hb
        exact .inr ⟨h1, h2, h3, hb⟩
    rcases cls hi ai bi with ⟨h1, h2⟩ | ⟨h1, h2, h3, h4⟩ <;> rcases cls hj aj bj with ⟨k1, k2⟩ | ⟨k1, k2, k3, k4⟩
    · rw [h1, k1]
    · exact absurd (hs.inj j id oj _ b k3 hid aj rfl k4 h2) k1
    · exact absurd (hs.inj i id oi _ b h3 hid ai rfl h4 k2) h1
    · exact hs.inj i j oi oj b h3 k3 ai aj h4 k4
  · simp only [ρ', if_true]

/-- A row and its spare room. -/
def conMore (c : Con) (m : Nat) : Con := .recs c.size (c.n + m) fun i j => bif i.blt c.n then c.cell i j else .junk

theorem slot_set {tmps : List AV} {t : Nat} {y x : AV} (ht : tmps.getD t (.s .junk) = y) (hy : y ≠ .s .junk) (u : Nat) : (tmps.set t x).getD u (.s .junk) = if u = t then x else tmps.getD u (.s .junk) := by
  have hlt : t < tmps.length := by
    rcases Nat.lt_or_ge t tmps.length with h | h
    · exact h
    · rw [List.getD, List.getElem?_eq_none h] at ht
      exact absurd ht.symm hy
  by_cases hu : u = t
  · subst hu; rw [if_pos rfl]; simp [List.getD, hlt]
  · rw [if_neg hu]; simp [List.getD, List.getElem?_set_ne (Ne.symm hu)]

theorem more_sat {a : Option Addr} {cap m : Nat} {c : Con} {e : TypeId} (hm : 0 < m) (hroom : c.n + m ≤ cap) (h : ObjSat ρ H O w (.slice a c.n cap) (.vec c e)) : ObjSat ρ H O w (.slice a (c.n + m) cap) (.vec (conMore c m) e) := by
  obtain ⟨a2, cap2, h1, h2, h3, h4⟩ := h
  cases h1
  rcases h4 with h4 | ⟨b, o, cells, fr, us, rfl, g1, g2, g3, g4⟩
  · omega
  · refine ⟨some ⟨b, o, none⟩, cap, rfl, hroom, h3, .inr ⟨b, o, cells, fr, fun i j => if i < c.n then us i j else cells.getD (o + i * c.size + j) undef, rfl, g1, g2, g3, fun i j hi hj => ?_⟩⟩
    have hi : i < c.n + m := hi
    have hj : j < c.size := hj
    show cells[o + i * c.size + j]? = _ ∧ DenS O w (bif i.blt c.n then c.cell i j else .junk) _
    by_cases hin : i < c.n
    · dsimp only
      rw [if_pos hin, show i.blt c.n = true from by simpa [Nat.blt, Nat.lt_iff_add_one_le] using hin]
      exact g4 i j hin hj
    · dsimp only
      rw [if_neg hin, show i.blt c.n = false from by
        cases hb : i.blt c.n
        · rfl
        · exact absurd (show i < c.n from by simpa [Nat.blt, Nat.lt_iff_add_one_le] using hb) hin]
      have hlt : o + i * c.size + j < cells.length := by
        have : (i + 1) * c.size ≤ cap * c.size := Nat.mul_le_mul_right _ (by omega)
        rw [Nat.succ_mul] at this
        omega
      have e : cells[o + i * c.size + j]? = some (cells.getD (o + i * c.size + j) undef) := by simp [List.getD, hlt]
      exact ⟨e, .junk _ (g2.2 _ (List.mem_of_getElem? e))⟩

theorem room_safe {f : FuncId} {tmps : List AV} {todo : List Item} {t id m : Nat} {c : Con} {e : TypeId} (ht : tmps.getD t (.s .junk) = .vec id) (hid : L[id]? = some (.vec c e)) (hm : 0 < m)
    {stk : Stk} (hA : Safe P f X K ⟨tmps.set t (.part L.length 0 c.n), L.set id .dead ++ [.vec (conMore c m) e], todo, stk⟩)
    (hB : Safe P f X K ⟨tmps.set t (.s (.rot c (c.n + m))), L.set id .dead, todo, stk⟩) : Safe P f X K ⟨tmps, L, todo, stk⟩ := by
  intro G E ρ a w hG1 hG2 hr bf tf fsf hwf
  have hs : Sat ρ (lk L) G w := hr.sat
  have hd := hr.den t
  rw [show (St.tmps ⟨tmps, L⟩).getD t (.s .junk) = .vec id from ht] at hd
  obtain ⟨a0, cap, hv, hroot, hle, hmax⟩ := vec_val hs hid hd
  have hobj := hs.obj id _ hid
  rw [hroot, hv] at hobj
  have hlt : id < L.length := (List.getElem?_eq_some_iff.1 hid).1
  by_cases hc : c.n + m ≤ cap
  · obtain ⟨ρ', s', st, hρ⟩ := reroot hs hid (root := .slice a0 (c.n + m) cap) (c2 := conMore c m) (fun b hb => by
      rw [hroot, hv]
      cases a0 with
      | none => simp [blk] at hb
      | some y => simpa [blk] using hb) (more_sat hm hc hobj)
    refine hA G E ρ' a w hG1 hG2 ⟨s', by rw [List.length_set]; exact hr.size, fun u => ?_, hr.defers, hr.from_.trans st, hr.frm, hr.kept⟩ bf tf fsf hwf
    show DenV ρ' _ _ w ((tmps.set t (.part L.length 0 c.n)).getD u (.s .junk)) _
    rw [slot_set ht (by simp)]
    by_cases hu : u = t
    · subst hu
      rw [if_pos rfl, hv]
      unfold DenV Den1
      refine ⟨rfl, .vec (conMore c m) e, by show (L.set id .dead ++ [_])[L.length]? = _; rw [List.getElem?_append_right (by simp)]; simp, fun c' e' he => ?_⟩
      cases he
      refine ⟨by show 0 + c.n ≤ c.n + m; omega, a0, cap, a0, hρ, hc, by simp, fun _ => ?_⟩
      rw [Nat.zero_mul]
      cases a0 with
      | none => rfl
      | some y => simp [Addr.add]
    · rw [if_neg hu]
      exact (hr.den u).step st
  · have eL : lk (L.set id .dead) = updH (lk L) id .dead := by
      funext k
      show (L.set id .dead)[k]? = _
      rw [List.getElem?_set]
      by_cases hk : id = k
      · subst hk; simp [updH, hlt]
      · rw [if_neg hk]; simp [updH, Ne.symm hk]
    have st : stp ρ L G w ρ (L.set id .dead) := by
      show Step ρ (lk L) _ w ρ (lk (L.set id .dead)) (Hot ρ (lk (L.set id .dead)) G) w
      rw [eL]
      exact kill_step (H := lk L) hid
    have hs' : Sat ρ (lk (L.set id .dead)) G w := by rw [eL]; exact Sat.kill hs hid
    refine hB G E ρ a w hG1 hG2 ⟨hs', by rw [List.length_set]; exact hr.size, fun u => ?_, hr.defers, hr.from_.trans st, hr.frm, hr.kept⟩ bf tf fsf hwf
    show DenV ρ _ _ w ((tmps.set t (.s (.rot c (c.n + m)))).getD u (.s .junk)) _
    rw [slot_set ht (by simp)]
    by_cases hu : u = t
    · subst hu
      rw [if_pos rfl, hv]
      refine DenV_s (.rot _ _ _ _ _ ?_ (by omega))
      obtain ⟨a2, cap2, h1, h2, h3, h4⟩ := hobj
      cases h1
      rcases h4 with rfl | ⟨b, o, cells, fr, us, rfl, g1, g2, g3, g4⟩
      · exact .ro c a0 0 (fun _ _ => undef) 0 0 hle hmax (fun h => by omega) (fun i j hi _ => by omega) (fun i j hi _ => by omega)
      · refine .ro c _ cap us b o hle hmax (fun h0 => ⟨rfl, ?_, ?_⟩) (fun i j hi hj => ?_) (fun i j hi hj => ((g4 i j hi hj).2).step st.hot st.heap st.size)
        · have hb : blk (ρ id) = some b := by
            rw [hroot, hv]
            simp only [blk]
            rw [if_neg (by omega)]
          rintro (⟨k, ok, hk, ha, hb2⟩ | hG)
          · have hk : (L.set id .dead)[k]? = some ok := hk
            rw [List.getElem?_set] at hk
            split at hk
            · rename_i e1
              first
                | (simp only [Option.some.injEq] at hk; subst hk; cases ha)
                | (rw [if_pos hlt] at hk; simp only [Option.some.injEq] at hk; subst hk; cases ha)
            · rename_i e1
              exact e1 (hs.inj id k _ ok b hid hk rfl ha hb hb2)
          · exact hs.apart b ⟨id, _, hid, rfl, hb⟩ hG
        · exact (Array.getElem?_eq_some_iff.1 g1).1
        · have := (g4 i j hi hj).1
          simp only [World.cell?, g1]
          simp [this]
    · rw [if_neg hu]
      exact (hr.den u).step st


/-- A row, told by another text of the same cells. -/
theorem con_safe {f : FuncId} {tmps : List AV} {todo : List Item} {stk : Stk} {id : Nat} {c c' : Con} {e : TypeId} (hid : L[id]? = some (.vec c e)) (hn : c'.n = c.n) (hsz : c'.size = c.size) (hc : ∀ i j, i < c.n → j < c.size → c'.cell i j = c.cell i j)
    (h : Safe P f X K ⟨tmps, L.set id (.vec c' e), todo, stk⟩) : Safe P f X K ⟨tmps, L, todo, stk⟩ := by
  intro G E ρ a w hG1 hG2 hr b t fs hw
  have hs : Sat ρ (lk L) G w := hr.sat
  have hlt : id < L.length := (List.getElem?_eq_some_iff.1 hid).1
  have eL : lk (L.set id (.vec c' e)) = updH (lk L) id (.vec c' e) := by
    funext k
    show (L.set id (.vec c' e))[k]? = _
    rw [List.getElem?_set]
    by_cases hk : id = k
    · subst hk; simp [updH, hlt]
    · rw [if_neg hk]; simp [updH, Ne.symm hk]
  have hobj : ObjSat ρ (updH (lk L) id (.vec c' e)) (Hot ρ (lk L) G) w (ρ id) (.vec c' e) := by
    obtain ⟨a2, cap2, h1, h2, h3, h4⟩ := hs.obj id _ hid
    refine ⟨a2, cap2, by rw [hn]; exact h1, by omega, h3, ?_⟩
    rcases h4 with h4 | ⟨b, o, cells, fr, us, rfl, g1, g2, g3, g4⟩
    · exact .inl h4
    · refine .inr ⟨b, o, cells, fr, us, rfl, g1, g2, by rw [hsz]; exact g3, fun i j hi hj => ?_⟩
      rw [hn] at hi
      rw [hsz] at hj
      rw [hsz, hc i j hi hj]
      exact g4 i j hi hj
  obtain ⟨ρ', s', _, st, _⟩ := Good.upd (H := lk L) (o' := .vec c' e) (r := .s .junk) (v := undef) hs hid rfl (fun c2 e2 he => by cases he; exact ⟨c, e, rfl, hn, hsz⟩) hobj (by unfold DenV; trivial)
  rw [← eL] at s' st
  exact h G E ρ' a w hG1 hG2 ⟨s', hr.size, fun u => (hr.den u).step st, hr.defers, hr.from_.trans st, hr.frm, hr.kept⟩ b t fs hw

/-- A part that is the whole. -/
theorem part_safe {f : FuncId} {tmps : List AV} {todo : List Item} {stk : Stk} {t id n : Nat} {c : Con} {e : TypeId} (ht : tmps.getD t (.s .junk) = .part id 0 n) (hid : L[id]? = some (.vec c e)) (hn : n = c.n) (h0 : 0 < n)
    (h : Safe P f X K ⟨tmps.set t (.vec id), L, todo, stk⟩) : Safe P f X K ⟨tmps, L, todo, stk⟩ := by
  intro G E ρ a w hG1 hG2 hr b tf fs hw
  have hd := hr.den t
  rw [show (St.tmps ⟨tmps, L⟩).getD t (.s .junk) = .part id 0 n from ht] at hd
  refine h G E ρ a w hG1 hG2 (hr.refine1 ht ?_) b tf fs hw
  have hd0 := hd
  unfold DenV Den1 at hd
  obtain ⟨h1, o, ho, hv⟩ := hd
  have : o = .vec c e := by
    have : (St.look ⟨tmps, L⟩) id = some (.vec c e) := hid
    rw [this] at ho; cases ho; rfl
  subst this
  obtain ⟨hle, a1, cap, a2, k1, k2, k3, k4⟩ := hv c e rfl
  have hcap : cap ≠ 0 := by omega
  unfold DenV Den1
  refine ⟨h1, .vec c e, ho, fun c' e' he => ?_⟩
  cases he
  rw [k3, k1, k4 hcap, Nat.sub_zero, hn, Nat.zero_mul]
  cases a1 with
  | none => rfl
  | some y => simp [Addr.add]
end
end Go.Sx

namespace Lf
open Go Go.Sx Go.Proofs
def insL {α : Type} (l : List α) (k : Nat) (x : α) : List α := l.take k ++ x :: l.drop k
def specIns : Spec (List En × En × Nat) := ⟨fun x => [.vec 0, .s (.int .i64 (x.2.2 : Int)), .vec 1], fun x => [.vec (.typ cE x.1) eE, .vec (.typ cE [x.2.1]) eE], fun x => [x.2.2 ≤ x.1.length, x.1.length ≤ 100000], fun x => [.dead, .vec (.typ cE [x.2.1]) eE, .vec (.typ cE (insL x.1 x.2.2 x.2.1)) eE], fun x => .vec 2⟩
def nsIns : List (Nat × Norm) := [(8, ⟨[], [0, 1, 2, 7, 8], 2, []⟩)]
noncomputable def cI8 (l : List (CL cE)) (x : CL cE) (k : Nat) : Cfg := ⟨sl 95 [(0, .vec 0), (1, .s (.int .i64 (k : Int))), (2, .vec 1), (7, .s (.int .i64 ((1 : Nat) : Int))), (8, .s (.int .i64 (l.length : Int)))], [.vec (.typ cE l) eE, .vec (.typ cE [x]) eE], hr Try.f106 8, {}⟩
noncomputable def cIA (l : List (CL cE)) (x : CL cE) (k : Nat) : Cfg := ⟨sl 95 [(0, .part 2 0 l.length), (1, .s (.int .i64 (k : Int))), (2, .vec 1), (7, .s (.int .i64 ((1 : Nat) : Int))), (8, .s (.int .i64 (l.length : Int)))], [.dead, .vec (.typ cE [x]) eE, .vec (conMore (.typ cE l) 1) eE], hr Try.f106 8, {}⟩
noncomputable def cIB (l : List (CL cE)) (x : CL cE) (k : Nat) : Cfg := ⟨sl 95 [(0, .s (.rot (.typ cE l) (l.length + 1))), (1, .s (.int .i64 (k : Int))), (2, .vec 1), (7, .s (.int .i64 ((1 : Nat) : Int))), (8, .s (.int .i64 (l.length : Int)))], [.dead, .vec (.typ cE [x]) eE], hr Try.f106 8, {}⟩
def nsIA : List (Nat × Norm) := [(17, ⟨[], [0], 3, []⟩)]
theorem treeIns (l : List (CL cE)) (x : CL cE) (k : Nat) : run P (Tab.sum []) Try.f106 nsIns (start Try.f106 [.vec 0, .s (.int .i64 (k : Int)), .vec 1] [.vec (.typ cE l) eE, .vec (.typ cE [x]) eE]) =
  Tree.need ((0 : Int) ≤ (↑k : Int)) (Tree.need ((↑k : Int) ≤ (↑l.length : Int)) (Tree.need ((↑(0 : Nat) : Int) + (↑l.length : Int) ≤ (↑l.length : Int)) (Tree.ite false (Tree.ret [AObj.vec (Con.typ [CK.str, CK.str] l) (59 : Nat), AObj.vec (Con.typ [CK.str, CK.str] [x]) (59 : Nat)] (AV.vec (0 : Nat))) (Tree.ite ((↑k : Int) == (↑l.length : Int)) (Tree.need (l.length + (1 : Nat) ≤ (4294967296 : Nat)) (Tree.ret [AObj.dead, AObj.vec (Con.typ [CK.str, CK.str] [x]) (59 : Nat), AObj.vec (Con.typ [CK.str, CK.str] (l ++ [x])) (59 : Nat)] (AV.vec (2 : Nat)))) (Tree.at (Cfg.mk (sl (95 : Nat) [((0 : Nat), AV.vec (0 : Nat)), ((1 : Nat), AV.s (SV.int IntKind.i64 (↑k : Int))), ((2 : Nat), AV.vec (1 : Nat)), ((7 : Nat), AV.s (SV.int IntKind.i64 (↑(1 : Nat) : Int))), ((8 : Nat), AV.s (SV.int IntKind.i64 (↑l.length : Int)))]) [AObj.vec (Con.typ [CK.str, CK.str] l) (59 : Nat), AObj.vec (Con.typ [CK.str, CK.str] [x]) (59 : Nat)] (hr Try.f106 (8 : Nat)) (Stk.mk none false (0 : Nat) [] (0 : Nat)))))))) := by kernel_rfl
theorem treeIA (l : List (CL cE)) (x : CL cE) (k : Nat) : run P (Tab.sum []) Try.f106 nsIA (cIA l x k) =
  Tree.need (inI64 ((↑l.length : Int) + (↑(1 : Nat) : Int)))
  (Tree.need ((↑l.length : Int) + (↑(1 : Nat) : Int) ≤ (↑(l.length + (1 : Nat) - (0 : Nat)) : Int))
    (Tree.need (inI64 ((↑l.length : Int) + (↑(1 : Nat) : Int)))
      (Tree.need ((0 : Int) ≤ (0 : Int))
        (Tree.need ((0 : Int) ≤ (↑l.length : Int) + (↑(1 : Nat) : Int))
          (Tree.need ((↑(0 : Nat) : Int) + ((↑l.length : Int) + (↑(1 : Nat) : Int)) ≤ (↑(l.length + (1 : Nat)) : Int))
            (Tree.need (inI64 ((↑k : Int) + (↑(1 : Nat) : Int)))
              (Tree.need ((0 : Int) ≤ (↑k : Int) + (↑(1 : Nat) : Int))
                (Tree.need ((↑k : Int) + (↑(1 : Nat) : Int) ≤ (↑(((↑l.length : Int) + (↑(1 : Nat) : Int)).toNat - Int.toNat (0 : Int)) : Int))
                  (Tree.need ((↑(0 : Nat) : Int) + (↑(((↑l.length : Int) + (↑(1 : Nat) : Int)).toNat - Int.toNat (0 : Int)) : Int) ≤ (↑(l.length + (1 : Nat)) : Int))
                    (Tree.need (OvFn P (127 : Nat))
                      (Tree.need (inI64 ((↑k : Int) + (↑(1 : Nat) : Int))) (Tree.need ((0 : Int) ≤ (↑k : Int) + (↑(1 : Nat) : Int)) (Tree.need ((↑k : Int) + (↑(1 : Nat) : Int) ≤ (↑(((↑l.length : Int) + (↑(1 : Nat) : Int)).toNat - Int.toNat (0 : Int)) : Int)) (Tree.need ((↑(0 : Nat) : Int) + (↑(((↑l.length : Int) + (↑(1 : Nat) : Int)).toNat - Int.toNat (0 : Int)) : Int) ≤ (↑(l.length + (1 : Nat)) : Int)) (Tree.need ((0 : Int) ≤ (↑k : Int)) (Tree.need ((↑k : Int) ≤ (↑(((↑l.length : Int) + (↑(1 : Nat) : Int)).toNat - Int.toNat (0 : Int)) : Int)) (Tree.need ((↑(0 : Nat) : Int) + (↑(((↑l.length : Int) + (↑(1 : Nat) : Int)).toNat - Int.toNat (0 : Int)) : Int) ≤ (↑(l.length + (1 : Nat)) : Int)) (Tree.need ((0 : Int) ≤ (↑k : Int)) (Tree.need ((↑k : Int) ≤ (↑(((↑l.length : Int) + (↑(1 : Nat) : Int)).toNat - Int.toNat (0 : Int)) : Int)) (Tree.need ((↑(0 : Nat) : Int) + (↑(((↑l.length : Int) + (↑(1 : Nat) : Int)).toNat - Int.toNat (0 : Int)) : Int) ≤ (↑(l.length + (1 : Nat)) : Int)) (Tree.at (Cfg.mk (sl (95 : Nat) [((0 : Nat), AV.part (2 : Nat) (0 : Nat) (((↑l.length : Int) + (↑(1 : Nat) : Int)).toNat - Int.toNat (0 : Int)))]) [AObj.dead, AObj.vec (Con.typ [CK.str, CK.str] [x]) (59 : Nat), AObj.vec (Con.recs (Con.recs (Con.recs (Con.typ cE l).size (l.length + (1 : Nat)) fun (i j : Nat) => bif i.blt l.length then (Con.typ cE l).cell i j else SV.junk).size (l.length + (1 : Nat)) fun (i j : Nat) => bif ((0 : Nat) + ((↑k : Int) + (↑(1 : Nat) : Int)).toNat).ble i && i.blt ((0 : Nat) + ((↑k : Int) + (↑(1 : Nat) : Int)).toNat + min ((0 : Nat) + (↑k : Int).toNat + ((↑(((↑l.length : Int) + (↑(1 : Nat) : Int)).toNat - Int.toNat (0 : Int)) : Int).toNat - (↑k : Int).toNat) - ((0 : Nat) + (↑k : Int).toNat)) ((↑(((↑l.length : Int) + (↑(1 : Nat) : Int)).toNat - Int.toNat (0 : Int)) : Int).toNat - ((↑k : Int) + (↑(1 : Nat) : Int)).toNat)) then (conSub (Con.recs (Con.typ cE l).size (l.length + (1 : Nat)) fun (i j : Nat) => bif i.blt l.length then (Con.typ cE l).cell i j else SV.junk) ((0 : Nat) + (↑k : Int).toNat) ((0 : Nat) + (↑k : Int).toNat + ((↑(((↑l.length : Int) + (↑(1 : Nat) : Int)).toNat - Int.toNat (0 : Int)) : Int).toNat - (↑k : Int).toNat))).cell (i - ((0 : Nat) + ((↑k : Int) + (↑(1 : Nat) : Int)).toNat)) j else (Con.recs (Con.typ cE l).size (l.length + (1 : Nat)) fun (i j : Nat) => bif i.blt l.length then (Con.typ cE l).cell i j else SV.junk).cell i j).size (l.length + (1 : Nat)) fun (i j : Nat) => bif ((0 : Nat) + (↑k : Int).toNat).ble i && i.blt ((0 : Nat) + (↑k : Int).toNat + min (1 : Nat) ((↑(((↑l.length : Int) + (↑(1 : Nat) : Int)).toNat - Int.toNat (0 : Int)) : Int).toNat - (↑k : Int).toNat)) then (Con.typ [CK.str, CK.str] [x]).cell (i - ((0 : Nat) + (↑k : Int).toNat)) j else (Con.recs (Con.recs (Con.typ cE l).size (l.length + (1 : Nat)) fun (i j : Nat) => bif i.blt l.length then (Con.typ cE l).cell i j else SV.junk).size (l.length + (1 : Nat)) fun (i j : Nat) => bif ((0 : Nat) + ((↑k : Int) + (↑(1 : Nat) : Int)).toNat).ble i && i.blt ((0 : Nat) + ((↑k : Int) + (↑(1 : Nat) : Int)).toNat + min ((0 : Nat) + (↑k : Int).toNat + ((↑(((↑l.length : Int) + (↑(1 : Nat) : Int)).toNat - Int.toNat (0 : Int)) : Int).toNat - (↑k : Int).toNat) - ((0 : Nat) + (↑k : Int).toNat)) ((↑(((↑l.length : Int) + (↑(1 : Nat) : Int)).toNat - Int.toNat (0 : Int)) : Int).toNat - ((↑k : Int) + (↑(1 : Nat) : Int)).toNat)) then (conSub (Con.recs (Con.typ cE l).size (l.length + (1 : Nat)) fun (i j : Nat) => bif i.blt l.length then (Con.typ cE l).cell i j else SV.junk) ((0 : Nat) + (↑k : Int).toNat) ((0 : Nat) + (↑k : Int).toNat + ((↑(((↑l.length : Int) + (↑(1 : Nat) : Int)).toNat - Int.toNat (0 : Int)) : Int).toNat - (↑k : Int).toNat))).cell (i - ((0 : Nat) + ((↑k : Int) + (↑(1 : Nat) : Int)).toNat)) j else (Con.recs (Con.typ cE l).size (l.length + (1 : Nat)) fun (i j : Nat) => bif i.blt l.length then (Con.typ cE l).cell i j else SV.junk).cell i j).cell i j) (59 : Nat)] (hr Try.f106 (17 : Nat)) (Stk.mk none false (0 : Nat) [] (0 : Nat)))))))))))))))))))))))) := by kernel_rfl
noncomputable def cIC (l : List (CL cE)) (x : CL cE) : Cfg := ⟨sl 95 [(0, .vec 2)], [.dead, .vec (.typ cE [x]) eE, .vec (.typ cE l) eE], hr Try.f106 17, {}⟩
theorem treeIC (l : List (CL cE)) (x : CL cE) : run P (Tab.sum []) Try.f106 [] (cIC l x) =
  Tree.ret [AObj.dead, AObj.vec (Con.typ [CK.str, CK.str] [x]) (59 : Nat), AObj.vec (Con.typ [CK.str, CK.str] l) (59 : Nat)] (AV.vec (2 : Nat)) := by kernel_rfl
theorem treeIB (l : List (CL cE)) (x : CL cE) (k : Nat) : run P (Tab.sum []) Try.f106 [] (cIB l x k) =
  Tree.need (inI64 ((↑l.length : Int) + (↑(1 : Nat) : Int)))
  (Tree.need ((↑(l.length + (1 : Nat)) : Int) ≤ (↑l.length : Int) + (↑(1 : Nat) : Int))
    (Tree.need ((0 : Int) ≤ (↑k : Int))
      (Tree.need ((↑k : Int) ≤ (↑l.length : Int))
        (Tree.need (inI64 ((↑l.length : Int) + (↑(1 : Nat) : Int)))
          (Tree.need (inI64 ((↑l.length : Int) + (↑(1 : Nat) : Int) - (↑k : Int))) (Tree.need ((0 : Int) < (↑l.length : Int) + (↑(1 : Nat) : Int) - (↑k : Int)) (Tree.need ((↑(l.length + (1 : Nat)) : Int) ≤ (↑(List.drop (0 : Nat) (List.take (↑k : Int).toNat l)).length : Int) + ((↑l.length : Int) + (↑(1 : Nat) : Int) - (↑k : Int))) (Tree.need ((↑(List.drop (0 : Nat) (List.take (↑k : Int).toNat l)).length : Int) + ((↑l.length : Int) + (↑(1 : Nat) : Int) - (↑k : Int)) ≤ (4294967296 : Int)) (Tree.need ((0 : Int) ≤ (↑k : Int)) (Tree.need ((↑k : Int) ≤ (↑(List.drop (0 : Nat) (List.take (↑k : Int).toNat l) ++ List.replicate ((↑l.length : Int) + (↑(1 : Nat) : Int) - (↑k : Int)).toNat (CL.d [CK.str, CK.str])).length : Int)) (Tree.need ((↑(0 : Nat) : Int) + (↑(List.drop (0 : Nat) (List.take (↑k : Int).toNat l) ++ List.replicate ((↑l.length : Int) + (↑(1 : Nat) : Int) - (↑k : Int)).toNat (CL.d [CK.str, CK.str])).length : Int) ≤ (↑(List.drop (0 : Nat) (List.take (↑k : Int).toNat l) ++ List.replicate ((↑l.length : Int) + (↑(1 : Nat) : Int) - (↑k : Int)).toNat (CL.d [CK.str, CK.str])).length : Int)) (Tree.need (inI64 ((↑k : Int) + (↑(1 : Nat) : Int))) (Tree.need ((0 : Int) ≤ (↑k : Int) + (↑(1 : Nat) : Int)) (Tree.need ((↑k : Int) + (↑(1 : Nat) : Int) ≤ (↑(over (List.drop (0 : Nat) (List.take (↑k : Int).toNat l) ++ List.replicate ((↑l.length : Int) + (↑(1 : Nat) : Int) - (↑k : Int)).toNat (CL.d [CK.str, CK.str])) ((0 : Nat) + (↑k : Int).toNat) (min (1 : Nat) ((↑(List.drop (0 : Nat) (List.take (↑k : Int).toNat l) ++ List.replicate ((↑l.length : Int) + (↑(1 : Nat) : Int) - (↑k : Int)).toNat (CL.d [CK.str, CK.str])).length : Int).toNat - (↑k : Int).toNat)) [x]).length : Int)) (Tree.need ((↑(0 : Nat) : Int) + (↑(over (List.drop (0 : Nat) (List.take (↑k : Int).toNat l) ++ List.replicate ((↑l.length : Int) + (↑(1 : Nat) : Int) - (↑k : Int)).toNat (CL.d [CK.str, CK.str])) ((0 : Nat) + (↑k : Int).toNat) (min (1 : Nat) ((↑(List.drop (0 : Nat) (List.take (↑k : Int).toNat l) ++ List.replicate ((↑l.length : Int) + (↑(1 : Nat) : Int) - (↑k : Int)).toNat (CL.d [CK.str, CK.str])).length : Int).toNat - (↑k : Int).toNat)) [x]).length : Int) ≤ (↑(over (List.drop (0 : Nat) (List.take (↑k : Int).toNat l) ++ List.replicate ((↑l.length : Int) + (↑(1 : Nat) : Int) - (↑k : Int)).toNat (CL.d [CK.str, CK.str])) ((0 : Nat) + (↑k : Int).toNat) (min (1 : Nat) ((↑(List.drop (0 : Nat) (List.take (↑k : Int).toNat l) ++ List.replicate ((↑l.length : Int) + (↑(1 : Nat) : Int) - (↑k : Int)).toNat (CL.d [CK.str, CK.str])).length : Int).toNat - (↑k : Int).toNat)) [x]).length : Int)) (Tree.need ((0 : Int) ≤ (↑k : Int)) (Tree.need ((↑k : Int) ≤ (↑l.length : Int)) (Tree.need ((↑l.length : Int) ≤ (↑l.length : Int)) (Tree.ret [AObj.dead, AObj.vec (Con.typ [CK.str, CK.str] [x]) (59 : Nat), AObj.vec (Con.typ [CK.str, CK.str] (over (over (List.drop (0 : Nat) (List.take (↑k : Int).toNat l) ++ List.replicate ((↑l.length : Int) + (↑(1 : Nat) : Int) - (↑k : Int)).toNat (CL.d [CK.str, CK.str])) ((0 : Nat) + (↑k : Int).toNat) (min (1 : Nat) ((↑(List.drop (0 : Nat) (List.take (↑k : Int).toNat l) ++ List.replicate ((↑l.length : Int) + (↑(1 : Nat) : Int) - (↑k : Int)).toNat (CL.d [CK.str, CK.str])).length : Int).toNat - (↑k : Int).toNat)) [x]) ((0 : Nat) + ((↑k : Int) + (↑(1 : Nat) : Int)).toNat) (min (List.drop (↑k : Int).toNat (List.take (↑l.length : Int).toNat l)).length ((↑(over (List.drop (0 : Nat) (List.take (↑k : Int).toNat l) ++ List.replicate ((↑l.length : Int) + (↑(1 : Nat) : Int) - (↑k : Int)).toNat (CL.d [CK.str, CK.str])) ((0 : Nat) + (↑k : Int).toNat) (min (1 : Nat) ((↑(List.drop (0 : Nat) (List.take (↑k : Int).toNat l) ++ List.replicate ((↑l.length : Int) + (↑(1 : Nat) : Int) - (↑k : Int)).toNat (CL.d [CK.str, CK.str])).length : Int).toNat - (↑k : Int).toNat)) [x]).length : Int).toNat - ((↑k : Int) + (↑(1 : Nat) : Int)).toNat)) (List.drop (↑k : Int).toNat (List.take (↑l.length : Int).toNat l)))) (59 : Nat)] (AV.vec (2 : Nat))))))))))))))))))))) := by kernel_rfl
theorem over_full {α : Type} {xs ys : List α} {lo k : Nat} (hk : k = ys.length) (h : lo + ys.length = xs.length) : over xs lo k ys = xs.take lo ++ ys := by
  subst hk
  rw [over, List.take_of_length_le (Nat.le_refl _), List.drop_of_length_le (by omega), List.append_nil]
theorem insL_length {α : Type} {l : List α} {k : Nat} {x : α} (h : k ≤ l.length) : (insL l k x).length = l.length + 1 := by
  simp only [insL, List.length_append, List.length_take, List.length_cons, List.length_drop]; omega
theorem insL_end {α : Type} (l : List α) (x : α) : insL l l.length x = l ++ [x] := by simp [insL]
theorem insL_getD {α : Type} {l : List α} {k : Nat} {x d : α} (h : k ≤ l.length) (i : Nat) : (insL l k x).getD i d = if i < k then l.getD i d else if i = k then x else l.getD (i - 1) d := by
  simp only [insL, List.getD]
  split
  · rw [List.getElem?_append_left (by simp; omega), List.getElem?_take, if_pos (by assumption)]
  · rw [List.getElem?_append_right (by simp; omega)]
    rw [List.length_take, Nat.min_eq_left h]
    split
    · rename_i h2; subst h2; simp
    · rw [show i - k = (i - 1 - k) + 1 from by omega, List.getElem?_cons_succ, List.getElem?_drop]
      congr 2; omega
theorem ov_ok : OvFn P 127 := ⟨Try.f127, Try.f127.params.getD 0 0, eE, Try.f127.resultTypes.getD 0 0, 2, Try.func127, by kernel_rfl, by kernel_rfl, by kernel_rfl, by kernel_rfl, by kernel_rfl, by kernel_rfl⟩
theorem insIB_eq {α : Type} {l : List α} {k : Nat} {x d : α} (hk : k < l.length) :
    over (over (List.drop 0 (List.take (k : Int).toNat l) ++ List.replicate ((l.length : Int) + ((1 : Nat) : Int) - (k : Int)).toNat d) (0 + (k : Int).toNat) (min 1 (((List.drop 0 (List.take (k : Int).toNat l) ++ List.replicate ((l.length : Int) + ((1 : Nat) : Int) - (k : Int)).toNat d).length : Int).toNat - (k : Int).toNat)) [x]) (0 + ((k : Int) + ((1 : Nat) : Int)).toNat) (l.length - k) (List.drop (k : Int).toNat (List.take (l.length : Int).toNat l)) = insL l k x := by
  have e1 : (k : Int).toNat = k := by omega
  have e2 : ((l.length : Int) + ((1 : Nat) : Int) - (k : Int)).toNat = l.length + 1 - k := by omega
  have e3 : ((k : Int) + ((1 : Nat) : Int)).toNat = k + 1 := by omega
  have e4 : (l.length : Int).toNat = l.length := by omega
  rw [e1, e2, e3, e4, List.drop_zero, Nat.zero_add, Nat.zero_add, List.take_of_length_le (Nat.le_refl l.length)]
  have hA : (List.take k l ++ List.replicate (l.length + 1 - k) d).length = l.length + 1 := by
    simp only [List.length_append, List.length_take, List.length_replicate]; omega
  rw [hA, show min 1 (((l.length + 1 : Nat) : Int).toNat - k) = 1 from by omega]
  have hov : (over (List.take k l ++ List.replicate (l.length + 1 - k) d) k 1 [x]).length = l.length + 1 := by
    rw [over_length _ _ (by rw [hA]; omega) (by simp), hA]
  rw [over_full (by rw [List.length_drop]) (by rw [hov, List.length_drop]; omega)]
  rw [over, List.take_left' (by simp only [List.length_append, List.length_take, List.length_replicate, List.length_cons, List.length_nil]; omega)]
  rw [List.take_left' (by rw [List.length_take]; omega)]
  simp [insL]
theorem blt_iff {a b : Nat} : a.blt b = decide (a < b) := by
  by_cases h : a < b
  · rw [decide_eq_true h]; simpa [Nat.blt, Nat.lt_iff_add_one_le] using h
  · rw [decide_eq_false h]
    cases hb : a.blt b with
    | false => rfl
    | true => exact absurd (by simpa [Nat.blt, Nat.lt_iff_add_one_le] using hb) h
theorem ble_iff {a b : Nat} : a.ble b = decide (a ≤ b) := by
  by_cases h : a ≤ b
  · rw [decide_eq_true h]; exact Nat.ble_eq_true_of_le h
  · rw [decide_eq_false h]
    cases hb : a.ble b with
    | false => rfl
    | true => exact absurd (Nat.le_of_ble_eq_true hb) h
theorem ins_ok {Z : Glob} : FnS P Z 106 specIns := by
  refine fnS_of_safe Try.func106 (by kernel_rfl) (fun x => Nat.le_of_ble_eq_true (by kernel_rfl)) ?_
  rintro ⟨(l : List (CL cE)), (x : CL cE), (k : Nat)⟩ ⟨(hk : k ≤ l.length), (hl : l.length ≤ 100000), _⟩ X hX hz
  refine goS hz hX (by intro y hy; simp [nsIns] at hy; subst hy; exact Nat.le_refl _) Tab.Ok.nil Try.func106 (treeIns l x k) ⟨by omega, by omega, by omega, (fun h => nomatch h), fun _ => ⟨fun h => ⟨by omega, ⟨⟨[], [0], 2, []⟩, Nat.le_refl _, ?_⟩⟩, fun h => ?_⟩⟩
  · have hkl : k = l.length := by have := eq_of_beq h; omega
    subst hkl
    show Norm.run _ _ = some ⟨[.vec 2], [.dead, .vec (.typ cE [x]) eE, .vec (.typ cE (insL l l.length x)) eE], [], {}⟩
    rw [insL_end]
    kernel_rfl
  have hkl : k < l.length := by
    rcases Nat.lt_or_ge k l.length with h1 | h1
    · exact h1
    · have : k = l.length := by omega
      subst this
      simp at h
  refine room_safe (t := 0) (id := 0) (m := 1) (c := .typ cE l) (e := eE) rfl rfl (by omega) ?_ ?_
  · -- room
    refine (show Safe P 106 X _ (cIA l x k) from ?_)
    have e1 : ((l.length : Int) + ((1 : Nat) : Int)).toNat - Int.toNat 0 = l.length + 1 := by omega
    have tr := treeIA l x k
    rw [e1] at tr
    refine goS hz hX (by intro y hy; simp [nsIA] at hy; subst hy; show 2 ≤ 3; omega) Tab.Ok.nil Try.func106 tr ⟨⟨by omega, by omega⟩, by omega, ⟨by omega, by omega⟩, by omega, by omega, by omega, ⟨by omega, by omega⟩, by omega, by omega, by omega, ov_ok, ⟨by omega, by omega⟩, by omega, by omega, by omega, by omega, by omega, by omega, by omega, by omega, by omega, ?_⟩
    refine con_safe (id := 2) (c' := .typ cE (insL l k x)) rfl ?_ rfl ?_ ?_
    · exact insL_length (by omega)
    · intro i j hi hj
      have hi : i < l.length + 1 := hi
      show CL.cell cE ((insL l k x).getD i (CL.d cE)) j = _
      rw [insL_getD (by omega)]
      by_cases h1 : i < k
      · have p1 : ¬ (0 + (k : Int).toNat ≤ i) := by omega
        have p2 : ¬ (0 + ((k : Int) + ((1 : Nat) : Int)).toNat ≤ i) := by omega
        have p3 : i < l.length := by omega
        simp only [Con.cell, blt_iff, ble_iff, p1, p2, p3, h1, decide_false, decide_true, Bool.false_and, cond_false, cond_true, if_true]
      · by_cases h2 : i = k
        · subst h2
          have p1 : 0 + (i : Int).toNat ≤ i := by omega
          have p2 : i < 0 + (i : Int).toNat + min 1 (((l.length + 1 : Nat) : Int).toNat - (i : Int).toNat) := by omega
          have p3 : i - (0 + (i : Int).toNat) = 0 := by omega
          simp only [Con.cell, blt_iff, ble_iff, p1, p2, p3, h1, decide_true, Bool.true_and, cond_true, if_true, if_false, List.getD_cons_zero]
        · have p1 : ¬ (i < 0 + (k : Int).toNat + min 1 (((l.length + 1 : Nat) : Int).toNat - (k : Int).toNat)) := by omega
          have p2 : 0 + ((k : Int) + ((1 : Nat) : Int)).toNat ≤ i := by omega
          have p3 : i < 0 + ((k : Int) + ((1 : Nat) : Int)).toNat + min (0 + (k : Int).toNat + (((l.length + 1 : Nat) : Int).toNat - (k : Int).toNat) - (0 + (k : Int).toNat)) (((l.length + 1 : Nat) : Int).toNat - ((k : Int) + ((1 : Nat) : Int)).toNat) := by omega
          have p4 : 0 + (k : Int).toNat + (i - (0 + ((k : Int) + ((1 : Nat) : Int)).toNat)) = i - 1 := by omega
          have p5 : i - 1 < l.length := by omega
          simp only [Con.cell, conSub, blt_iff, ble_iff, p1, p2, p3, p4, p5, h1, h2, decide_true, decide_false, Bool.and_false, Bool.and_true, cond_true, cond_false, if_false]
    · refine part_safe (t := 0) (id := 2) (c := .typ cE (insL l k x)) (e := eE) rfl rfl (insL_length (by omega)).symm (by omega) ?_
      refine goS hz hX (by intro y hy; simp at hy) Tab.Ok.nil Try.func106 (treeIC (insL l k x) x) ⟨⟨[], [0], 2, []⟩, Nat.le_refl _, ?_⟩
      show Norm.run _ _ = some ⟨[.vec 2], [.dead, .vec (.typ cE [x]) eE, .vec (.typ cE (insL l k x)) eE], [], {}⟩
      kernel_rfl
  · -- no room
    refine (show Safe P 106 X _ (cIB l x k) from ?_)
    have tr := treeIB l x k
    have eA : (List.drop 0 (List.take (k : Int).toNat l) ++ List.replicate ((l.length : Int) + ((1 : Nat) : Int) - (k : Int)).toNat (CL.d cE)).length = l.length + 1 := by
      simp only [List.drop_zero, List.length_append, List.length_take, List.length_replicate]; omega
    have eB : (over (List.drop 0 (List.take (k : Int).toNat l) ++ List.replicate ((l.length : Int) + ((1 : Nat) : Int) - (k : Int)).toNat (CL.d cE)) (0 + (k : Int).toNat) (min 1 (((List.drop 0 (List.take (k : Int).toNat l) ++ List.replicate ((l.length : Int) + ((1 : Nat) : Int) - (k : Int)).toNat (CL.d cE)).length : Int).toNat - (k : Int).toNat)) [x]).length = l.length + 1 := by
      rw [over_length _ _ (by rw [eA]; omega) (by simp; omega), eA]
    have eC : (List.drop 0 (List.take (k : Int).toNat l)).length = k := by simp only [List.drop_zero, List.length_take]; omega
    have e1 : (min (List.drop (k : Int).toNat (List.take (l.length : Int).toNat l)).length (((over (List.drop 0 (List.take (k : Int).toNat l) ++ List.replicate ((l.length : Int) + ((1 : Nat) : Int) - (k : Int)).toNat (CL.d cE)) (0 + (k : Int).toNat) (min 1 (((List.drop 0 (List.take (k : Int).toNat l) ++ List.replicate ((l.length : Int) + ((1 : Nat) : Int) - (k : Int)).toNat (CL.d cE)).length : Int).toNat - (k : Int).toNat)) [x]).length : Int).toNat - ((k : Int) + ((1 : Nat) : Int)).toNat)) = l.length - k := by
      rw [eB]; simp only [List.length_drop, List.length_take]; omega
    rw [e1, insIB_eq hkl, eB, eA, eC] at tr
    refine goS hz hX (by intro y hy; simp at hy) Tab.Ok.nil Try.func106 tr ⟨⟨by omega, by omega⟩, by omega, by omega, by omega, ⟨by omega, by omega⟩, ⟨by omega, by omega⟩, by omega, by omega, by omega, by omega, by omega, by omega, ⟨by omega, by omega⟩, by omega, by omega, by omega, by omega, by omega, by omega, ⟨⟨[], [0], 2, []⟩, Nat.le_refl _, ?_⟩⟩
    show Norm.run _ _ = some ⟨[.vec 2], [.dead, .vec (.typ cE [x]) eE, .vec (.typ cE (insL l k x)) eE], [], {}⟩
    kernel_rfl
end Lf

namespace Lf
open Go Go.Sx Go.Proofs
def mIns : List AV → RM ((List En × En × Nat) × List Nat)
  | [.vec id, .s (.int .i64 i), .vec id2] => .look id fun o => match o with
    | some (.vec (.typ [.str, .str] l) _) => .look id2 fun o => match o with
      | some (.vec (.typ [.str, .str] [x]) _) => .ret ((l, x, i.toNat), [id, id2])
      | _ => .fail "insert: no element"
    | _ => .fail "insert: no row"
  | _ => .fail "insert"
def tabPut : Tab := [(104, sSearch), (105, sClE), (106, sumS specIns mIns)]
theorem treePut (l : List (CL cE)) (key val : ByteArray) : run P tabPut.sum Try.f50 [] (start Try.f50 [.s (.ro (.typ cE l)), .s (.str key), .s (.str val)] []) =
  Tree.need (l.length ≤ (1000000 : Nat)) (Tree.need (srt (ksE l)) (Tree.need (l.length ≤ (100000 : Nat)) (Tree.ite (atK (ksE l) key) (Tree.need ((0 : Int) ≤ (↑(lbP (ksE l) key) : tInt.V)) (Tree.need ((↑(lbP (ksE l) key) : tInt.V) < (↑l.length : Int)) (Tree.ret [AObj.vec (Con.typ [CK.str, CK.str] (l.set (Int.toNat (↑(lbP (ksE l) key) : tInt.V)) ((l.getD (Int.toNat (↑(lbP (ksE l) key) : tInt.V)) (CL.d [CK.str, CK.str])).fst, val, (l.getD (Int.toNat (↑(lbP (ksE l) key) : tInt.V)) (CL.d [CK.str, CK.str])).snd.snd))) (59 : Nat)] (AV.vec (0 : Nat))))) (Tree.need (some [AV.vec (0 : Nat), AV.s (SV.int IntKind.i64 (↑(lbP (ksE l) key) : tInt.V)), AV.vec (1 : Nat)] = some [AV.vec (0 : Nat), AV.s (SV.int IntKind.i64 (↑(Int.toNat (↑(lbP (ksE l) key) : tInt.V)) : Int)), AV.vec (1 : Nat)]) (Tree.need (some [AObj.vec (Con.typ [CK.str, CK.str] l) (59 : Nat), AObj.vec (Con.typ [CK.str, CK.str] [(key, val, ())]) (59 : Nat)] = some [AObj.vec (Con.typ [CK.str, CK.str] (l, (key, val, ()), Int.toNat (↑(lbP (ksE l) key) : tInt.V)).fst) (59 : Nat), AObj.vec (Con.typ [CK.str, CK.str] [(key, val, ())]) (59 : Nat)]) (Tree.need (Int.toNat (↑(lbP (ksE l) key) : tInt.V) ≤ l.length) (Tree.need (l.length ≤ (100000 : Nat)) (Tree.ret [AObj.dead, AObj.vec (Con.typ [CK.str, CK.str] [(key, val, ())]) (59 : Nat), AObj.vec (Con.typ [CK.str, CK.str] (insL l (Int.toNat (↑(lbP (ksE l) key) : tInt.V)) (key, val, ()))) (59 : Nat)] (AV.vec (2 : Nat)))))))))) := by kernel_rfl
theorem set_take {α : Type} {l : List α} {k : Nat} {x : α} (h : k < l.length) : l.set k x = l.take k ++ x :: l.drop (k + 1) := by
  rw [List.set_eq_take_append_cons_drop, if_pos h]
theorem putE_yes {l : List En} {key val : ByteArray} (h : atK (ksE l) key = true) (h1 : lbP (ksE l) key < l.length) : putE l key val = l.set (lbP (ksE l) key) (key, val, ()) := by
  rw [set_take h1, putE, if_pos h]
theorem putE_no {l : List En} {key val : ByteArray} (h : atK (ksE l) key = false) : putE l key val = insL l (lbP (ksE l) key) (key, val, ()) := by
  rw [putE, if_neg (by rw [h]; simp), insL]
theorem put_ok {Z : Glob} : FnOk P Z 50 [tEs, tStr, tStr] [tEs] (fun (l, _, _, ()) => [(l : List En).length ≤ 100000, srt (ksE l)]) (fun (l, key, val, ()) => (putE l key val, ())) := by
  refine fnOk_of_safe Try.func50 (by kernel_rfl) (by kernel_rfl) ?_
  rintro ⟨(l : List (CL cE)), (key : ByteArray), (val : ByteArray), ⟨⟩⟩ _ ⟨(hl : l.length ≤ 100000), (hs : srt (ksE l)), _⟩ X hX hz
  have hT : tabPut.Ok P Z := Tab.Ok.cons search_ok.sum (Tab.Ok.cons clE_ok.sum (Tab.Ok.cons (ins_ok.sum mIns) Tab.Ok.nil))
  have hn : (ksE l).length = l.length := List.length_map _
  have hle := lbP_le (ksE l) key
  rw [hn] at hle
  refine go hz hX hT Try.func50 (treePut l key val) ⟨by omega, hs, hl, fun h => ?_, fun h => ?_⟩
  · obtain ⟨h1, h2⟩ := atK_iff.1 h
    rw [hn] at h1
    refine ⟨Int.natCast_nonneg _, Int.ofNat_lt.2 h1, ?_⟩
    refine ends_eq (l.set (lbP (ksE l) key) ((l.getD (lbP (ksE l) key) dE).1, val, ()), ()) ?_ (by kernel_rfl)
    have hk : (l.getD (lbP (ksE l) key) dE).1 = key := (map_getD l keyE dE _).symm.trans h2
    rw [hk]
    exact congrArg (fun y => (y, ())) (putE_yes h h1)
  · refine ⟨rfl, rfl, by show lbP (ksE l) key ≤ l.length; exact hle, hl, ?_⟩
    refine ends_eq (insL l (lbP (ksE l) key) (key, val, ()), ()) ?_ (by kernel_rfl)
    exact congrArg (fun y => (y, ())) (putE_no h)
end Lf

namespace Lf
open Go Go.Sx Go.Proofs
abbrev sFind := sumOf [tEs, tStr] [tStr, tBool] (fun (l, _, ()) => [(l : List (CL cE)).length ≤ 1000000, srt (ksE l)]) (fun (l, key, ()) => (fndE l key, fndB l key, ()))
abbrev sRFind := sumOf [tREs, tStr] [tStr, tBool] (fun _ => []) (fun (l, key, ()) => (fndE l key, fndB l key, ()))
abbrev sPut := sumOf [tEs, tStr, tStr] [tEs] (fun (l, _, _, ()) => [(l : List (CL cE)).length ≤ 100000, srt (ksE l)]) (fun (l, key, val, ()) => (putE l key val, ()))
abbrev sDel := sumOf [tEs, tStr] [tEs, tBool] (fun (l, _, ()) => [(l : List (CL cE)).length ≤ 100000, srt (ksE l)]) (fun (l, key, ()) => (delE l key, delB l key, ()))
abbrev sRDel := sumOf [tREs, tStr] [tREs, tBool] (fun (l, _, ()) => [(l : List (CL cE)).length ≤ 100000]) (fun (l, key, ()) => (delE l key, delB l key, ()))
abbrev sRPut := sumOf [tREs, tStr, tStr] [tREs] (fun (l, _, _, ()) => [(l : List (CL cE)).length ≤ 100000]) (fun (l, key, val, ()) => (putT key val false l, ()))
abbrev sRPl := sumOf [tRBs, tStr] [tInt] (fun _ => []) (fun (l, key, ()) => (((plR l key (l : List (CL cB)).length : Nat) : Int), ()))
def tabKe : Tab := [(22, sLarge), (23, sTrue), (24, sGiven), (40, sRMay), (48, sFind), (49, sRFind), (50, sPut), (51, sDel), (52, sRDel), (47, sTold), (53, sREnts), (54, sRPut),
  (26, sPlace), (55, sRPl), (43, sRSame)]
def nsKe : List (Nat × Norm) := [(5, ⟨[], [1, 2, 3, 7, 8], 0, []⟩), (15, ⟨[], [1, 2, 3, 7, 8, 13, 14, 18], 0, []⟩), (19, ⟨[], [1, 2, 3, 7, 8, 14, 19], 0, []⟩)]
abbrev hKe (l : Bool) (es : List (CL cE)) (bs : List (CL cB)) : List AObj := [obN l es bs eRN, .own [.s (.bool l), .vec 2, .vec 3] 31, .vec (.typ cE es) eE, .vec (.typ cB bs) eB]
noncomputable def cKe0 (l : Bool) (es : List (CL cE)) (bs : List (CL cB)) (key val : ByteArray) (i : Int) : Cfg := ⟨sl 150 [(1, .s (.str key)), (2, .s (.str val)), (3, .ptr 0 0), (7, .ptr 1 0), (8, .s (.int .i64 i))], hKe l es bs, hd Try.f9 5, {}⟩
noncomputable def cKe1 (l : Bool) (es p d : List (CL cE)) (bs : List (CL cB)) (key val : ByteArray) (i k : Int) : Cfg := ⟨sl 150 [(1, .s (.str key)), (2, .s (.str val)), (3, .ptr 0 0), (7, .ptr 1 0), (8, .s (.int .i64 i)), (13, .vec 2), (14, .vec 3), (18, .s (.int .i64 k))], [obN l es bs eRN, .own [.s (.bool l), .vec 4, .vec 5] 31, .vec (.typ cE p) eE, .vec (.typ cE d) eE, .vec (.typ cE es) eE, .vec (.typ cB bs) eB], hd Try.f9 15, {}⟩
noncomputable def cKe2 (l : Bool) (es d : List (CL cE)) (bs : List (CL cB)) (key val : ByteArray) (i k : Int) : Cfg := ⟨sl 150 [(1, .s (.str key)), (2, .s (.str val)), (3, .ptr 0 0), (7, .ptr 1 0), (8, .s (.int .i64 i)), (14, .vec 2), (19, .s (.int .i64 k))], [obN l es bs eRN, .own [.s (.bool l), .vec 3, .vec 4] 31, .vec (.typ cE d) eE, .vec (.typ cE es) eE, .vec (.typ cB bs) eB], hd Try.f9 19, {}⟩
theorem treeKe (l : Bool) (es : List (CL cE)) (bs : List (CL cB)) (key val : ByteArray) : run P tabKe.sum Try.f9 nsKe (start Try.f9 [avN l es bs, .s (.str key), .s (.str val)] []) =
  Tree.ite (largeN es bs) (Tree.ret [AObj.own [AV.s (SV.bool l), AV.s (SV.ro (Con.typ [CK.str, CK.str] es)), AV.s (SV.ro (Con.typ [CK.str, CK.int IntKind.i64] bs))] (25 : Nat)] (AV.s (SV.bool true))) (Tree.ite (decide ((↑key.size : Int) > (300 : Int))) (Tree.ret [AObj.own [AV.s (SV.bool l), AV.s (SV.ro (Con.typ [CK.str, CK.str] es)), AV.s (SV.ro (Con.typ [CK.str, CK.int IntKind.i64] bs))] (25 : Nat)] (AV.s (SV.bool true))) (Tree.ite (decide ((↑val.size : Int) > (300 : Int))) (Tree.ret [AObj.own [AV.s (SV.bool l), AV.s (SV.ro (Con.typ [CK.str, CK.str] es)), AV.s (SV.ro (Con.typ [CK.str, CK.int IntKind.i64] bs))] (25 : Nat)] (AV.s (SV.bool true))) (Tree.ite (!mayN l es bs) (Tree.ret [AObj.own [AV.s (SV.bool l), AV.s (SV.ro (Con.typ [CK.str, CK.str] es)), AV.s (SV.ro (Con.typ [CK.str, CK.int IntKind.i64] bs))] (25 : Nat)] (AV.s (SV.bool true))) (Tree.need (es.length ≤ (100000 : Nat)) (Tree.need (bs.length ≤ (100000 : Nat)) (Tree.at (Cfg.mk (sl (150 : Nat) [((1 : Nat), AV.s (SV.str key)), ((2 : Nat), AV.s (SV.str val)), ((3 : Nat), AV.ptr (0 : Nat) (0 : Nat)), ((7 : Nat), AV.ptr (1 : Nat) (0 : Nat)), ((8 : Nat), AV.s (SV.int IntKind.i64 (0 : Int)))]) [AObj.own [AV.s (SV.bool l), AV.s (SV.ro (Con.typ [CK.str, CK.str] es)), AV.s (SV.ro (Con.typ [CK.str, CK.int IntKind.i64] bs))] (25 : Nat), AObj.own [AV.s (SV.bool l), AV.vec (2 : Nat), AV.vec (3 : Nat)] (31 : Nat), AObj.vec (Con.typ [CK.str, CK.str] es) (59 : Nat), AObj.vec (Con.typ [CK.str, CK.int IntKind.i64] bs) (36 : Nat)] (hd Try.f9 (5 : Nat)) (Stk.mk none false (0 : Nat) [] (0 : Nat))))))))) := by kernel_rfl
theorem loopKe0 (l : Bool) (es : List (CL cE)) (bs : List (CL cB)) (key val : ByteArray) (i : Int) : run P tabKe.sum Try.f9 nsKe (cKe0 l es bs key val i) =
  Tree.ite (decide (i < (2 : Int)))
  (Tree.need (es.length ≤ (1000000 : Nat))
    (Tree.need (srt (ksE es))
      (Tree.need (es.length ≤ (100000 : Nat))
        (Tree.need (srt (ksE es))
          (Tree.need (es.length ≤ (100000 : Nat))
            (Tree.need (srt (ksE es))
              (Tree.need (es.length ≤ (100000 : Nat))
                (Tree.ite (!decide (fndE es key = fndE es key)) (Tree.ret [AObj.own [AV.s (SV.bool l), AV.s (SV.ro (Con.typ [CK.str, CK.str] es)), AV.s (SV.ro (Con.typ [CK.str, CK.int IntKind.i64] bs))] (25 : Nat), AObj.own [AV.s (SV.bool l), AV.vec (2 : Nat), AV.vec (3 : Nat)] (31 : Nat), AObj.vec (Con.typ [CK.str, CK.str] es) (59 : Nat), AObj.vec (Con.typ [CK.str, CK.int IntKind.i64] bs) (36 : Nat), AObj.vec (Con.typ [CK.str, CK.str] (putE es key val)) (59 : Nat), AObj.vec (Con.typ [CK.str, CK.str] (delE es key)) (59 : Nat), AObj.vec (Con.typ [CK.str, CK.str] (delE es key)) (134 : Nat)] (AV.s (SV.blit false)))
                  (Tree.ite (!fndB es key == fndB es key) (Tree.ret [AObj.own [AV.s (SV.bool l), AV.s (SV.ro (Con.typ [CK.str, CK.str] es)), AV.s (SV.ro (Con.typ [CK.str, CK.int IntKind.i64] bs))] (25 : Nat), AObj.own [AV.s (SV.bool l), AV.vec (2 : Nat), AV.vec (3 : Nat)] (31 : Nat), AObj.vec (Con.typ [CK.str, CK.str] es) (59 : Nat), AObj.vec (Con.typ [CK.str, CK.int IntKind.i64] bs) (36 : Nat), AObj.vec (Con.typ [CK.str, CK.str] (putE es key val)) (59 : Nat), AObj.vec (Con.typ [CK.str, CK.str] (delE es key)) (59 : Nat), AObj.vec (Con.typ [CK.str, CK.str] (delE es key)) (134 : Nat)] (AV.s (SV.blit false)))
                    (Tree.ite (!delB es key == delB es key) (Tree.ret [AObj.own [AV.s (SV.bool l), AV.s (SV.ro (Con.typ [CK.str, CK.str] es)), AV.s (SV.ro (Con.typ [CK.str, CK.int IntKind.i64] bs))] (25 : Nat), AObj.own [AV.s (SV.bool l), AV.vec (2 : Nat), AV.vec (3 : Nat)] (31 : Nat), AObj.vec (Con.typ [CK.str, CK.str] es) (59 : Nat), AObj.vec (Con.typ [CK.str, CK.int IntKind.i64] bs) (36 : Nat), AObj.vec (Con.typ [CK.str, CK.str] (putE es key val)) (59 : Nat), AObj.vec (Con.typ [CK.str, CK.str] (delE es key)) (59 : Nat), AObj.vec (Con.typ [CK.str, CK.str] (delE es key)) (134 : Nat)] (AV.s (SV.blit false)))
                      (Tree.need ((putE es key val).length ≤ (100000 : Nat)) (Tree.need ((0 : Nat) ≤ (100000 : Nat)) (Tree.need (es.length ≤ (100000 : Nat)) (Tree.ite (!eqEs (putE es key val) (putT key val false es)) (Tree.ret [AObj.own [AV.s (SV.bool l), AV.s (SV.ro (Con.typ [CK.str, CK.str] es)), AV.s (SV.ro (Con.typ [CK.str, CK.int IntKind.i64] bs))] (25 : Nat), AObj.own [AV.s (SV.bool l), AV.vec (2 : Nat), AV.vec (3 : Nat)] (31 : Nat), AObj.vec (Con.typ [CK.str, CK.str] es) (59 : Nat), AObj.vec (Con.typ [CK.str, CK.int IntKind.i64] bs) (36 : Nat), AObj.vec (Con.typ [CK.str, CK.str] (putE es key val)) (59 : Nat), AObj.vec (Con.typ [CK.str, CK.str] (delE es key)) (59 : Nat), AObj.vec (Con.typ [CK.str, CK.str] (delE es key)) (134 : Nat), AObj.vec (Con.typ [CK.str, CK.str] (putE es key val)) (134 : Nat), AObj.vec (Con.typ [CK.str, CK.int IntKind.i64] []) (135 : Nat), AObj.vec (Con.typ [CK.str, CK.str] (putT key val false es)) (134 : Nat)] (AV.s (SV.blit false))) (Tree.need ((delE es key).length ≤ (100000 : Nat)) (Tree.need ((0 : Nat) ≤ (100000 : Nat)) (Tree.ite (!eqEs (delE es key) (delE es key)) (Tree.ret [AObj.own [AV.s (SV.bool l), AV.s (SV.ro (Con.typ [CK.str, CK.str] es)), AV.s (SV.ro (Con.typ [CK.str, CK.int IntKind.i64] bs))] (25 : Nat), AObj.own [AV.s (SV.bool l), AV.vec (2 : Nat), AV.vec (3 : Nat)] (31 : Nat), AObj.vec (Con.typ [CK.str, CK.str] es) (59 : Nat), AObj.vec (Con.typ [CK.str, CK.int IntKind.i64] bs) (36 : Nat), AObj.vec (Con.typ [CK.str, CK.str] (putE es key val)) (59 : Nat), AObj.vec (Con.typ [CK.str, CK.str] (delE es key)) (59 : Nat), AObj.vec (Con.typ [CK.str, CK.str] (delE es key)) (134 : Nat), AObj.vec (Con.typ [CK.str, CK.str] (putE es key val)) (134 : Nat), AObj.vec (Con.typ [CK.str, CK.int IntKind.i64] []) (135 : Nat), AObj.vec (Con.typ [CK.str, CK.str] (putT key val false es)) (134 : Nat), AObj.vec (Con.typ [CK.str, CK.str] (delE es key)) (134 : Nat), AObj.vec (Con.typ [CK.str, CK.int IntKind.i64] []) (135 : Nat)] (AV.s (SV.blit false))) (Tree.need (bs.length ≤ (1000000 : Nat)) (Tree.need (srt (ksB bs)) (Tree.ite (placeF bs key != (↑(plR bs key bs.length) : Int)) (Tree.ret [AObj.own [AV.s (SV.bool l), AV.s (SV.ro (Con.typ [CK.str, CK.str] es)), AV.s (SV.ro (Con.typ [CK.str, CK.int IntKind.i64] bs))] (25 : Nat), AObj.own [AV.s (SV.bool l), AV.vec (2 : Nat), AV.vec (3 : Nat)] (31 : Nat), AObj.vec (Con.typ [CK.str, CK.str] es) (59 : Nat), AObj.vec (Con.typ [CK.str, CK.int IntKind.i64] bs) (36 : Nat), AObj.vec (Con.typ [CK.str, CK.str] (putE es key val)) (59 : Nat), AObj.vec (Con.typ [CK.str, CK.str] (delE es key)) (59 : Nat), AObj.vec (Con.typ [CK.str, CK.str] (delE es key)) (134 : Nat), AObj.vec (Con.typ [CK.str, CK.str] (putE es key val)) (134 : Nat), AObj.vec (Con.typ [CK.str, CK.int IntKind.i64] []) (135 : Nat), AObj.vec (Con.typ [CK.str, CK.str] (putT key val false es)) (134 : Nat), AObj.vec (Con.typ [CK.str, CK.str] (delE es key)) (134 : Nat), AObj.vec (Con.typ [CK.str, CK.int IntKind.i64] []) (135 : Nat)] (AV.s (SV.blit false))) (Tree.at (Cfg.mk (sl (150 : Nat) [((1 : Nat), AV.s (SV.str key)), ((2 : Nat), AV.s (SV.str val)), ((3 : Nat), AV.ptr (0 : Nat) (0 : Nat)), ((7 : Nat), AV.ptr (1 : Nat) (0 : Nat)), ((8 : Nat), AV.s (SV.int IntKind.i64 i)), ((13 : Nat), AV.vec (2 : Nat)), ((14 : Nat), AV.vec (3 : Nat)), ((18 : Nat), AV.s (SV.int IntKind.i64 (0 : Int)))]) [AObj.own [AV.s (SV.bool l), AV.s (SV.ro (Con.typ [CK.str, CK.str] es)), AV.s (SV.ro (Con.typ [CK.str, CK.int IntKind.i64] bs))] (25 : Nat), AObj.own [AV.s (SV.bool l), AV.vec (4 : Nat), AV.vec (5 : Nat)] (31 : Nat), AObj.vec (Con.typ [CK.str, CK.str] (putE es key val)) (59 : Nat), AObj.vec (Con.typ [CK.str, CK.str] (delE es key)) (59 : Nat), AObj.vec (Con.typ [CK.str, CK.str] es) (59 : Nat), AObj.vec (Con.typ [CK.str, CK.int IntKind.i64] bs) (36 : Nat)] (hd Try.f9 (15 : Nat)) (Stk.mk none false (0 : Nat) [] (0 : Nat))))))))))))))))))))))))
  (Tree.need (es.length ≤ (100000 : Nat)) (Tree.need (bs.length ≤ (100000 : Nat)) (Tree.ite (sameN l es bs l es bs) (Tree.ret [AObj.own [AV.s (SV.bool l), AV.s (SV.ro (Con.typ [CK.str, CK.str] es)), AV.s (SV.ro (Con.typ [CK.str, CK.int IntKind.i64] bs))] (25 : Nat), AObj.own [AV.s (SV.bool l), AV.vec (2 : Nat), AV.vec (3 : Nat)] (31 : Nat), AObj.vec (Con.typ [CK.str, CK.str] es) (59 : Nat), AObj.vec (Con.typ [CK.str, CK.int IntKind.i64] bs) (36 : Nat), AObj.vec (Con.typ [CK.str, CK.str] es) (134 : Nat), AObj.vec (Con.typ [CK.str, CK.int IntKind.i64] bs) (135 : Nat)] (AV.s (SV.bool true))) (Tree.ret [AObj.own [AV.s (SV.bool l), AV.s (SV.ro (Con.typ [CK.str, CK.str] es)), AV.s (SV.ro (Con.typ [CK.str, CK.int IntKind.i64] bs))] (25 : Nat), AObj.own [AV.s (SV.bool l), AV.vec (2 : Nat), AV.vec (3 : Nat)] (31 : Nat), AObj.vec (Con.typ [CK.str, CK.str] es) (59 : Nat), AObj.vec (Con.typ [CK.str, CK.int IntKind.i64] bs) (36 : Nat), AObj.vec (Con.typ [CK.str, CK.str] es) (134 : Nat), AObj.vec (Con.typ [CK.str, CK.int IntKind.i64] bs) (135 : Nat)] (AV.s (SV.blit false)))))) := by kernel_rfl
theorem loopKe1 (l : Bool) (es p d : List (CL cE)) (bs : List (CL cB)) (key val : ByteArray) (i k : Int) : run P tabKe.sum Try.f9 nsKe (cKe1 l es p d bs key val i k) =
  Tree.ite (decide (k < (↑p.length : Int))) (Tree.need ((0 : Int) ≤ k) (Tree.need (k < (↑p.length : Int)) (Tree.need (inI64 (k + (1 : Int))) (Tree.at (Cfg.mk (sl (150 : Nat) [((1 : Nat), AV.s (SV.str key)), ((2 : Nat), AV.s (SV.str val)), ((3 : Nat), AV.ptr (0 : Nat) (0 : Nat)), ((7 : Nat), AV.ptr (1 : Nat) (0 : Nat)), ((8 : Nat), AV.s (SV.int IntKind.i64 i)), ((13 : Nat), AV.vec (2 : Nat)), ((14 : Nat), AV.vec (3 : Nat)), ((18 : Nat), AV.s (SV.int IntKind.i64 (k + (1 : Int))))]) [AObj.own [AV.s (SV.bool l), AV.s (SV.ro (Con.typ [CK.str, CK.str] es)), AV.s (SV.ro (Con.typ [CK.str, CK.int IntKind.i64] bs))] (25 : Nat), AObj.own [AV.s (SV.bool l), AV.vec (4 : Nat), AV.vec (5 : Nat)] (31 : Nat), AObj.vec (Con.typ [CK.str, CK.str] (p.set k.toNat ((p.getD k.toNat (CL.d [CK.str, CK.str])).fst, ByteArray.mk #[(115 : UInt8), (112 : UInt8), (111 : UInt8), (105 : UInt8), (108 : UInt8), (116 : UInt8)], (p.getD k.toNat (CL.d [CK.str, CK.str])).snd.snd))) (59 : Nat), AObj.vec (Con.typ [CK.str, CK.str] d) (59 : Nat), AObj.vec (Con.typ [CK.str, CK.str] es) (59 : Nat), AObj.vec (Con.typ [CK.str, CK.int IntKind.i64] bs) (36 : Nat)] (hd Try.f9 (15 : Nat)) (Stk.mk none false (0 : Nat) [] (0 : Nat))))))) (Tree.at (Cfg.mk (sl (150 : Nat) [((1 : Nat), AV.s (SV.str key)), ((2 : Nat), AV.s (SV.str val)), ((3 : Nat), AV.ptr (0 : Nat) (0 : Nat)), ((7 : Nat), AV.ptr (1 : Nat) (0 : Nat)), ((8 : Nat), AV.s (SV.int IntKind.i64 i)), ((14 : Nat), AV.vec (2 : Nat)), ((19 : Nat), AV.s (SV.int IntKind.i64 (0 : Int)))]) [AObj.own [AV.s (SV.bool l), AV.s (SV.ro (Con.typ [CK.str, CK.str] es)), AV.s (SV.ro (Con.typ [CK.str, CK.int IntKind.i64] bs))] (25 : Nat), AObj.own [AV.s (SV.bool l), AV.vec (3 : Nat), AV.vec (4 : Nat)] (31 : Nat), AObj.vec (Con.typ [CK.str, CK.str] d) (59 : Nat), AObj.vec (Con.typ [CK.str, CK.str] es) (59 : Nat), AObj.vec (Con.typ [CK.str, CK.int IntKind.i64] bs) (36 : Nat)] (hd Try.f9 (19 : Nat)) (Stk.mk none false (0 : Nat) [] (0 : Nat)))) := by kernel_rfl
theorem loopKe2 (l : Bool) (es d : List (CL cE)) (bs : List (CL cB)) (key val : ByteArray) (i k : Int) : run P tabKe.sum Try.f9 nsKe (cKe2 l es d bs key val i k) =
  Tree.ite (decide (k < (↑d.length : Int))) (Tree.need ((0 : Int) ≤ k) (Tree.need (k < (↑d.length : Int)) (Tree.need (inI64 (k + (1 : Int))) (Tree.at (Cfg.mk (sl (150 : Nat) [((1 : Nat), AV.s (SV.str key)), ((2 : Nat), AV.s (SV.str val)), ((3 : Nat), AV.ptr (0 : Nat) (0 : Nat)), ((7 : Nat), AV.ptr (1 : Nat) (0 : Nat)), ((8 : Nat), AV.s (SV.int IntKind.i64 i)), ((14 : Nat), AV.vec (2 : Nat)), ((19 : Nat), AV.s (SV.int IntKind.i64 (k + (1 : Int))))]) [AObj.own [AV.s (SV.bool l), AV.s (SV.ro (Con.typ [CK.str, CK.str] es)), AV.s (SV.ro (Con.typ [CK.str, CK.int IntKind.i64] bs))] (25 : Nat), AObj.own [AV.s (SV.bool l), AV.vec (3 : Nat), AV.vec (4 : Nat)] (31 : Nat), AObj.vec (Con.typ [CK.str, CK.str] (d.set k.toNat ((d.getD k.toNat (CL.d [CK.str, CK.str])).fst, ByteArray.mk #[(115 : UInt8), (112 : UInt8), (111 : UInt8), (105 : UInt8), (108 : UInt8), (116 : UInt8)], (d.getD k.toNat (CL.d [CK.str, CK.str])).snd.snd))) (59 : Nat), AObj.vec (Con.typ [CK.str, CK.str] es) (59 : Nat), AObj.vec (Con.typ [CK.str, CK.int IntKind.i64] bs) (36 : Nat)] (hd Try.f9 (19 : Nat)) (Stk.mk none false (0 : Nat) [] (0 : Nat))))))) (Tree.need (inI64 (i + (1 : Int))) (Tree.at (Cfg.mk (sl (150 : Nat) [((1 : Nat), AV.s (SV.str key)), ((2 : Nat), AV.s (SV.str val)), ((3 : Nat), AV.ptr (0 : Nat) (0 : Nat)), ((7 : Nat), AV.ptr (1 : Nat) (0 : Nat)), ((8 : Nat), AV.s (SV.int IntKind.i64 (i + (1 : Int))))]) [AObj.own [AV.s (SV.bool l), AV.s (SV.ro (Con.typ [CK.str, CK.str] es)), AV.s (SV.ro (Con.typ [CK.str, CK.int IntKind.i64] bs))] (25 : Nat), AObj.own [AV.s (SV.bool l), AV.vec (2 : Nat), AV.vec (3 : Nat)] (31 : Nat), AObj.vec (Con.typ [CK.str, CK.str] es) (59 : Nat), AObj.vec (Con.typ [CK.str, CK.int IntKind.i64] bs) (36 : Nat)] (hd Try.f9 (5 : Nat)) (Stk.mk none false (0 : Nat) [] (0 : Nat))))) := by kernel_rfl
theorem tabKe_ok {Z : Glob} : tabKe.Ok P Z := Tab.Ok.cons large_ok.sum (Tab.Ok.cons awake_ok.sum (Tab.Ok.cons given_ok.sum (Tab.Ok.cons rmay_ok.sum (Tab.Ok.cons find_ok.sum (Tab.Ok.cons rfind_ok.sum (Tab.Ok.cons put_ok.sum (Tab.Ok.cons del_ok.sum (Tab.Ok.cons rdel_ok.sum (Tab.Ok.cons told_ok.sum (Tab.Ok.cons rents_ok.sum (Tab.Ok.cons rput_ok.sum
  (Tab.Ok.cons place_ok.sum (Tab.Ok.cons rplace_ok.sum (Tab.Ok.cons rsame_ok.sum Tab.Ok.nil))))))))))))))
theorem may_srt {l : Bool} {es : List En} {bs : List Br} (h : mayN l es bs = true) : srt (ksE es) ∧ srt (ksB bs) := by
  simp only [mayN, Bool.and_eq_true] at h
  exact ⟨srtE h.1.2, srtB h.2⟩
theorem eqEs_refl (a : List En) : eqEs a a = true := by simp [eqEs]
theorem put_le {l : List En} {key val : ByteArray} (h : l.length ≤ 200) : (putE l key val).length ≤ 201 := by rw [put_len]; split <;> omega
theorem eqPut (es : List En) (key val : ByteArray) : (!eqEs (putE es key val) (putT key val false es)) = false := by rw [put_eq, eqEs_refl]; rfl
theorem plEq {bs : List Br} {key : ByteArray} (hs : srt (ksB bs)) : (placeF bs key != ((plR bs key bs.length : Nat) : Int)) = false := by rw [rplace_eq hs]; simp
theorem leafKeys_ok {Z : Glob} : FnOk P Z 9 [tRN, tStr, tStr] [tBool] (fun _ => []) (fun _ => (true, ())) := by
  refine fnOk_of_safe Try.func9 (by kernel_rfl) (by kernel_rfl) ?_
  rintro ⟨⟨(l : Bool), (es : List (CL cE)), (bs : List (CL cB)), ⟨⟩⟩, (key : ByteArray), (val : ByteArray), ⟨⟩⟩ _ _ X hX hz
  show Safe P 9 X (Ends [tBool] (true, ())) _
  refine go hz hX tabKe_ok Try.func9 (treeKe l es bs key val) ⟨fun _ => ends_b, fun hL => ⟨fun _ => ends_b, fun _ => ⟨fun _ => ends_b, fun _ => ⟨fun _ => ends_b, fun hm => ?_⟩⟩⟩⟩
  obtain ⟨hl1, hl2, _, _⟩ := notLarge hL
  have hm : mayN l es bs = true := by simpa using hm
  obtain ⟨hse, hsb⟩ := may_srt hm
  have hel : es.length ≤ 200 := hl1
  have hbl : bs.length ≤ 200 := hl2
  have hpl : (putE es key val).length ≤ 100000 := Nat.le_trans (put_le hl1) (by omega)
  have hdl : (delE es key).length ≤ 100000 := Nat.le_trans (List.length_filter_le _ _) (Nat.le_trans hl1 (by omega))
  refine ⟨by omega, by omega, ?_⟩
  have outer : ∀ (n i : Nat), i + n = 2 → Safe P 9 X (Ends [tBool] (true, ())) (cKe0 l es bs key val (i : Int)) := by
    intro n
    induction n with
    | zero =>
      intro i hi
      refine go hz hX tabKe_ok Try.func9 (loopKe0 l es bs key val i) ⟨fun h => absurd (of_decide_eq_true h) (by omega), fun h => ⟨by omega, by omega, yes_and (same_refl _ _ _) ends_b⟩⟩
    | succ n ih =>
      intro i hi
      have second : ∀ (n k : Nat) (d : List (CL cE)), d.length ≤ 100000 → k + n = d.length → Safe P 9 X (Ends [tBool] (true, ())) (cKe2 l es d bs key val (i : Int) (k : Int)) := by
        intro n
        induction n with
        | zero =>
          intro k d hd hk
          refine go hz hX tabKe_ok Try.func9 (loopKe2 l es d bs key val i k) ⟨fun h => absurd (of_decide_eq_true h) (by omega), fun h => ⟨⟨by omega, by omega⟩, ?_⟩⟩
          exact ih (i + 1) (by omega)
        | succ n ih2 =>
          intro k d hd hk
          refine go hz hX tabKe_ok Try.func9 (loopKe2 l es d bs key val i k) ⟨fun h => ⟨by omega, by omega, ⟨by omega, by omega⟩, ?_⟩, fun h => absurd (of_decide_eq_false h) (by omega)⟩
          exact ih2 (k + 1) _ (Nat.le_trans (Nat.le_of_eq List.length_set) hd) ((show k + 1 + n = d.length by omega).trans List.length_set.symm)
      have first : ∀ (n k : Nat) (p d : List (CL cE)), p.length ≤ 100000 → d.length ≤ 100000 → k + n = p.length → Safe P 9 X (Ends [tBool] (true, ())) (cKe1 l es p d bs key val (i : Int) (k : Int)) := by
        intro n
        induction n with
        | zero =>
          intro k p d hp hd hk
          refine go hz hX tabKe_ok Try.func9 (loopKe1 l es p d bs key val i k) ⟨fun h => absurd (of_decide_eq_true h) (by omega), fun h => ?_⟩
          exact second d.length 0 d hd (by omega)
        | succ n ih2 =>
          intro k p d hp hd hk
          refine go hz hX tabKe_ok Try.func9 (loopKe1 l es p d bs key val i k) ⟨fun h => ⟨by omega, by omega, ⟨by omega, by omega⟩, ?_⟩, fun h => absurd (of_decide_eq_false h) (by omega)⟩
          exact ih2 (k + 1) _ d (Nat.le_trans (Nat.le_of_eq List.length_set) hp) hd ((show k + 1 + n = p.length by omega).trans List.length_set.symm)
      refine go hz hX tabKe_ok Try.func9 (loopKe0 l es bs key val i) ⟨fun h => ⟨by omega, hse, by omega, hse, by omega, hse, by omega, no_and (by simp) (no_and (by simp) (no_and (by simp) ⟨hpl, by omega, by omega, no_and (eqPut es key val) ⟨hdl, by omega, no_and (by rw [eqEs_refl]; rfl) ⟨by omega, hsb, no_and (plEq hsb) ?_⟩⟩⟩))⟩, fun h => absurd (of_decide_eq_false h) (by omega)⟩
      exact first _ 0 _ _ hpl hdl (Nat.zero_add _)
  exact outer 2 0 rfl
end Lf

namespace Lf
open Go Go.Sx Go.Proofs
def tabPs : Tab := [(22, sLarge), (23, sTrue), (24, sGiven), (25, sMay), (48, sFind), (50, sPut), (51, sDel), (33, sSame)]
def nsPs : List (Nat × Norm) := [(14, ⟨[], [1, 2, 3, 9, 10, 11, 12, 13, 14, 15, 16, 18, 19, 20, 21, 22, 23], 0, []⟩)]
noncomputable def cPs (l : Bool) (es p d bare : List (CL cE)) (bs : List (CL cB)) (key other val v a c : ByteArray) (had was is gone b e : Bool) (i : Int) : Cfg := ⟨sl 164 [(1, .s (.str key)), (2, .s (.str other)), (3, .s (.str val)), (9, .ptr 0 0), (10, .vec 1), (11, .vec 2), (12, .s (.bool had)), (13, .vec 3), (14, .s (.bool was)), (15, .s (.str v)), (16, .s (.bool is)), (18, .s (.bool gone)), (19, .s (.str a)), (20, .s (.bool b)), (21, .s (.str c)), (22, .s (.bool e)), (23, .s (.int .i64 i))],
  [.own [.s (.bool l), .vec 4, .vec 5] 31, .vec (.typ cE p) eE, .vec (.typ cE d) eE, .vec (.typ cE bare) eE, .vec (.typ cE es) eE, .vec (.typ cB bs) eB], hd Try.f11 14, {}⟩
theorem treePs (l : Bool) (es : List (CL cE)) (bs : List (CL cB)) (key other val : ByteArray) : run P tabPs.sum Try.f11 nsPs (start Try.f11 [avN l es bs, .s (.str key), .s (.str other), .s (.str val)] []) =
  Tree.ite (largeN es bs) (Tree.ret [AObj.own [AV.s (SV.bool l), AV.s (SV.ro (Con.typ [CK.str, CK.str] es)), AV.s (SV.ro (Con.typ [CK.str, CK.int IntKind.i64] bs))] (25 : Nat)] (AV.s (SV.bool true))) (Tree.ite (decide ((↑key.size : Int) > (300 : Int))) (Tree.ret [AObj.own [AV.s (SV.bool l), AV.s (SV.ro (Con.typ [CK.str, CK.str] es)), AV.s (SV.ro (Con.typ [CK.str, CK.int IntKind.i64] bs))] (25 : Nat)] (AV.s (SV.bool true))) (Tree.ite (decide ((↑other.size : Int) > (300 : Int))) (Tree.ret [AObj.own [AV.s (SV.bool l), AV.s (SV.ro (Con.typ [CK.str, CK.str] es)), AV.s (SV.ro (Con.typ [CK.str, CK.int IntKind.i64] bs))] (25 : Nat)] (AV.s (SV.bool true))) (Tree.ite (decide ((↑val.size : Int) > (300 : Int))) (Tree.ret [AObj.own [AV.s (SV.bool l), AV.s (SV.ro (Con.typ [CK.str, CK.str] es)), AV.s (SV.ro (Con.typ [CK.str, CK.int IntKind.i64] bs))] (25 : Nat)] (AV.s (SV.bool true))) (Tree.ite false (Tree.ret [AObj.own [AV.s (SV.bool l), AV.s (SV.ro (Con.typ [CK.str, CK.str] es)), AV.s (SV.ro (Con.typ [CK.str, CK.int IntKind.i64] bs))] (25 : Nat)] (AV.s (SV.bool true))) (Tree.need (es.length ≤ (100000 : Nat)) (Tree.need (bs.length ≤ (100000 : Nat)) (Tree.ite (!mayN l es bs) (Tree.ret [AObj.own [AV.s (SV.bool l), AV.s (SV.ro (Con.typ [CK.str, CK.str] es)), AV.s (SV.ro (Con.typ [CK.str, CK.int IntKind.i64] bs))] (25 : Nat), AObj.vec (Con.typ [CK.str, CK.str] es) (59 : Nat), AObj.vec (Con.typ [CK.str, CK.int IntKind.i64] bs) (36 : Nat), AObj.own [AV.s (SV.bool l), AV.vec (1 : Nat), AV.vec (2 : Nat)] (31 : Nat)] (AV.s (SV.blit true))) (Tree.ite (!l) (Tree.ret [AObj.own [AV.s (SV.bool l), AV.s (SV.ro (Con.typ [CK.str, CK.str] es)), AV.s (SV.ro (Con.typ [CK.str, CK.int IntKind.i64] bs))] (25 : Nat), AObj.vec (Con.typ [CK.str, CK.str] es) (59 : Nat), AObj.vec (Con.typ [CK.str, CK.int IntKind.i64] bs) (36 : Nat), AObj.own [AV.s (SV.bool l), AV.vec (1 : Nat), AV.vec (2 : Nat)] (31 : Nat)] (AV.s (SV.blit true))) (Tree.need (es.length ≤ (100000 : Nat)) (Tree.need (srt (ksE es)) (Tree.need ((putE es key val).length ≤ (100000 : Nat)) (Tree.need (srt (ksE (putE es key val))) (Tree.need (es.length ≤ (100000 : Nat)) (Tree.need (srt (ksE es)) (Tree.need ((putE es key val).length ≤ (1000000 : Nat)) (Tree.need (srt (ksE (putE es key val))) (Tree.need ((delE (putE es key val) key).length ≤ (1000000 : Nat)) (Tree.need (srt (ksE (delE (putE es key val) key))) (Tree.need ((putE es key val).length ≤ (1000000 : Nat)) (Tree.need (srt (ksE (putE es key val))) (Tree.need (es.length ≤ (1000000 : Nat)) (Tree.need (srt (ksE es)) (Tree.at (Cfg.mk (sl (164 : Nat) [((1 : Nat), AV.s (SV.str key)), ((2 : Nat), AV.s (SV.str other)), ((3 : Nat), AV.s (SV.str val)), ((9 : Nat), AV.ptr (0 : Nat) (0 : Nat)), ((10 : Nat), AV.vec (1 : Nat)), ((11 : Nat), AV.vec (2 : Nat)), ((12 : Nat), AV.s (SV.bool (delB (putE es key val) key))), ((13 : Nat), AV.vec (3 : Nat)), ((14 : Nat), AV.s (SV.bool (delB es key))), ((15 : Nat), AV.s (SV.str (fndE (putE es key val) key))), ((16 : Nat), AV.s (SV.bool (fndB (putE es key val) key))), ((18 : Nat), AV.s (SV.bool (fndB (delE (putE es key val) key) key))), ((19 : Nat), AV.s (SV.str (fndE (putE es key val) other))), ((20 : Nat), AV.s (SV.bool (fndB (putE es key val) other))), ((21 : Nat), AV.s (SV.str (fndE es other))), ((22 : Nat), AV.s (SV.bool (fndB es other))), ((23 : Nat), AV.s (SV.int IntKind.i64 (1 : Int)))]) [AObj.own [AV.s (SV.bool l), AV.vec (4 : Nat), AV.vec (5 : Nat)] (31 : Nat), AObj.vec (Con.typ [CK.str, CK.str] (putE es key val)) (59 : Nat), AObj.vec (Con.typ [CK.str, CK.str] (delE (putE es key val) key)) (59 : Nat), AObj.vec (Con.typ [CK.str, CK.str] (delE es key)) (59 : Nat), AObj.vec (Con.typ [CK.str, CK.str] es) (59 : Nat), AObj.vec (Con.typ [CK.str, CK.int IntKind.i64] bs) (36 : Nat)] (hd Try.f11 (14 : Nat)) (Stk.mk none false (0 : Nat) [] (0 : Nat)))))))))))))))))))))))))) := by kernel_rfl
theorem loopPs (l : Bool) (es p d bare : List (CL cE)) (bs : List (CL cB)) (key other val v a c : ByteArray) (had was is gone b e : Bool) (i : Int) : run P tabPs.sum Try.f11 nsPs (cPs l es p d bare bs key other val v a c had was is gone b e i) =
  Tree.ite (decide (i < (↑p.length : Int))) (Tree.need (inI64 (i - (1 : Int))) (Tree.need ((0 : Int) ≤ i - (1 : Int)) (Tree.need (i - (1 : Int) < (↑p.length : Int)) (Tree.need ((0 : Int) ≤ i) (Tree.need (i < (↑p.length : Int)) (Tree.ite (!slt (p.getD (i - (1 : Int)).toNat (CL.d [CK.str, CK.str])).fst (p.getD i.toNat (CL.d [CK.str, CK.str])).fst) (Tree.ret [AObj.own [AV.s (SV.bool l), AV.vec (4 : Nat), AV.vec (5 : Nat)] (31 : Nat), AObj.vec (Con.typ [CK.str, CK.str] p) (59 : Nat), AObj.vec (Con.typ [CK.str, CK.str] d) (59 : Nat), AObj.vec (Con.typ [CK.str, CK.str] bare) (59 : Nat), AObj.vec (Con.typ [CK.str, CK.str] es) (59 : Nat), AObj.vec (Con.typ [CK.str, CK.int IntKind.i64] bs) (36 : Nat)] (AV.s (SV.blit false))) (Tree.need (inI64 (i + (1 : Int))) (Tree.at (Cfg.mk (sl (164 : Nat) [((1 : Nat), AV.s (SV.str key)), ((2 : Nat), AV.s (SV.str other)), ((3 : Nat), AV.s (SV.str val)), ((9 : Nat), AV.ptr (0 : Nat) (0 : Nat)), ((10 : Nat), AV.vec (1 : Nat)), ((11 : Nat), AV.vec (2 : Nat)), ((12 : Nat), AV.s (SV.bool had)), ((13 : Nat), AV.vec (3 : Nat)), ((14 : Nat), AV.s (SV.bool was)), ((15 : Nat), AV.s (SV.str v)), ((16 : Nat), AV.s (SV.bool is)), ((18 : Nat), AV.s (SV.bool gone)), ((19 : Nat), AV.s (SV.str a)), ((20 : Nat), AV.s (SV.bool b)), ((21 : Nat), AV.s (SV.str c)), ((22 : Nat), AV.s (SV.bool e)), ((23 : Nat), AV.s (SV.int IntKind.i64 (i + (1 : Int))))]) [AObj.own [AV.s (SV.bool l), AV.vec (4 : Nat), AV.vec (5 : Nat)] (31 : Nat), AObj.vec (Con.typ [CK.str, CK.str] p) (59 : Nat), AObj.vec (Con.typ [CK.str, CK.str] d) (59 : Nat), AObj.vec (Con.typ [CK.str, CK.str] bare) (59 : Nat), AObj.vec (Con.typ [CK.str, CK.str] es) (59 : Nat), AObj.vec (Con.typ [CK.str, CK.int IntKind.i64] bs) (36 : Nat)] (hd Try.f11 (14 : Nat)) (Stk.mk none false (0 : Nat) [] (0 : Nat)))))))))))
  (Tree.ite was
    (Tree.ite is (Tree.ite (decide (v = val)) (Tree.ite had (Tree.ite (!gone) (Tree.ite (decide (other = key)) (Tree.need (inI64 ((↑es.length : Int) + (0 : Int))) (Tree.ite ((↑p.length : Int) == (↑es.length : Int) + (0 : Int)) (Tree.ret [AObj.own [AV.s (SV.bool l), AV.vec (4 : Nat), AV.vec (5 : Nat)] (31 : Nat), AObj.vec (Con.typ [CK.str, CK.str] p) (59 : Nat), AObj.vec (Con.typ [CK.str, CK.str] d) (59 : Nat), AObj.vec (Con.typ [CK.str, CK.str] bare) (59 : Nat), AObj.vec (Con.typ [CK.str, CK.str] es) (59 : Nat), AObj.vec (Con.typ [CK.str, CK.int IntKind.i64] bs) (36 : Nat)] (AV.s (SV.bool (sameN false d [] false bare [])))) (Tree.ret [AObj.own [AV.s (SV.bool l), AV.vec (4 : Nat), AV.vec (5 : Nat)] (31 : Nat), AObj.vec (Con.typ [CK.str, CK.str] p) (59 : Nat), AObj.vec (Con.typ [CK.str, CK.str] d) (59 : Nat), AObj.vec (Con.typ [CK.str, CK.str] bare) (59 : Nat), AObj.vec (Con.typ [CK.str, CK.str] es) (59 : Nat), AObj.vec (Con.typ [CK.str, CK.int IntKind.i64] bs) (36 : Nat)] (AV.s (SV.blit false))))) (Tree.ite (decide (a = c)) (Tree.ite (b == e) (Tree.need (inI64 ((↑es.length : Int) + (0 : Int))) (Tree.ite ((↑p.length : Int) == (↑es.length : Int) + (0 : Int)) (Tree.ret [AObj.own [AV.s (SV.bool l), AV.vec (4 : Nat), AV.vec (5 : Nat)] (31 : Nat), AObj.vec (Con.typ [CK.str, CK.str] p) (59 : Nat), AObj.vec (Con.typ [CK.str, CK.str] d) (59 : Nat), AObj.vec (Con.typ [CK.str, CK.str] bare) (59 : Nat), AObj.vec (Con.typ [CK.str, CK.str] es) (59 : Nat), AObj.vec (Con.typ [CK.str, CK.int IntKind.i64] bs) (36 : Nat)] (AV.s (SV.bool (sameN false d [] false bare [])))) (Tree.ret [AObj.own [AV.s (SV.bool l), AV.vec (4 : Nat), AV.vec (5 : Nat)] (31 : Nat), AObj.vec (Con.typ [CK.str, CK.str] p) (59 : Nat), AObj.vec (Con.typ [CK.str, CK.str] d) (59 : Nat), AObj.vec (Con.typ [CK.str, CK.str] bare) (59 : Nat), AObj.vec (Con.typ [CK.str, CK.str] es) (59 : Nat), AObj.vec (Con.typ [CK.str, CK.int IntKind.i64] bs) (36 : Nat)] (AV.s (SV.blit false))))) (Tree.ret [AObj.own [AV.s (SV.bool l), AV.vec (4 : Nat), AV.vec (5 : Nat)] (31 : Nat), AObj.vec (Con.typ [CK.str, CK.str] p) (59 : Nat), AObj.vec (Con.typ [CK.str, CK.str] d) (59 : Nat), AObj.vec (Con.typ [CK.str, CK.str] bare) (59 : Nat), AObj.vec (Con.typ [CK.str, CK.str] es) (59 : Nat), AObj.vec (Con.typ [CK.str, CK.int IntKind.i64] bs) (36 : Nat)] (AV.s (SV.blit false)))) (Tree.ret [AObj.own [AV.s (SV.bool l), AV.vec (4 : Nat), AV.vec (5 : Nat)] (31 : Nat), AObj.vec (Con.typ [CK.str, CK.str] p) (59 : Nat), AObj.vec (Con.typ [CK.str, CK.str] d) (59 : Nat), AObj.vec (Con.typ [CK.str, CK.str] bare) (59 : Nat), AObj.vec (Con.typ [CK.str, CK.str] es) (59 : Nat), AObj.vec (Con.typ [CK.str, CK.int IntKind.i64] bs) (36 : Nat)] (AV.s (SV.blit false))))) (Tree.ret [AObj.own [AV.s (SV.bool l), AV.vec (4 : Nat), AV.vec (5 : Nat)] (31 : Nat), AObj.vec (Con.typ [CK.str, CK.str] p) (59 : Nat), AObj.vec (Con.typ [CK.str, CK.str] d) (59 : Nat), AObj.vec (Con.typ [CK.str, CK.str] bare) (59 : Nat), AObj.vec (Con.typ [CK.str, CK.str] es) (59 : Nat), AObj.vec (Con.typ [CK.str, CK.int IntKind.i64] bs) (36 : Nat)] (AV.s (SV.blit false)))) (Tree.ret [AObj.own [AV.s (SV.bool l), AV.vec (4 : Nat), AV.vec (5 : Nat)] (31 : Nat), AObj.vec (Con.typ [CK.str, CK.str] p) (59 : Nat), AObj.vec (Con.typ [CK.str, CK.str] d) (59 : Nat), AObj.vec (Con.typ [CK.str, CK.str] bare) (59 : Nat), AObj.vec (Con.typ [CK.str, CK.str] es) (59 : Nat), AObj.vec (Con.typ [CK.str, CK.int IntKind.i64] bs) (36 : Nat)] (AV.s (SV.blit false)))) (Tree.ret [AObj.own [AV.s (SV.bool l), AV.vec (4 : Nat), AV.vec (5 : Nat)] (31 : Nat), AObj.vec (Con.typ [CK.str, CK.str] p) (59 : Nat), AObj.vec (Con.typ [CK.str, CK.str] d) (59 : Nat), AObj.vec (Con.typ [CK.str, CK.str] bare) (59 : Nat), AObj.vec (Con.typ [CK.str, CK.str] es) (59 : Nat), AObj.vec (Con.typ [CK.str, CK.int IntKind.i64] bs) (36 : Nat)] (AV.s (SV.blit false))))
      (Tree.ret [AObj.own [AV.s (SV.bool l), AV.vec (4 : Nat), AV.vec (5 : Nat)] (31 : Nat), AObj.vec (Con.typ [CK.str, CK.str] p) (59 : Nat), AObj.vec (Con.typ [CK.str, CK.str] d) (59 : Nat), AObj.vec (Con.typ [CK.str, CK.str] bare) (59 : Nat), AObj.vec (Con.typ [CK.str, CK.str] es) (59 : Nat), AObj.vec (Con.typ [CK.str, CK.int IntKind.i64] bs) (36 : Nat)] (AV.s (SV.blit false))))
    (Tree.ite is (Tree.ite (decide (v = val)) (Tree.ite had (Tree.ite (!gone) (Tree.ite (decide (other = key)) (Tree.need (inI64 ((↑es.length : Int) + (1 : Int))) (Tree.ite ((↑p.length : Int) == (↑es.length : Int) + (1 : Int)) (Tree.ret [AObj.own [AV.s (SV.bool l), AV.vec (4 : Nat), AV.vec (5 : Nat)] (31 : Nat), AObj.vec (Con.typ [CK.str, CK.str] p) (59 : Nat), AObj.vec (Con.typ [CK.str, CK.str] d) (59 : Nat), AObj.vec (Con.typ [CK.str, CK.str] bare) (59 : Nat), AObj.vec (Con.typ [CK.str, CK.str] es) (59 : Nat), AObj.vec (Con.typ [CK.str, CK.int IntKind.i64] bs) (36 : Nat)] (AV.s (SV.bool (sameN false d [] false bare [])))) (Tree.ret [AObj.own [AV.s (SV.bool l), AV.vec (4 : Nat), AV.vec (5 : Nat)] (31 : Nat), AObj.vec (Con.typ [CK.str, CK.str] p) (59 : Nat), AObj.vec (Con.typ [CK.str, CK.str] d) (59 : Nat), AObj.vec (Con.typ [CK.str, CK.str] bare) (59 : Nat), AObj.vec (Con.typ [CK.str, CK.str] es) (59 : Nat), AObj.vec (Con.typ [CK.str, CK.int IntKind.i64] bs) (36 : Nat)] (AV.s (SV.blit false))))) (Tree.ite (decide (a = c)) (Tree.ite (b == e) (Tree.need (inI64 ((↑es.length : Int) + (1 : Int))) (Tree.ite ((↑p.length : Int) == (↑es.length : Int) + (1 : Int)) (Tree.ret [AObj.own [AV.s (SV.bool l), AV.vec (4 : Nat), AV.vec (5 : Nat)] (31 : Nat), AObj.vec (Con.typ [CK.str, CK.str] p) (59 : Nat), AObj.vec (Con.typ [CK.str, CK.str] d) (59 : Nat), AObj.vec (Con.typ [CK.str, CK.str] bare) (59 : Nat), AObj.vec (Con.typ [CK.str, CK.str] es) (59 : Nat), AObj.vec (Con.typ [CK.str, CK.int IntKind.i64] bs) (36 : Nat)] (AV.s (SV.bool (sameN false d [] false bare [])))) (Tree.ret [AObj.own [AV.s (SV.bool l), AV.vec (4 : Nat), AV.vec (5 : Nat)] (31 : Nat), AObj.vec (Con.typ [CK.str, CK.str] p) (59 : Nat), AObj.vec (Con.typ [CK.str, CK.str] d) (59 : Nat), AObj.vec (Con.typ [CK.str, CK.str] bare) (59 : Nat), AObj.vec (Con.typ [CK.str, CK.str] es) (59 : Nat), AObj.vec (Con.typ [CK.str, CK.int IntKind.i64] bs) (36 : Nat)] (AV.s (SV.blit false))))) (Tree.ret [AObj.own [AV.s (SV.bool l), AV.vec (4 : Nat), AV.vec (5 : Nat)] (31 : Nat), AObj.vec (Con.typ [CK.str, CK.str] p) (59 : Nat), AObj.vec (Con.typ [CK.str, CK.str] d) (59 : Nat), AObj.vec (Con.typ [CK.str, CK.str] bare) (59 : Nat), AObj.vec (Con.typ [CK.str, CK.str] es) (59 : Nat), AObj.vec (Con.typ [CK.str, CK.int IntKind.i64] bs) (36 : Nat)] (AV.s (SV.blit false)))) (Tree.ret [AObj.own [AV.s (SV.bool l), AV.vec (4 : Nat), AV.vec (5 : Nat)] (31 : Nat), AObj.vec (Con.typ [CK.str, CK.str] p) (59 : Nat), AObj.vec (Con.typ [CK.str, CK.str] d) (59 : Nat), AObj.vec (Con.typ [CK.str, CK.str] bare) (59 : Nat), AObj.vec (Con.typ [CK.str, CK.str] es) (59 : Nat), AObj.vec (Con.typ [CK.str, CK.int IntKind.i64] bs) (36 : Nat)] (AV.s (SV.blit false))))) (Tree.ret [AObj.own [AV.s (SV.bool l), AV.vec (4 : Nat), AV.vec (5 : Nat)] (31 : Nat), AObj.vec (Con.typ [CK.str, CK.str] p) (59 : Nat), AObj.vec (Con.typ [CK.str, CK.str] d) (59 : Nat), AObj.vec (Con.typ [CK.str, CK.str] bare) (59 : Nat), AObj.vec (Con.typ [CK.str, CK.str] es) (59 : Nat), AObj.vec (Con.typ [CK.str, CK.int IntKind.i64] bs) (36 : Nat)] (AV.s (SV.blit false)))) (Tree.ret [AObj.own [AV.s (SV.bool l), AV.vec (4 : Nat), AV.vec (5 : Nat)] (31 : Nat), AObj.vec (Con.typ [CK.str, CK.str] p) (59 : Nat), AObj.vec (Con.typ [CK.str, CK.str] d) (59 : Nat), AObj.vec (Con.typ [CK.str, CK.str] bare) (59 : Nat), AObj.vec (Con.typ [CK.str, CK.str] es) (59 : Nat), AObj.vec (Con.typ [CK.str, CK.int IntKind.i64] bs) (36 : Nat)] (AV.s (SV.blit false)))) (Tree.ret [AObj.own [AV.s (SV.bool l), AV.vec (4 : Nat), AV.vec (5 : Nat)] (31 : Nat), AObj.vec (Con.typ [CK.str, CK.str] p) (59 : Nat), AObj.vec (Con.typ [CK.str, CK.str] d) (59 : Nat), AObj.vec (Con.typ [CK.str, CK.str] bare) (59 : Nat), AObj.vec (Con.typ [CK.str, CK.str] es) (59 : Nat), AObj.vec (Con.typ [CK.str, CK.int IntKind.i64] bs) (36 : Nat)] (AV.s (SV.blit false))))
      (Tree.ret [AObj.own [AV.s (SV.bool l), AV.vec (4 : Nat), AV.vec (5 : Nat)] (31 : Nat), AObj.vec (Con.typ [CK.str, CK.str] p) (59 : Nat), AObj.vec (Con.typ [CK.str, CK.str] d) (59 : Nat), AObj.vec (Con.typ [CK.str, CK.str] bare) (59 : Nat), AObj.vec (Con.typ [CK.str, CK.str] es) (59 : Nat), AObj.vec (Con.typ [CK.str, CK.int IntKind.i64] bs) (36 : Nat)] (AV.s (SV.blit false))))) := by kernel_rfl
theorem tabPs_ok {Z : Glob} : tabPs.Ok P Z := Tab.Ok.cons large_ok.sum (Tab.Ok.cons awake_ok.sum (Tab.Ok.cons given_ok.sum (Tab.Ok.cons may_ok.sum (Tab.Ok.cons find_ok.sum (Tab.Ok.cons put_ok.sum (Tab.Ok.cons del_ok.sum (Tab.Ok.cons same_ok.sum Tab.Ok.nil)))))))
theorem ends_t {L : List AObj} {b : Bool} (h : b = true) : Ends [tBool] (true, ()) L (.s (.bool b)) := by subst h; exact ends_b
theorem srt_get {p : List (CL cE)} (h : srt (ksE p)) {i j : Nat} (hij : i < j) (hj : j < p.length) : slt (p.getD i (CL.d cE)).1 (p.getD j (CL.d cE)).1 = true := by
  have hk : ∀ t, (ksE p).getD t ByteArray.empty = (p.getD t dE).1 := fun t => map_getD p keyE dE t
  have := h i j hij (by rw [show (ksE p).length = p.length from List.length_map _]; exact hj)
  rw [hk, hk] at this
  exact this
theorem puts_fin {Z : Glob} {X : Ctx} (hX : ∀ id, X.H id = none) (hz : ZCtx Z X) (l : Bool) (es p d : List (CL cE)) (bs : List (CL cB)) (key other val a c : ByteArray) (was b e : Bool) (hps : srt (ksE p)) (hpl : p.length ≤ 201) (hel : es.length ≤ 200)
    (hlen : p.length = es.length + if was = true then 0 else 1) (ho : other ≠ key → b = e ∧ a = c) : ∀ n k : Nat, 1 ≤ k → k + n = p.length → Safe P 11 X (Ends [tBool] (true, ())) (cPs l es p d d bs key other val val a c true was true false b e (k : Int)) := by
  intro n
  induction n with
  | zero =>
    intro k hk1 hk
    refine go hz hX tabPs_ok Try.func11 (loopPs l es p d d bs key other val val a c true was true false b e k) ⟨fun h => absurd (of_decide_eq_true h) (by omega), fun _ => ?_⟩
    have same : sameN false d [] false d [] = true := same_refl _ _ _
    cases was with
    | true =>
      refine yes_and rfl (yes_and rfl (yes_and (by simp) (yes_and rfl (yes_and rfl ⟨fun _ => ⟨⟨by omega, by omega⟩, yes_and (by simp at hlen; simp [hlen]) (ends_t same)⟩, fun hne => ?_⟩))))
      obtain ⟨h1, h2⟩ := ho (of_decide_eq_false hne)
      exact yes_and (by simp [h2]) (yes_and (by simp [h1]) ⟨⟨by omega, by omega⟩, yes_and (by simp at hlen; simp [hlen]) (ends_t same)⟩)
    | false =>
      refine no_and rfl (yes_and rfl (yes_and (by simp) (yes_and rfl (yes_and rfl ⟨fun _ => ⟨⟨by omega, by omega⟩, yes_and (by simp at hlen; simp [hlen]) (ends_t same)⟩, fun hne => ?_⟩))))
      obtain ⟨h1, h2⟩ := ho (of_decide_eq_false hne)
      exact yes_and (by simp [h2]) (yes_and (by simp [h1]) ⟨⟨by omega, by omega⟩, yes_and (by simp at hlen; simp [hlen]) (ends_t same)⟩)
  | succ n ih =>
    intro k hk1 hk
    refine go hz hX tabPs_ok Try.func11 (loopPs l es p d d bs key other val val a c true was true false b e k) ⟨fun _ => ⟨⟨by omega, by omega⟩, by omega, by omega, by omega, by omega, no_and ?_ ⟨⟨by omega, by omega⟩, ?_⟩⟩, fun h => absurd (of_decide_eq_false h) (by omega)⟩
    · have e1 : ((k : Int) - 1).toNat = k - 1 := by omega
      have e2 : (k : Int).toNat = k := by omega
      rw [e1, e2, srt_get hps (by omega) (by omega)]; rfl
    · exact ih (k + 1) (by omega) (by omega)
theorem leafPuts_ok {Z : Glob} : FnOk P Z 11 [tRN, tStr, tStr, tStr] [tBool] (fun _ => []) (fun _ => (true, ())) := by
  refine fnOk_of_safe Try.func11 (by kernel_rfl) (by kernel_rfl) ?_
  rintro ⟨⟨(l : Bool), (es : List (CL cE)), (bs : List (CL cB)), ⟨⟩⟩, (key : ByteArray), (other : ByteArray), (val : ByteArray), ⟨⟩⟩ _ _ X hX hz
  show Safe P 11 X (Ends [tBool] (true, ())) _
  refine go hz hX tabPs_ok Try.func11 (treePs l es bs key other val) ⟨fun _ => ends_b, fun hL => ⟨fun _ => ends_b, fun _ => ⟨fun _ => ends_b, fun _ => ⟨fun _ => ends_b, fun _ => no_and rfl ?_⟩⟩⟩⟩
  obtain ⟨hl1, hl2, _, _⟩ := notLarge hL
  have hel : es.length ≤ 200 := hl1
  have hbl : bs.length ≤ 200 := hl2
  refine ⟨by omega, by omega, fun _ => ends_b, fun hm => ⟨fun _ => ends_b, fun hlf => ?_⟩⟩
  have hm : mayN l es bs = true := by simpa using hm
  obtain ⟨hse, hsb⟩ := may_srt hm
  have hps := put_srt key val hse
  have hpl : (putE es key val).length ≤ 201 := put_le hl1
  have hds := del_srt key hps
  have hdl : (delE (putE es key val) key).length ≤ 201 := Nat.le_trans (List.length_filter_le _ _) hpl
  refine ⟨by omega, hse, by omega, hps, by omega, hse, by omega, hps, by omega, hds, by omega, hps, by omega, hse, ?_⟩
  have f1 := find_put (l := es) (key := key) (val := val)
  have f2 : delB (putE es key val) key = true := by rw [← fnd_atK hps]; exact f1.1
  have f3 : fndB (delE (putE es key val) key) key = false := find_del
  have f4 : ∀ h : other ≠ key, fndB (putE es key val) other = fndB es other ∧ fndE (putE es key val) other = fndE es other := fun h => find_put_other h
  have f5 : delE (putE es key val) key = delE es key := del_put
  have f6 := put_len (l := es) (key := key) (val := val)
  rw [← delB_eq hse] at f6
  rw [f1.1, f1.2, f2, f3, f5]
  have hpos : 1 ≤ (putE es key val).length := by simp only [putE, List.length_append, List.length_cons]; omega
  exact puts_fin hX hz l es (putE es key val) (delE es key) bs key other val _ _ (delB es key) _ _ hps hpl hl1 f6 f4 _ 1 (Nat.le_refl _) (Nat.add_sub_cancel' hpos)
end Lf
