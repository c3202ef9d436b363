import Derived.Test.YtjmdfmafnenjnaaL2
namespace Lf
open Go Go.Sx Go.Proofs
abbrev sPl1 := sumOf [tBr, tStr] [tInt] (fun _ => []) (fun ((a, _, ()), b, ()) => (cmpS a b, ()))
abbrev sSe1 := sumOf [tEn, tStr] [tInt] (fun _ => []) (fun ((a, _, ()), b, ()) => (cmpS a b, ()))
def tabBS : Tab := [(90, sPl1), (126, sSe1)]
def nsBS : List (Nat × Norm) := [(3, ⟨[], [0, 1, 2, 8, 9, 10], 0, []⟩)]
noncomputable def cBSB (bs : List Br) (key : ByteArray) (i j : Int) : Cfg := ⟨sl 49 [(0, .s (.ro (.typ cB bs))), (1, .s (.str key)), (2, .s (.fn0 90)), (8, .s (.int .i64 (bs.length : Int))), (9, .s (.int .i64 i)), (10, .s (.int .i64 j))], [], hd Try.f89 3⟩
theorem treeBSB (bs : List Br) (key : ByteArray) : run P tabBS.sum Try.f89 nsBS (start Try.f89 [.s (.ro (.typ cB bs)), .s (.str key), .s (.fn0 90)] []) =
  Tree.at (Cfg.mk (sl (49 : Nat) [((0 : Nat), AV.s (SV.ro (Con.typ [CK.str, CK.int IntKind.i64] bs))), ((1 : Nat), AV.s (SV.str key)), ((2 : Nat), AV.s (SV.fn0 (90 : Nat))), ((8 : Nat), AV.s (SV.int IntKind.i64 (↑bs.length : Int))), ((9 : Nat), AV.s (SV.int IntKind.i64 (0 : Int))), ((10 : Nat), AV.s (SV.int IntKind.i64 (↑bs.length : Int)))]) [] (hd Try.f89 (3 : Nat))) := by kernel_rfl
theorem loopBSB (bs : List Br) (key : ByteArray) (i j : Int) : run P tabBS.sum Try.f89 nsBS (cBSB bs key i j) =
  Tree.ite (decide (i < j)) (Tree.need (inI64 (i + j)) (Tree.need ((0 : Int) ≤ (1 : Int)) (Tree.need (inI64 ((IntKind.u64.wrap (i + j)).fdiv ((2 : Int) ^ min (Int.toNat (1 : Int)) IntKind.u64.bits))) (Tree.need ((0 : Int) ≤ (IntKind.u64.wrap (i + j)).fdiv ((2 : Int) ^ min (Int.toNat (1 : Int)) IntKind.u64.bits)) (Tree.need ((IntKind.u64.wrap (i + j)).fdiv ((2 : Int) ^ min (Int.toNat (1 : Int)) IntKind.u64.bits) < (↑bs.length : Int)) (Tree.ite (decide (cmpS (bs.getD ((IntKind.u64.wrap (i + j)).fdiv ((2 : Int) ^ min (Int.toNat (1 : Int)) IntKind.u64.bits)).toNat (CL.d [CK.str, CK.int IntKind.i64])).fst key < (0 : Int))) (Tree.need (inI64 ((IntKind.u64.wrap (i + j)).fdiv ((2 : Int) ^ min (Int.toNat (1 : Int)) IntKind.u64.bits) + (1 : Int))) (Tree.at (Cfg.mk (sl (49 : Nat) [((0 : Nat), AV.s (SV.ro (Con.typ [CK.str, CK.int IntKind.i64] bs))), ((1 : Nat), AV.s (SV.str key)), ((2 : Nat), AV.s (SV.fn0 (90 : Nat))), ((8 : Nat), AV.s (SV.int IntKind.i64 (↑bs.length : Int))), ((9 : Nat), AV.s (SV.int IntKind.i64 ((IntKind.u64.wrap (i + j)).fdiv ((2 : Int) ^ min (Int.toNat (1 : Int)) IntKind.u64.bits) + (1 : Int)))), ((10 : Nat), AV.s (SV.int IntKind.i64 j))]) [] (hd Try.f89 (3 : Nat))))) (Tree.at (Cfg.mk (sl (49 : Nat) [((0 : Nat), AV.s (SV.ro (Con.typ [CK.str, CK.int IntKind.i64] bs))), ((1 : Nat), AV.s (SV.str key)), ((2 : Nat), AV.s (SV.fn0 (90 : Nat))), ((8 : Nat), AV.s (SV.int IntKind.i64 (↑bs.length : Int))), ((9 : Nat), AV.s (SV.int IntKind.i64 i)), ((10 : Nat), AV.s (SV.int IntKind.i64 ((IntKind.u64.wrap (i + j)).fdiv ((2 : Int) ^ min (Int.toNat (1 : Int)) IntKind.u64.bits))))]) [] (hd Try.f89 (3 : Nat)))))))))) (Tree.ite (decide (i < (↑bs.length : Int))) (Tree.need ((0 : Int) ≤ i) (Tree.need (i < (↑bs.length : Int)) (Tree.ret [] (AV.tup [AV.s (SV.int IntKind.i64 i), AV.s (SV.bool (cmpS (bs.getD i.toNat (CL.d [CK.str, CK.int IntKind.i64])).fst key == (0 : Int)))])))) (Tree.ret [] (AV.tup [AV.s (SV.int IntKind.i64 i), AV.s (SV.blit false)]))) := by kernel_rfl
noncomputable def cBSE (bs : List En) (key : ByteArray) (i j : Int) : Cfg := ⟨sl 49 [(0, .s (.ro (.typ cE bs))), (1, .s (.str key)), (2, .s (.fn0 126)), (8, .s (.int .i64 (bs.length : Int))), (9, .s (.int .i64 i)), (10, .s (.int .i64 j))], [], hd Try.f125 3⟩
theorem treeBSE (bs : List En) (key : ByteArray) : run P tabBS.sum Try.f125 nsBS (start Try.f125 [.s (.ro (.typ cE bs)), .s (.str key), .s (.fn0 126)] []) =
  Tree.at (Cfg.mk (sl (49 : Nat) [((0 : Nat), AV.s (SV.ro (Con.typ [CK.str, CK.str] bs))), ((1 : Nat), AV.s (SV.str key)), ((2 : Nat), AV.s (SV.fn0 (126 : Nat))), ((8 : Nat), AV.s (SV.int IntKind.i64 (↑bs.length : Int))), ((9 : Nat), AV.s (SV.int IntKind.i64 (0 : Int))), ((10 : Nat), AV.s (SV.int IntKind.i64 (↑bs.length : Int)))]) [] (hd Try.f125 (3 : Nat))) := by kernel_rfl
theorem loopBSE (bs : List En) (key : ByteArray) (i j : Int) : run P tabBS.sum Try.f125 nsBS (cBSE bs key i j) =
  Tree.ite (decide (i < j)) (Tree.need (inI64 (i + j)) (Tree.need ((0 : Int) ≤ (1 : Int)) (Tree.need (inI64 ((IntKind.u64.wrap (i + j)).fdiv ((2 : Int) ^ min (Int.toNat (1 : Int)) IntKind.u64.bits))) (Tree.need ((0 : Int) ≤ (IntKind.u64.wrap (i + j)).fdiv ((2 : Int) ^ min (Int.toNat (1 : Int)) IntKind.u64.bits)) (Tree.need ((IntKind.u64.wrap (i + j)).fdiv ((2 : Int) ^ min (Int.toNat (1 : Int)) IntKind.u64.bits) < (↑bs.length : Int)) (Tree.ite (decide (cmpS (bs.getD ((IntKind.u64.wrap (i + j)).fdiv ((2 : Int) ^ min (Int.toNat (1 : Int)) IntKind.u64.bits)).toNat (CL.d [CK.str, CK.str])).fst key < (0 : Int))) (Tree.need (inI64 ((IntKind.u64.wrap (i + j)).fdiv ((2 : Int) ^ min (Int.toNat (1 : Int)) IntKind.u64.bits) + (1 : Int))) (Tree.at (Cfg.mk (sl (49 : Nat) [((0 : Nat), AV.s (SV.ro (Con.typ [CK.str, CK.str] bs))), ((1 : Nat), AV.s (SV.str key)), ((2 : Nat), AV.s (SV.fn0 (126 : Nat))), ((8 : Nat), AV.s (SV.int IntKind.i64 (↑bs.length : Int))), ((9 : Nat), AV.s (SV.int IntKind.i64 ((IntKind.u64.wrap (i + j)).fdiv ((2 : Int) ^ min (Int.toNat (1 : Int)) IntKind.u64.bits) + (1 : Int)))), ((10 : Nat), AV.s (SV.int IntKind.i64 j))]) [] (hd Try.f125 (3 : Nat))))) (Tree.at (Cfg.mk (sl (49 : Nat) [((0 : Nat), AV.s (SV.ro (Con.typ [CK.str, CK.str] bs))), ((1 : Nat), AV.s (SV.str key)), ((2 : Nat), AV.s (SV.fn0 (126 : Nat))), ((8 : Nat), AV.s (SV.int IntKind.i64 (↑bs.length : Int))), ((9 : Nat), AV.s (SV.int IntKind.i64 i)), ((10 : Nat), AV.s (SV.int IntKind.i64 ((IntKind.u64.wrap (i + j)).fdiv ((2 : Int) ^ min (Int.toNat (1 : Int)) IntKind.u64.bits))))]) [] (hd Try.f125 (3 : Nat)))))))))) (Tree.ite (decide (i < (↑bs.length : Int))) (Tree.need ((0 : Int) ≤ i) (Tree.need (i < (↑bs.length : Int)) (Tree.ret [] (AV.tup [AV.s (SV.int IntKind.i64 i), AV.s (SV.bool (cmpS (bs.getD i.toNat (CL.d [CK.str, CK.str])).fst key == (0 : Int)))])))) (Tree.ret [] (AV.tup [AV.s (SV.int IntKind.i64 i), AV.s (SV.blit false)]))) := by kernel_rfl
abbrev keyB (x : Br) : ByteArray := x.1
abbrev keyE (x : En) : ByteArray := x.1
abbrev ksB (l : List Br) : List ByteArray := l.map keyB
abbrev ksE (l : List En) : List ByteArray := l.map keyE
def lbP (ks : List ByteArray) (key : ByteArray) : Nat := (ks.takeWhile (fun k => slt k key)).length
def atK (ks : List ByteArray) (key : ByteArray) : Bool := decide (ks[lbP ks key]? = some key)
def srt (ks : List ByteArray) : Prop := ∀ i j, i < j → j < ks.length → slt (ks.getD i ByteArray.empty) (ks.getD j ByteArray.empty) = true

theorem map_getD {α : Type} (l : List α) (f : α → ByteArray) (d : α) (t : Nat) (hd : f d = ByteArray.empty := by rfl) : (l.map f).getD t ByteArray.empty = f (l.getD t d) := by
  simp only [List.getD, List.getElem?_map]
  cases l[t]? with
  | none => exact hd.symm
  | some x => rfl

theorem lbP_eq : ∀ {ks : List ByteArray} {key : ByteArray} {i : Nat}, i ≤ ks.length → (∀ t, t < i → slt (ks.getD t ByteArray.empty) key = true) → (i < ks.length → slt (ks.getD i ByteArray.empty) key = false) → lbP ks key = i
  | [], key, i, h, _, _ => by
    simp only [List.length_nil, Nat.le_zero] at h
    subst h; rfl
  | k :: ks, key, 0, h, _, h2 => by
    have := h2 (by simp)
    simp only [List.getD_cons_zero] at this
    simp [lbP, List.takeWhile, this]
  | k :: ks, key, i + 1, h, h1, h2 => by
    have h0 := h1 0 (by omega)
    simp only [List.getD_cons_zero] at h0
    have := lbP_eq (ks := ks) (key := key) (i := i) (by simpa using h) (fun t ht => by simpa using h1 (t + 1) (by omega)) (fun hi => by simpa using h2 (by simpa using hi))
    simp only [lbP] at this ⊢
    simp [List.takeWhile, h0, this]

theorem beq_decide (n : Int) : (n == 0) = decide (n = 0) := by
  by_cases h : n = 0 <;> simp [h]

theorem mid_eq {s : Int} (h0 : 0 ≤ s) (h1 : s < 9223372036854775808) : (IntKind.u64.wrap s).fdiv (2 ^ min (Int.toNat 1) IntKind.u64.bits) = s / 2 := by
  have e1 : IntKind.u64.wrap s = s := by
    show s % 18446744073709551616 = s
    omega
  rw [e1]
  show s.fdiv 2 = s / 2
  rw [Int.fdiv_eq_ediv_of_nonneg _ (by omega)]

theorem tabBS_ok {Z : Glob} : tabBS.Ok P Z := Tab.Ok.cons place1_ok.sum (Tab.Ok.cons search1_ok.sum Tab.Ok.nil)

theorem bsB_ok {Z : Glob} : FnOk P Z 89 [tBs, tStr, .b .fn] [tInt, tBool] (fun (l, _, f, ()) => [(f : Nat) = 90, (l : List Br).length ≤ 1000000, srt (ksB l)]) (fun (l, key, _, ()) => ((lbP (ksB l) key : Nat), atK (ksB l) key, ())) := by
  refine fnOk_of_safe Try.func89 (by kernel_rfl) (by kernel_rfl) ?_
  rintro ⟨(l : List Br), (key : ByteArray), (f : Nat), ⟨⟩⟩ _ ⟨(hf : f = 90), (hl : l.length ≤ 1000000), (hs : srt (ksB l)), _⟩ X hX hz
  subst hf
  have hk : ∀ t, (ksB l).getD t ByteArray.empty = (l.getD t dB).1 := fun t => map_getD l keyB dB t
  have hn : (ksB l).length = l.length := List.length_map _
  have loop : ∀ (n i j : Nat), j - i ≤ n → i ≤ j → j ≤ l.length → (∀ t, t < i → slt (l.getD t dB).1 key = true) → (∀ t, j ≤ t → t < l.length → slt (l.getD t dB).1 key = false) →
      Safe P 89 X (Ends [tInt, tBool] ((lbP (ksB l) key : Nat), atK (ksB l) key, ())) (cBSB l key (i : Int) (j : Int)) := by
    intro n
    induction n with
    | zero =>
      intro i j h1 h2 h3 h4 h5
      have hlb : lbP (ksB l) key = i := lbP_eq (by rw [hn]; omega) (fun t ht => by rw [hk]; exact h4 t ht) (fun h => by rw [hn] at h; rw [hk]; exact h5 i (by omega) h)
      refine go hz hX tabBS_ok Try.func89 (loopBSB l key i j) ⟨fun h => absurd (of_decide_eq_true h) (by omega), fun h => ⟨fun h6 => ⟨by omega, of_decide_eq_true h6, ?_⟩, fun h6 => ?_⟩⟩
      · have h7 : i < l.length := by have := of_decide_eq_true h6; omega
        simp only [Int.toNat_natCast]
        rw [atK, hlb]
        refine ends_eq ((i : Int), cmpS (l.getD i dB).1 key == 0, ()) ?_ (by kernel_rfl)
        congr 2
        rw [List.getElem?_map, List.getElem?_eq_getElem h7, getD_lt h7]
        simp only [Option.map_some, Option.some.injEq]
        rw [beq_decide, decide_eq_decide.2 (cmpS_eq _ _)]
      · have h7 : ¬ i < l.length := by have := of_decide_eq_false h6; omega
        rw [atK, hlb]
        refine ends_eq ((i : Int), false, ()) ?_ (by kernel_rfl)
        congr 2
        rw [List.getElem?_map, List.getElem?_eq_none (Nat.le_of_not_lt h7)]
        rfl
    | succ n ih =>
      intro i j h1 h2 h3 h4 h5
      by_cases hij : i < j
      · have e := mid_eq (s := (i : Int) + (j : Int)) (by omega) (by omega)
        have e2 : ((i : Int) + (j : Int)) / 2 = ((i + j) / 2 : Nat) := by omega
        refine go hz hX tabBS_ok Try.func89 (loopBSB l key i j) ?_
        rw [e, e2]
        simp only [Int.toNat_natCast]
        refine ⟨fun h => ⟨⟨by omega, by omega⟩, by decide, ⟨by omega, by omega⟩, by omega, by omega, fun h6 => ⟨⟨by omega, by omega⟩, ?_⟩, fun h6 => ?_⟩, fun h => absurd (of_decide_eq_false h) (by omega)⟩
        · have h7 : slt (l.getD ((i + j) / 2) dB).1 key = true := (cmpS_lt _ _).1 (of_decide_eq_true h6)
          refine ih ((i + j) / 2 + 1) j (by omega) (by omega) h3 (fun t ht => ?_) h5
          by_cases hte : t = (i + j) / 2
          · rw [hte]; exact h7
          · have := hs t ((i + j) / 2) (by omega) (by omega)
            rw [hk, hk] at this
            exact slt_trans this h7
        · have h7 : slt (l.getD ((i + j) / 2) dB).1 key = false := by
            cases h8 : slt (l.getD ((i + j) / 2) dB).1 key
            · rfl
            · exact absurd ((cmpS_lt _ _).2 h8) (of_decide_eq_false h6)
          refine ih i ((i + j) / 2) (by omega) (by omega) (by omega) h4 (fun t ht htl => ?_)
          by_cases hte : t = (i + j) / 2
          · rw [hte]; exact h7
          · have := hs ((i + j) / 2) t (by omega) (by omega)
            rw [hk, hk] at this
            cases h8 : slt (l.getD t dB).1 key
            · rfl
            · rw [slt_trans this h8] at h7; cases h7
      · exact ih i j (by omega) h2 h3 h4 h5
  exact go hz hX tabBS_ok Try.func89 (treeBSB l key) (loop l.length 0 l.length (by omega) (by omega) (by omega) (fun t ht => by omega) (fun t ht htl => by omega))

theorem bsE_ok {Z : Glob} : FnOk P Z 125 [tEs, tStr, .b .fn] [tInt, tBool] (fun (l, _, f, ()) => [(f : Nat) = 126, (l : List En).length ≤ 1000000, srt (ksE l)]) (fun (l, key, _, ()) => ((lbP (ksE l) key : Nat), atK (ksE l) key, ())) := by
  refine fnOk_of_safe Try.func125 (by kernel_rfl) (by kernel_rfl) ?_
  rintro ⟨(l : List En), (key : ByteArray), (f : Nat), ⟨⟩⟩ _ ⟨(hf : f = 126), (hl : l.length ≤ 1000000), (hs : srt (ksE l)), _⟩ X hX hz
  subst hf
  have hk : ∀ t, (ksE l).getD t ByteArray.empty = (l.getD t dE).1 := fun t => map_getD l keyE dE t
  have hn : (ksE l).length = l.length := List.length_map _
  have loop : ∀ (n i j : Nat), j - i ≤ n → i ≤ j → j ≤ l.length → (∀ t, t < i → slt (l.getD t dE).1 key = true) → (∀ t, j ≤ t → t < l.length → slt (l.getD t dE).1 key = false) →
      Safe P 125 X (Ends [tInt, tBool] ((lbP (ksE l) key : Nat), atK (ksE l) key, ())) (cBSE l key (i : Int) (j : Int)) := by
    intro n
    induction n with
    | zero =>
      intro i j h1 h2 h3 h4 h5
      have hlb : lbP (ksE l) key = i := lbP_eq (by rw [hn]; omega) (fun t ht => by rw [hk]; exact h4 t ht) (fun h => by rw [hn] at h; rw [hk]; exact h5 i (by omega) h)
      refine go hz hX tabBS_ok Try.func125 (loopBSE l key i j) ⟨fun h => absurd (of_decide_eq_true h) (by omega), fun h => ⟨fun h6 => ⟨by omega, of_decide_eq_true h6, ?_⟩, fun h6 => ?_⟩⟩
      · have h7 : i < l.length := by have := of_decide_eq_true h6; omega
        simp only [Int.toNat_natCast]
        rw [atK, hlb]
        refine ends_eq ((i : Int), cmpS (l.getD i dE).1 key == 0, ()) ?_ (by kernel_rfl)
        congr 2
        rw [List.getElem?_map, List.getElem?_eq_getElem h7, getD_lt h7]
        simp only [Option.map_some, Option.some.injEq]
        rw [beq_decide, decide_eq_decide.2 (cmpS_eq _ _)]
      · have h7 : ¬ i < l.length := by have := of_decide_eq_false h6; omega
        rw [atK, hlb]
        refine ends_eq ((i : Int), false, ()) ?_ (by kernel_rfl)
        congr 2
        rw [List.getElem?_map, List.getElem?_eq_none (Nat.le_of_not_lt h7)]
        rfl
    | succ n ih =>
      intro i j h1 h2 h3 h4 h5
      by_cases hij : i < j
      · have e := mid_eq (s := (i : Int) + (j : Int)) (by omega) (by omega)
        have e2 : ((i : Int) + (j : Int)) / 2 = ((i + j) / 2 : Nat) := by omega
        refine go hz hX tabBS_ok Try.func125 (loopBSE l key i j) ?_
        rw [e, e2]
        simp only [Int.toNat_natCast]
        refine ⟨fun h => ⟨⟨by omega, by omega⟩, by decide, ⟨by omega, by omega⟩, by omega, by omega, fun h6 => ⟨⟨by omega, by omega⟩, ?_⟩, fun h6 => ?_⟩, fun h => absurd (of_decide_eq_false h) (by omega)⟩
        · have h7 : slt (l.getD ((i + j) / 2) dE).1 key = true := (cmpS_lt _ _).1 (of_decide_eq_true h6)
          refine ih ((i + j) / 2 + 1) j (by omega) (by omega) h3 (fun t ht => ?_) h5
          by_cases hte : t = (i + j) / 2
          · rw [hte]; exact h7
          · have := hs t ((i + j) / 2) (by omega) (by omega)
            rw [hk, hk] at this
            exact slt_trans this h7
        · have h7 : slt (l.getD ((i + j) / 2) dE).1 key = false := by
            cases h8 : slt (l.getD ((i + j) / 2) dE).1 key
            · rfl
            · exact absurd ((cmpS_lt _ _).2 h8) (of_decide_eq_false h6)
          refine ih i ((i + j) / 2) (by omega) (by omega) (by omega) h4 (fun t ht htl => ?_)
          by_cases hte : t = (i + j) / 2
          · rw [hte]; exact h7
          · have := hs ((i + j) / 2) t (by omega) (by omega)
            rw [hk, hk] at this
            cases h8 : slt (l.getD t dE).1 key
            · rfl
            · rw [slt_trans this h8] at h7; cases h7
      · exact ih i j (by omega) h2 h3 h4 h5
  exact go hz hX tabBS_ok Try.func125 (treeBSE l key) (loop l.length 0 l.length (by omega) (by omega) (by omega) (fun t ht => by omega) (fun t ht htl => by omega))
end Lf
