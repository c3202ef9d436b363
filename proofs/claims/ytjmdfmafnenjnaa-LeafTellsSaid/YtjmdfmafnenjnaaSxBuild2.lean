import Derived.Test.YtjmdfmafnenjnaaSxBuild
/-! Slices written out. -/
namespace Go.Sx
open Go

section
variable {ρ ρ' : Nat → Value} {H H' : AHeap} {G O O' : Nat → Prop} {w w' : World} {P : Program}

/-- Values of one cell each, side by side. -/
def Pts (O : Nat → Prop) (w : World) (l : List SV) (cs : List Value) : Prop := l.length = cs.length ∧ ∀ (i : Nat) (v : SV), l[i]? = some v → ∃ u, cs[i]? = some u ∧ DenS O w v u

theorem Pts_nil : Pts O w [] ([] : List Value) := ⟨rfl, by simp⟩
theorem Pts_cons {v : SV} {l : List SV} {cs : List Value} (h : Pts O w (v :: l) cs) : ∃ u cs', cs = u :: cs' ∧ DenS O w v u ∧ Pts O w l cs' := by
  obtain ⟨h1, h2⟩ := h
  cases cs with
  | nil => simp at h1
  | cons u cs' =>
    obtain ⟨u', h3, h4⟩ := h2 0 v rfl
    simp at h3
    subst h3
    exact ⟨_, _, rfl, h4, by simpa using h1, fun i x hx => by simpa using h2 (i + 1) x (by simpa using hx)⟩
theorem Pts_mk {v : SV} {l : List SV} {u : Value} {cs : List Value} (h1 : DenS O w v u) (h2 : Pts O w l cs) : Pts O w (v :: l) (u :: cs) :=
  ⟨by simp [h2.1], fun i x hx => by
    cases i with
    | zero => simp at hx; subst hx; exact ⟨u, rfl, h1⟩
    | succ i => simpa using h2.2 i x (by simpa using hx)⟩

theorem svs_ok : ∀ (as : List AV) {l : List SV} {cs : List Value}, svs as = some l → DenSegs ρ H O w as cs → Pts O w l cs
  | [], l, cs, h, hd => by
    simp only [svs, Option.some.injEq] at h
    subst h
    obtain rfl := DenSegs_nil.1 hd
    exact Pts_nil
  | a :: as, l, cs, h, hd => by
    obtain ⟨c1, c2, rfl, h1, h2⟩ := DenSegs_cons.1 hd
    rcases isInts a with ⟨k, n, ws, rfl⟩ | ha
    · simp [svs] at h
    · have hs : svs (a :: as) = match a.sv?, svs as with | some v, some vs => some (v :: vs) | _, _ => none := by
        cases a <;> first | rfl | (exact (ha _ _ _ rfl).elim)
      rw [hs] at h
      split at h
      · rename_i v vs hv hvs
        simp only [Option.some.injEq] at h
        subst h
        cases a with
        | s x =>
          unfold DenC at h1
          obtain ⟨u, rfl, hu⟩ := h1
          have : x = v := by cases x <;> simp only [AV.sv?, Option.some.injEq, reduceCtorEq] at hv <;> exact hv
          subst this
          exact Pts_mk hu (svs_ok as hvs h2)
        | emp =>
          unfold DenC at h1
          obtain ⟨u, rfl, x, rfl⟩ := h1
          simp only [AV.sv?, Option.some.injEq] at hv
          subst hv
          exact Pts_mk (.ro (.recs 1 0 fun _ _ => .junk) x 0 (fun _ _ => undef) 0 0 (Nat.le_refl _) (by simp [maxLen]) (by simp [Con.n]) (by simp [Con.n]) (by simp [Con.n])) (svs_ok as hvs h2)
        | _ => simp [AV.sv?] at hv
      · cases h

theorem numsOf_ok (k : IntKind) : ∀ (l : List SV) {zs : List Int} {cs : List Value}, numsOf k l = some zs → Pts O w l cs → zs.length = cs.length ∧ ∀ i, i < zs.length → ∃ u, cs[i]? = some u ∧ DenS O w (.int k (zs.getD i 0)) u
  | [], zs, cs, h, hp => by
    simp only [numsOf, Option.some.injEq] at h
    subst h
    exact ⟨hp.1, by simp⟩
  | v :: l, zs, cs, h, hp => by
    obtain ⟨u, cs', rfl, hu, hp'⟩ := Pts_cons hp
    have key : ∀ k' n, DenS O w (.int k' n) u → (bif kindEq k k' then (numsOf k l).map (n :: ·) else none) = some zs → zs.length = (u :: cs').length ∧ ∀ i, i < zs.length → ∃ x, (u :: cs')[i]? = some x ∧ DenS O w (.int k (zs.getD i 0)) x := by
      intro k' n hd h
      rw [Bool.cond_eq_ite] at h
      split at h
      · rename_i hk
        obtain rfl := kindEq_eq hk
        simp only [Option.map_eq_some_iff] at h
        obtain ⟨zs', h1, rfl⟩ := h
        obtain ⟨h2, h3⟩ := numsOf_ok k l h1 hp'
        refine ⟨by simp [h2], fun i hi => ?_⟩
        cases i with
        | zero => exact ⟨u, rfl, by simpa using hd⟩
        | succ i => simpa using h3 i (by simpa using hi)
      · cases h
    cases v <;> simp only [numsOf, reduceCtorEq] at h
    case int k' n => exact key k' n hu h
    case ilit k' n => cases hu; exact key k' n (.int _ _) h

theorem strsOf_ok : ∀ (l : List SV) {zs : List ByteArray} {cs : List Value}, strsOf l = some zs → Pts O w l cs → zs.length = cs.length ∧ ∀ i, i < zs.length → ∃ u, cs[i]? = some u ∧ DenS O w (.str (zs.getD i ByteArray.empty)) u
  | [], zs, cs, h, hp => by
    simp only [strsOf, Option.some.injEq] at h
    subst h
    exact ⟨hp.1, by simp⟩
  | v :: l, zs, cs, h, hp => by
    obtain ⟨u, cs', rfl, hu, hp'⟩ := Pts_cons hp
    cases v <;> simp only [strsOf, reduceCtorEq] at h
    simp only [Option.map_eq_some_iff] at h
    obtain ⟨zs', h1, rfl⟩ := h
    obtain ⟨h2, h3⟩ := strsOf_ok l h1 hp'
    refine ⟨by simp [h2], fun i hi => ?_⟩
    cases i with
    | zero => exact ⟨u, rfl, by simpa using hu⟩
    | succ i => simpa using h3 i (by simpa using hi)

theorem boolsOf_ok : ∀ (l : List SV) {zs : List Bool} {cs : List Value}, boolsOf l = some zs → Pts O w l cs → zs.length = cs.length ∧ ∀ i, i < zs.length → ∃ u, cs[i]? = some u ∧ DenS O w (.bool (zs.getD i false)) u
  | [], zs, cs, h, hp => by
    simp only [boolsOf, Option.some.injEq] at h
    subst h
    exact ⟨hp.1, by simp⟩
  | v :: l, zs, cs, h, hp => by
    obtain ⟨u, cs', rfl, hu, hp'⟩ := Pts_cons hp
    cases v <;> simp only [boolsOf, reduceCtorEq] at h
    case bool b =>
      simp only [Option.map_eq_some_iff] at h
      obtain ⟨zs', h1, rfl⟩ := h
      obtain ⟨h2, h3⟩ := boolsOf_ok l h1 hp'
      refine ⟨by simp [h2], fun i hi => ?_⟩
      cases i with
      | zero => exact ⟨u, rfl, by simpa using hu⟩
      | succ i => simpa using h3 i (by simpa using hi)
    case blit b =>
      simp only [Option.map_eq_some_iff] at h
      obtain ⟨zs', h1, rfl⟩ := h
      obtain ⟨h2, h3⟩ := boolsOf_ok l h1 hp'
      refine ⟨by simp [h2], fun i hi => ?_⟩
      cases i with
      | zero => cases hu; exact ⟨_, rfl, by simpa using DenS.bool _⟩
      | succ i => simpa using h3 i (by simpa using hi)

theorem CL_ofs_ok {cs : List CK} {f : Nat → SV} {x : CL cs} (h : CL.ofs cs f = some x) : ∀ j, j < CL.wide cs → ∀ (O : Nat → Prop) (w : World) (u : Value), DenS O w (f j) u → DenS O w (CL.cell cs x j) u := by
  unfold CL.ofs at h
  generalize CL.wide cs = m at h
  induction m generalizing x with
  | zero => intro j hj; omega
  | succ m ih =>
    rw [List.range_succ, List.foldl_append] at h
    simp only [List.foldl_cons, List.foldl_nil, Option.bind_eq_some_iff] at h
    obtain ⟨y, h1, h2⟩ := h
    obtain ⟨h3, h4⟩ := CL_set_ok h2
    intro j hj O w u hu
    by_cases hjm : j = m
    · subst hjm; exact h3 O w u hu
    · rw [h4 j hjm]
      exact ih h1 j (by omega) O w u hu

theorem typOf_ok {cs : List CK} {size : Nat} {cells : List SV} : ∀ {n i : Nat} {xs : List (CL cs)}, typOf cs size cells i n = some xs → xs.length = n ∧ ∀ k, k < n → ∀ j, j < CL.wide cs → ∀ (O : Nat → Prop) (w : World) (u : Value),
    DenS O w (cells.getD ((i + k) * size + j) .junk) u → DenS O w (CL.cell cs (xs.getD k (CL.d cs)) j) u
  | 0, i, xs, h => by
    simp only [typOf, Option.some.injEq] at h
    subst h
    exact ⟨rfl, fun k hk => by omega⟩
  | n + 1, i, xs, h => by
    simp only [typOf] at h
    split at h
    · rename_i x ys h1 h2
      simp only [Option.some.injEq] at h
      subst h
      obtain ⟨h3, h4⟩ := typOf_ok h2
      refine ⟨by simp [h3], fun k hk j hj O w u hu => ?_⟩
      cases k with
      | zero => exact CL_ofs_ok h1 j hj O w u (by simpa using hu)
      | succ k =>
        have := h4 k (by omega) j hj O w u (by rw [show i + 1 + k = i + (k + 1) from by omega]; exact hu)
        simpa using this
    · cases h

theorem conOf_ok {sh : Shape} {size n : Nat} {l : List SV} {cs : List Value} (hp : Pts O w l cs) (hl : l.length = n * size) (hn : (conOf sh size n l).n = n) (hs : (conOf sh size n l).size = size) :
    ∀ i j, i < n → j < size → ∃ u, cs[i * size + j]? = some u ∧ DenS O w ((conOf sh size n l).cell i j) u := by
  have hd : ∀ i j, i < n → j < size → ∃ u, cs[i * size + j]? = some u ∧ DenS O w ((Con.recs size n fun i j => l.getD (i * size + j) .junk).cell i j) u := by
    intro i j hi hj
    have hlt : i * size + j < l.length := by
      rw [hl]
      have : (i + 1) * size ≤ n * size := Nat.mul_le_mul_right _ (by omega)
      rw [Nat.succ_mul] at this
      omega
    obtain ⟨u, h1, h2⟩ := hp.2 (i * size + j) l[i * size + j] (by simp [hlt])
    refine ⟨u, h1, ?_⟩
    simp only [Con.cell, List.getD, List.getElem?_eq_getElem hlt, Option.getD_some]
    exact h2
  unfold conOf at hn hs ⊢
  cases sh with
  | ints k =>
    cases hx : numsOf k l with
    | none => simp only [hx, Option.elim] at hn hs ⊢; exact hd
    | some zs =>
      simp only [hx, Option.elim, Con.n, Con.size] at hn hs ⊢
      subst hs
      intro i j hi hj
      obtain rfl : j = 0 := by omega
      obtain ⟨h1, h2⟩ := numsOf_ok k l hx hp
      simpa [Con.cell] using h2 i (by omega)
  | strs =>
    cases hx : strsOf l with
    | none => simp only [hx, Option.elim] at hn hs ⊢; exact hd
    | some zs =>
      simp only [hx, Option.elim, Con.n, Con.size] at hn hs ⊢
      subst hs
      intro i j hi hj
      obtain rfl : j = 0 := by omega
      obtain ⟨h1, h2⟩ := strsOf_ok l hx hp
      simpa [Con.cell] using h2 i (by omega)
  | bools =>
    cases hx : boolsOf l with
    | none => simp only [hx, Option.elim] at hn hs ⊢; exact hd
    | some zs =>
      simp only [hx, Option.elim, Con.n, Con.size] at hn hs ⊢
      subst hs
      intro i j hi hj
      obtain rfl : j = 0 := by omega
      obtain ⟨h1, h2⟩ := boolsOf_ok l hx hp
      simpa [Con.cell] using h2 i (by omega)
  | typ ck =>
    simp only [Bool.cond_eq_ite] at hn hs ⊢
    by_cases hw : (CL.wide ck).beq size = true
    · simp only [hw, if_true] at hn hs ⊢
      cases hx : typOf ck size l 0 n with
      | none => simp only [hx, Option.elim] at hn hs ⊢; exact hd
      | some zs =>
        simp only [hx, Option.elim, Con.n, Con.size] at hn hs ⊢
        intro i j hi hj
        obtain ⟨h1, h2⟩ := typOf_ok hx
        obtain ⟨u, h3, h4⟩ := hd i j hi hj
        exact ⟨u, h3, h2 i hi j (by omega) O w u (by rw [Nat.zero_add]; exact h4)⟩
    · simp only [hw] at hn hs ⊢
      exact hd
  | other => exact hd

theorem rep_length {α : Type} (l : List α) : ∀ n, (rep n l).length = n * l.length
  | 0 => by simp [rep]
  | n + 1 => by simp [rep, rep_length l n, Nat.succ_mul, Nat.add_comm]

theorem rep_get {α : Type} (l : List α) : ∀ (n k : Nat), k < n * l.length → (rep n l)[k]? = l[k % l.length]?
  | 0, k, h => by simp at h
  | n + 1, k, h => by
    simp only [rep]
    by_cases hk : k < l.length
    · rw [List.getElem?_append_left hk, Nat.mod_eq_of_lt hk]
    · rw [List.getElem?_append_right (by omega), rep_get l n (k - l.length) (by rw [Nat.succ_mul] at h; omega)]
      congr 1
      rw [Nat.mod_eq_sub_mod (by omega : l.length ≤ k)]

theorem DenSegs_rep {z : List AV} {cs : List Value} (h : DenSegs ρ H O w z cs) : ∀ n, DenSegs ρ H O w (rep n z) (rep n cs)
  | 0 => DenSegs_nil.2 rfl
  | n + 1 => DenSegs_append.2 ⟨_, _, rfl, h, DenSegs_rep h n⟩

theorem range_rep (zc : Array Value) (n : Nat) : ((Array.range (n * zc.size)).map (zc[· % zc.size]!)).toList = rep n zc.toList := by
  apply List.ext_getElem?
  intro k
  simp only [Array.toList_map, Array.toList_range, List.getElem?_map]
  by_cases hk : k < n * zc.size
  · rw [List.getElem?_range hk, rep_get _ _ _ (by simpa using hk)]
    have hz : 0 < zc.size := by
      rcases Nat.eq_zero_or_pos zc.size with h0 | h0
      · rw [h0] at hk; omega
      · exact h0
    have hm : k % zc.size < zc.size := Nat.mod_lt _ hz
    simp [hm]
  · rw [List.getElem?_eq_none (by simp; omega), List.getElem?_eq_none (by rw [rep_length]; simp; omega)]
    rfl
end
end Go.Sx
