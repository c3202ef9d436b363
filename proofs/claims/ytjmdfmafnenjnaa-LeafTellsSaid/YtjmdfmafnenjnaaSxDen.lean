import Derived.Test.YtjmdfmafnenjnaaSxWrap
/-! What a row's reading of an argument says: a value of plain data. -/
namespace Go.Sx
open Go Go.RowKit Go.ChangeShapes Go.WideShapes Go.ChangeAt

def layFs (P : Program) (rec : TypeId → Option (List CK)) : List Field → Nat → Option (List CK)
  | [], _ => some []
  | f :: fs, off => match rec f.type with
    | some cs => bif f.offset.beq off && (P.cellsOf f.type).beq (CL.wide cs) then (layFs P rec fs (off + CL.wide cs)).map (cs ++ ·) else none
    | none => none

/-- A type's parts, its places checked. -/
def layR (P : Program) : Nat → TypeId → Option (List CK)
  | 0, _ => none
  | d + 1, t =>
    match P.underlying t with
    | some (.int k) => some [.int k]
    | some .bool => some [.bool]
    | some .string => some [.str]
    | some (.slice e) => (match P.underlying e with
      | some (.int k) => bif (P.cellsOf e).beq 1 then some [.ints k] else none
      | some .string => bif (P.cellsOf e).beq 1 then some [.strs] else none
      | some .bool => bif (P.cellsOf e).beq 1 then some [.bools] else none
      | _ => (layR P d e).bind fun cs => bif (P.cellsOf e).beq (CL.wide cs) && (1 : Nat).ble (CL.wide cs) then some [.rows cs] else none)
    | some (.struct fs) => (layFs P (layR P d) fs.toList 0).bind fun cs => bif (P.cellsOf t).beq (CL.wide cs) then some cs else none
    | some (.array n e) => (match P.underlying e with
      | some (.int k) => bif (P.cellsOf e).beq 1 && (P.cellsOf t).beq n then some [.arr k n] else none
      | _ => none)
    | _ => none

mutual
def CK.wf : (c : CK) → c.V → Prop
  | .int k, n => (Lit.int k n).wf = true
  | .bool, _ => True
  | .str, s => ByteArray.size s ≤ maxLen
  | .ints k, zs => ∀ n ∈ (show List Int from zs), (Lit.int k n).wf = true
  | .strs, ss => ∀ s ∈ (show List ByteArray from ss), s.size ≤ maxLen
  | .bools, _ => True
  | .rows cs, xs => ∀ x ∈ (show List (CL cs) from xs), CL.wf cs x
  | .arr k n, ws => List.length (α := Int) ws = n ∧ ∀ m ∈ (show List Int from ws), (Lit.int k m).wf = true
def CL.wf : (cs : List CK) → CL cs → Prop
  | [], _ => True
  | c :: cs, x => c.wf x.1 ∧ CL.wf cs x.2
end

def CL.app : (as : List CK) → {bs : List CK} → CL as → CL bs → CL (as ++ bs)
  | [], _, _, y => y
  | _ :: as, _, x, y => (x.1, CL.app as x.2 y)

theorem CL.wide_app : ∀ (as bs : List CK), CL.wide (as ++ bs) = CL.wide as + CL.wide bs
  | [], bs => by simp [CL.wide]
  | a :: as, bs => by simp only [List.cons_append, CL.wide, CL.wide_app as bs]; omega

theorem blt_tt {i n : Nat} (h : i < n) : i.blt n = true := by simpa [Nat.blt, Nat.lt_iff_add_one_le] using h
theorem blt_ff {i n : Nat} (h : n ≤ i) : i.blt n = false := by
  cases hb : i.blt n
  · rfl
  · have : i < n := by simpa [Nat.blt, Nat.lt_iff_add_one_le] using hb
    omega

theorem CL.cell_app1 : ∀ (as : List CK) {bs : List CK} (x : CL as) (y : CL bs) {j : Nat}, j < CL.wide as → CL.cell (as ++ bs) (CL.app as x y) j = CL.cell as x j
  | [], _, _, _, j, h => by simp [CL.wide] at h
  | a :: as, bs, x, y, j, h => by
    simp only [List.cons_append, CL.cell, CL.app]
    rcases Nat.lt_or_ge j a.wide with h1 | h1
    · rw [blt_tt h1]; rfl
    · rw [blt_ff h1]
      simp only [cond_false]
      exact CL.cell_app1 as x.2 y (by simp only [CL.wide] at h; omega)
theorem CL.cell_app2 : ∀ (as : List CK) {bs : List CK} (x : CL as) (y : CL bs) {j : Nat}, CL.wide as ≤ j → CL.cell (as ++ bs) (CL.app as x y) j = CL.cell bs y (j - CL.wide as)
  | [], _, _, _, j, h => by simp [CL.wide, CL.app]
  | a :: as, bs, x, y, j, h => by
    simp only [CL.wide] at h
    simp only [List.cons_append, CL.cell, CL.app]
    rw [blt_ff (by omega)]
    simp only [cond_false, CL.wide]
    rw [CL.cell_app2 as x.2 y (by omega)]
    congr 1
    omega
theorem CL.wf_app : ∀ (as : List CK) {bs : List CK} (x : CL as) (y : CL bs), CL.wf as x → CL.wf bs y → CL.wf (as ++ bs) (CL.app as x y)
  | [], _, _, _, _, h => h
  | a :: as, bs, x, y, h1, h2 => by
    simp only [CL.wf] at h1
    simp only [List.cons_append, CL.wf, CL.app]
    exact ⟨h1.1, CL.wf_app as x.2 y h1.2 h2⟩

theorem mapD {α β : Type} (f : α → β) (xs : List α) (d : β) (da : α) {i : Nat} (hi : i < xs.length) : (xs.map f).getD i d = f (xs.getD i da) := by simp [List.getD, hi]

theorem list_of {α : Type} {p : Nat → α → Prop} : ∀ (n : Nat), (∀ i, i < n → ∃ y, p i y) → ∃ xs : List α, xs.length = n ∧ ∀ i (h : i < xs.length), p i xs[i]
  | 0, _ => ⟨[], rfl, fun i h => by simp at h⟩
  | n + 1, h => by
    obtain ⟨xs, h1, h2⟩ := list_of n (fun i hi => h i (by omega))
    obtain ⟨y, hy⟩ := h n (by omega)
    refine ⟨xs ++ [y], by simp [h1], fun i hi => ?_⟩
    by_cases hlt : i < xs.length
    · rw [List.getElem_append_left hlt]; exact h2 i hlt
    · have : i = n := by simp at hi; omega
      subst this
      rw [List.getElem_append_right (by omega)]
      simpa [h1] using hy

section
variable {H : Type} {enc : TypeId × Value → H} {P : Program} {W : World} {base : Nat} {ρ : Nat → Value} {Hh : AHeap}

abbrev FD (W : World) (cs : List CK) (y : CL cs) (get : Nat → Option Value) : Prop := ∀ j, j < CL.wide cs → ∃ u, get j = some u ∧ DenS (fun _ => False) W (CL.cell cs y j) u

theorem trod_fs {d n : Nat} {cells : List Value} (ih : ∀ {t : TypeId} {cs : List CK} {fuel : Nat} {cells : List Value} {x : DataW H × List MemPlace}, layR P d t = some cs → DataW.trod enc P W 0 (fun _ => true) true fuel t cells = some x →
      cells.length = CL.wide cs ∧ ∃ y : CL cs, CL.wf cs y ∧ FD W cs y fun j => cells[j]?) :
    ∀ (fs : List Field) {off : Nat} {cs : List CK}, layFs P (layR P d) fs off = some cs → (∀ f ∈ fs, ∃ x, DataW.trod enc P W 0 (fun _ => true) true n f.type ((cells.drop f.offset).take (P.cellsOf f.type)) = some x) →
      ∃ y : CL cs, CL.wf cs y ∧ FD W cs y fun j => cells[off + j]?
  | [], off, cs, h, _ => by
    simp only [layFs, Option.some.injEq] at h
    subst h
    exact ⟨(), trivial, fun j hj => by simp [CL.wide] at hj⟩
  | f :: fs, off, cs, h, hx => by
    simp only [layFs] at h
    split at h
    · rename_i c1 hc1
      rw [Bool.cond_eq_ite] at h
      split at h
      · rename_i hb
        simp only [Bool.and_eq_true, Nat.beq_eq] at hb
        obtain ⟨ho, hw⟩ := hb
        obtain ⟨c2, hc2, rfl⟩ := Option.map_eq_some_iff.1 h
        obtain ⟨x, hf⟩ := hx f (by simp)
        obtain ⟨h1, y1, h2, h3⟩ := ih hc1 hf
        obtain ⟨y2, h4, h5⟩ := trod_fs ih fs hc2 (fun g hg => hx g (by simp [hg]))
        refine ⟨CL.app c1 y1 y2, CL.wf_app c1 y1 y2 h2 h4, fun j hj => ?_⟩
        rw [CL.wide_app] at hj
        rcases Nat.lt_or_ge j (CL.wide c1) with h6 | h6
        · obtain ⟨u, h7, h8⟩ := h3 j h6
          refine ⟨u, ?_, by rw [CL.cell_app1 c1 y1 y2 h6]; exact h8⟩
          dsimp only at h7 ⊢
          rw [List.getElem?_take, if_pos (by omega), List.getElem?_drop, ho] at h7
          exact h7
        · obtain ⟨u, h7, h8⟩ := h5 (j - CL.wide c1) (by omega)
          refine ⟨u, ?_, by rw [CL.cell_app2 c1 y1 y2 h6]; exact h8⟩
          dsimp only at h7 ⊢
          rw [show off + j = off + CL.wide c1 + (j - CL.wide c1) from by omega]
          exact h7
      · cases h
    · cases h

/-- A slice's elements. -/
theorem trod_row {t e : TypeId} {cs : List CK} {fuel : Nat} {cells : List Value} {x : DataW H × List MemPlace} (ht : P.underlying t = some (.slice e)) (hw : P.cellsOf e = CL.wide cs) (h1 : 1 ≤ CL.wide cs)
    (ih : ∀ {fuel : Nat} {cells : List Value} {x : DataW H × List MemPlace}, DataW.trod enc P W 0 (fun _ => true) true fuel e cells = some x → cells.length = CL.wide cs ∧ ∃ y : CL cs, CL.wf cs y ∧ FD W cs y fun j => cells[j]?)
    (h : DataW.trod enc P W 0 (fun _ => true) true fuel t cells = some x) :
    ∃ (v : Value) (xs : List (CL cs)), cells = [v] ∧ (∀ y ∈ xs, CL.wf cs y) ∧ DenS (fun _ => False) W (.ro (.typ cs xs)) v := by
  rcases DataW.trod_slice ht h with ⟨rfl, _⟩ | ⟨a, len, cap, elems, rest, n, _, rfl, _, _, hl, hm, hlen, hel, _, _⟩
  · exact ⟨_, [], rfl, by simp, .ro (.typ cs []) none 0 (fun _ _ => undef) 0 0 (Nat.le_refl _) (Nat.zero_le _) (fun h => by simp [Con.n] at h) (fun i j hi hj => by simp [Con.n] at hi) (fun i j hi hj => by simp [Con.n] at hi)⟩
  · have each : ∀ i, i < len → ∃ y : CL cs, CL.wf cs y ∧ FD W cs y fun j => W.cell? ((a.add (i * CL.wide cs)).add j) := by
      intro i hi
      have h2 := hel i hi
      rw [List.getElem?_eq_getElem (by omega), hw] at h2
      obtain ⟨cl, h3, h4⟩ := Option.bind_eq_some_iff.1 h2
      obtain ⟨_, h5, h6⟩ := World.cells?_some h3
      obtain ⟨_, y, h7, h8⟩ := ih h4
      refine ⟨y, h7, fun j hj => ?_⟩
      obtain ⟨u, h9, h10⟩ := h8 j hj
      exact ⟨u, by dsimp only; rw [h6 j (by omega)]; exact h9, h10⟩
    obtain ⟨xs, hx1, hx2⟩ := list_of len each
    refine ⟨_, xs, rfl, fun y hy => ?_, ?_⟩
    · obtain ⟨i, hi, rfl⟩ := List.getElem_of_mem hy
      exact (hx2 i hi).1
    · have hn : (Con.typ cs xs).n = len := hx1
      rcases Nat.eq_zero_or_pos len with h0 | h0
      · have key := DenS.ro (O := fun _ => False) (w := W) (.typ cs xs) (some a) cap (fun _ _ => undef) 0 0 (by omega) hm (fun h => by omega) (fun i j hi hj => by omega) (fun i j hi hj => by omega)
        rw [hn] at key
        exact key
      · have hspot : a.spot = none := by
          obtain ⟨u, h9, _⟩ := (hx2 0 (by omega)).2 0 (by omega)
          simpa [Addr.add] using World.cell?_spot h9
        obtain ⟨b, off, spot⟩ := a
        simp only at hspot
        subst hspot
        have hc : ∀ i j, i < len → j < CL.wide cs → ∃ u, W.cell? ⟨b, off + i * CL.wide cs + j, none⟩ = some u ∧ DenS (fun _ => False) W (CL.cell cs (xs.getD i (CL.d cs)) j) u := by
          intro i j hi hj
          obtain ⟨u, h9, h10⟩ := (hx2 i (by omega)).2 j hj
          dsimp only at h9
          rw [add_zero_spot, add_zero_spot] at h9
          exact ⟨u, h9, by simpa [List.getD, hx1, hi] using h10⟩
        have key := DenS.ro (O := fun _ => False) (w := W) (.typ cs xs) (some ⟨b, off, none⟩) cap (fun i j => (W.cell? ⟨b, off + i * CL.wide cs + j, none⟩).getD undef) b off (by omega) hm (fun _ => ⟨rfl, fun h => h, ?_⟩) (fun i j hi hj => ?_) (fun i j hi hj => ?_)
        · rw [hn] at key
          exact key
        · obtain ⟨u, h9, _⟩ := hc 0 0 h0 (by omega)
          rcases Nat.lt_or_ge b W.heap.size with h2 | h2
          · exact h2
          · simp [World.cell?, Array.getElem?_eq_none h2] at h9
        · obtain ⟨u, h9, _⟩ := hc i j (by omega) hj
          show W.cell? ⟨b, off + i * CL.wide cs + j, none⟩ = _
          rw [h9]; rfl
        · obtain ⟨u, h9, h10⟩ := hc i j (by omega) hj
          rw [h9]
          exact h10

theorem trod_cl : ∀ (d : Nat) {t : TypeId} {cs : List CK} {fuel : Nat} {cells : List Value} {x : DataW H × List MemPlace}, layR P d t = some cs → DataW.trod enc P W 0 (fun _ => true) true fuel t cells = some x →
    cells.length = CL.wide cs ∧ ∃ y : CL cs, CL.wf cs y ∧ FD W cs y fun j => cells[j]?
  | 0, t, cs, fuel, cells, x, h, _ => by simp [layR] at h
  | d + 1, t, cs, fuel, cells, x, h, hd => by
    simp only [layR] at h
    have one : ∀ {c : CK} {v : Value} (y : c.V), c.wide = 1 → CK.wf c y → DenS (fun _ => False) W (c.cell y 0) v → ([v] : List Value).length = CL.wide [c] ∧ ∃ y : CL [c], CL.wf [c] y ∧ FD W [c] y fun j => ([v] : List Value)[j]? := by
      intro c v y hw hy hv
      refine ⟨by simp [CL.wide, hw], (y, ()), ⟨hy, trivial⟩, fun j hj => ?_⟩
      simp only [CL.wide, hw] at hj
      obtain rfl : j = 0 := by omega
      refine ⟨v, rfl, ?_⟩
      simp only [CL.cell, hw]
      exact hv
    split at h
    · rename_i k ht
      simp only [Option.some.injEq] at h
      subst h
      obtain ⟨n, rfl, _, hw⟩ := DataW.trod_int ht hd
      exact one (c := .int k) n rfl hw (.int k n)
    · rename_i ht
      simp only [Option.some.injEq] at h
      subst h
      obtain ⟨b, rfl, _⟩ := DataW.trod_bool ht hd
      exact one (c := .bool) b rfl trivial (.bool b)
    · rename_i ht
      simp only [Option.some.injEq] at h
      subst h
      obtain ⟨s, rfl, _, hs⟩ := DataW.trod_string ht hd
      exact one (c := .str) s rfl hs (.str s)
    · rename_i e ht
      split at h
      · rename_i k he
        rw [Bool.cond_eq_ite] at h
        split at h
        · rename_i hw
          have hw : P.cellsOf e = 1 := by simpa using hw
          simp only [Option.some.injEq] at h
          subst h
          obtain ⟨v, xs, rfl, h1, h2⟩ := trod_row (cs := [.int k]) ht hw (Nat.le_refl _) (fun {fuel cells x} hx => by
            obtain ⟨n, rfl, _, hwf⟩ := DataW.trod_int he hx
            exact one (c := .int k) n rfl hwf (.int k n)) hd
          refine one (c := .ints k) (xs.map fun y : CL [.int k] => (show Int from y.1)) rfl (fun n hn => ?_) (den_ro_congr (c := .typ [.int k] xs) ?_ rfl ?_ h2)
          · obtain ⟨y, hy, rfl⟩ := List.mem_map.1 hn
            exact (h1 y hy).1
          · exact List.length_map _
          · intro i j hi hj
            have hj : j < 1 := hj
            obtain rfl : j = 0 := by omega
            have hi : i < xs.length := hi
            exact congrArg (SV.int k) (mapD (fun y : CL [.int k] => (show Int from y.1)) xs 0 (CL.d [.int k]) hi)
        · cases h
      · rename_i he
        rw [Bool.cond_eq_ite] at h
        split at h
        · rename_i hw
          have hw : P.cellsOf e = 1 := by simpa using hw
          simp only [Option.some.injEq] at h
          subst h
          obtain ⟨v, xs, rfl, h1, h2⟩ := trod_row (cs := [.str]) ht hw (Nat.le_refl _) (fun {fuel cells x} hx => by
            obtain ⟨n, rfl, _, hwf⟩ := DataW.trod_string he hx
            exact one (c := .str) n rfl hwf (.str n)) hd
          refine one (c := .strs) (xs.map fun y : CL [.str] => (show ByteArray from y.1)) rfl (fun n hn => ?_) (den_ro_congr (c := .typ [.str] xs) ?_ rfl ?_ h2)
          · obtain ⟨y, hy, rfl⟩ := List.mem_map.1 hn
            exact (h1 y hy).1
          · exact List.length_map _
          · intro i j hi hj
            have hj : j < 1 := hj
            obtain rfl : j = 0 := by omega
            have hi : i < xs.length := hi
            exact congrArg (SV.str) (mapD (fun y : CL [.str] => (show ByteArray from y.1)) xs ByteArray.empty (CL.d [.str]) hi)
        · cases h
      · rename_i he
        rw [Bool.cond_eq_ite] at h
        split at h
        · rename_i hw
          have hw : P.cellsOf e = 1 := by simpa using hw
          simp only [Option.some.injEq] at h
          subst h
          obtain ⟨v, xs, rfl, h1, h2⟩ := trod_row (cs := [.bool]) ht hw (Nat.le_refl _) (fun {fuel cells x} hx => by
            obtain ⟨n, rfl, _⟩ := DataW.trod_bool he hx
            exact one (c := .bool) n rfl trivial (.bool n)) hd
          refine one (c := .bools) (xs.map fun y : CL [.bool] => (show Bool from y.1)) rfl trivial (den_ro_congr (c := .typ [.bool] xs) ?_ rfl ?_ h2)
          · exact List.length_map _
          · intro i j hi hj
            have hj : j < 1 := hj
            obtain rfl : j = 0 := by omega
            have hi : i < xs.length := hi
            exact congrArg (SV.bool) (mapD (fun y : CL [.bool] => (show Bool from y.1)) xs false (CL.d [.bool]) hi)
        · cases h
      · obtain ⟨cs', h1, h2⟩ := Option.bind_eq_some_iff.1 h
        rw [Bool.cond_eq_ite] at h2
        split at h2
        · rename_i hb
          simp only [Bool.and_eq_true, Nat.beq_eq] at hb
          obtain ⟨hw, hw1⟩ := hb
          have hw1 := Nat.le_of_ble_eq_true hw1
          simp only [Option.some.injEq] at h2
          subst h2
          obtain ⟨v, xs, rfl, h3, h4⟩ := trod_row (cs := cs') ht hw hw1 (fun hx => trod_cl d h1 hx) hd
          exact one (c := .rows cs') xs rfl h3 h4
        · cases h2
    · rename_i fs ht
      obtain ⟨cs', h1, h2⟩ := Option.bind_eq_some_iff.1 h
      rw [Bool.cond_eq_ite] at h2
      split at h2
      · rename_i hw
        have hw : P.cellsOf t = CL.wide cs' := by simpa using hw
        simp only [Option.some.injEq] at h2
        subst h2
        obtain ⟨xs, n, _, _, h3, h4, h5⟩ := DataW.trod_struct ht hd
        obtain ⟨y, h6, h7⟩ := trod_fs (enc := enc) (n := n) (cells := cells) (fun h1 h2 => trod_cl d h1 h2) fs.toList h1 (fun f hf => by
          obtain ⟨i, hi, rfl⟩ := List.getElem_of_mem hf
          have hi' : i < fs.size := by simpa using hi
          have := h5 i fs[i] (Array.getElem?_eq_getElem hi')
          rw [List.getElem?_eq_getElem (by omega)] at this
          exact ⟨_, by simpa using this⟩)
        refine ⟨by omega, y, h6, fun j hj => ?_⟩
        have := h7 j hj
        simpa using this
      · cases h2
    · rename_i n e ht
      split at h
      · rename_i k he
        rw [Bool.cond_eq_ite] at h
        split at h
        · rename_i hb
          simp only [Bool.and_eq_true, Nat.beq_eq] at hb
          obtain ⟨hw, hwt⟩ := hb
          simp only [Option.some.injEq] at h
          subst h
          obtain ⟨xs, m, _, _, h1, h2, h3⟩ := DataW.trod_array ht hd
          have each : ∀ i, i < n → ∃ z : Int, (Lit.int k z).wf = true ∧ cells[i]? = some (.int k z) := by
            intro i hi
            have h4 := h3 i hi
            rw [List.getElem?_eq_getElem (by omega), hw] at h4
            obtain ⟨z, h5, _, h6⟩ := DataW.trod_int he h4
            refine ⟨z, h6, ?_⟩
            have h7 : ((cells.drop (i * 1)).take 1)[0]? = some (.int k z) := by rw [h5]; rfl
            rw [List.getElem?_take, if_pos (by omega), List.getElem?_drop] at h7
            simpa using h7
          obtain ⟨zs, hz1, hz2⟩ := list_of n each
          refine ⟨by simp [CL.wide, CK.wide]; omega, (zs, ()), ⟨⟨hz1, fun z hz => ?_⟩, trivial⟩, fun j hj => ?_⟩
          · obtain ⟨i, hi, rfl⟩ := List.getElem_of_mem (show z ∈ zs from hz)
            exact (hz2 i hi).1
          · simp only [CL.wide, CK.wide, Nat.add_zero] at hj
            refine ⟨.int k zs[j], (hz2 j (by omega)).2, ?_⟩
            simp only [CL.cell, CK.wide]
            rw [blt_tt hj]
            show DenS _ _ (.int k (zs.getD j 0)) _
            rw [show zs.getD j 0 = zs[j] from by simp [List.getD, hz1, hj]]
            exact .int k _
        · cases h
      · cases h
    · cases h

/-! ### values of an argument's type -/
def RK.ck : RK → CK
  | .ints k => .ints k
  | .strs => .strs
  | .bools => .bools
  | .typ cs => .rows cs
def B.ck : B → CK
  | .int k => .int k
  | .bool => .bool
  | .str => .str
  | .row r _ => r.ck
  | .rrow r _ => r.ck
  | .arr k n => .arr k n
  | .fn => .bool
def B.noFn : B → Bool
  | .fn => false
  | _ => true
def RK.of : (r : RK) → r.ck.V → r.V
  | .ints _, y => y
  | .strs, y => y
  | .bools, y => y
  | .typ _, y => y
def B.of : (b : B) → b.ck.V → b.V
  | .int _, y => y
  | .bool, y => y
  | .str, y => y
  | .row r _, y => r.of y
  | .rrow r _, y => r.of y
  | .arr _ _, y => y
  | .fn, _ => (0 : Nat)
def RK.wf : (r : RK) → r.V → Prop
  | .ints k, x => ∀ n ∈ x, (Lit.int k n).wf = true
  | .strs, x => ∀ s ∈ x, ByteArray.size s ≤ maxLen
  | .bools, _ => True
  | .typ cs, x => ∀ y ∈ x, CL.wf cs y
def B.wf : (b : B) → b.V → Prop
  | .int k, n => (Lit.int k n).wf = true
  | .str, s => ByteArray.size s ≤ maxLen
  | .row r _, x => r.wf x
  | .rrow r _, x => r.wf x
  | .arr k n, ws => List.length (α := Int) ws = n ∧ ∀ m ∈ (show List Int from ws), (Lit.int k m).wf = true
  | _, _ => True
def BL.wf : (bs : List B) → BL bs → Prop
  | [], _ => True
  | b :: bs, (x, y) => b.wf x ∧ BL.wf bs y
def Ty.wf : (t : Ty) → t.V → Prop
  | .b q, x => q.wf x
  | .st bs, x => BL.wf bs x
def AL.wf : (ts : List Ty) → AL ts → Prop
  | [], _ => True
  | t :: ts, (x, y) => t.wf x ∧ AL.wf ts y
def BL.of : (bs : List B) → CL (bs.map B.ck) → BL bs
  | [], _ => ()
  | b :: bs, y => (b.of y.1, BL.of bs y.2)

theorem B.of_wf {b : B} {y : b.ck.V} (h : CK.wf b.ck y) : b.wf (b.of y) := by
  cases b with
  | int k => exact h
  | bool => trivial
  | str => exact h
  | row r e => cases r <;> exact h
  | rrow r e => cases r <;> exact h
  | arr k n => exact h
  | fn => trivial

theorem B.of_den {b : B} (hb : b.noFn = true) {y : b.ck.V} (hy : CK.wf b.ck y) {cells : List Value} (hl : cells.length = b.ck.wide) (h : ∀ j, j < b.ck.wide → ∃ u, cells[j]? = some u ∧ DenS (fun _ => False) W (b.ck.cell y j) u) :
    DenC ρ Hh (fun _ => False) W (b.av (b.of y)) cells := by
  have one : b.ck.wide = 1 → ∃ u, cells = [u] ∧ DenS (fun _ => False) W (b.ck.cell y 0) u := by
    intro h1
    obtain ⟨u, h2, h3⟩ := h 0 (by omega)
    rw [h1] at hl
    match cells, hl with
    | [v], _ => simp only [List.getElem?_cons_zero, Option.some.injEq] at h2; subst h2; exact ⟨v, rfl, h3⟩
  cases b with
  | int k => obtain ⟨u, rfl, h2⟩ := one rfl; show DenC _ _ _ _ (.s (.int k y)) _; unfold DenC; exact ⟨u, rfl, h2⟩
  | bool => obtain ⟨u, rfl, h2⟩ := one rfl; show DenC _ _ _ _ (.s (.bool y)) _; unfold DenC; exact ⟨u, rfl, h2⟩
  | str => obtain ⟨u, rfl, h2⟩ := one rfl; show DenC _ _ _ _ (.s (.str y)) _; unfold DenC; exact ⟨u, rfl, h2⟩
  | row r e =>
    obtain ⟨u, rfl, h2⟩ := one (by cases r <;> rfl)
    show DenC _ _ _ _ (.s (.ro (r.con (r.of y)))) _
    unfold DenC
    exact ⟨u, rfl, by cases r <;> exact h2⟩
  | rrow r e =>
    obtain ⟨u, rfl, h2⟩ := one (by cases r <;> rfl)
    show DenC _ _ _ _ (.s (.ro (r.con (r.of y)))) _
    unfold DenC
    exact ⟨u, rfl, by cases r <;> exact h2⟩
  | arr k n =>
    show DenC _ _ _ _ (.ints k n y) _
    unfold DenC
    have key : ∀ ys : List Int, ys.length = n → (∀ j, j < n → ∃ u, cells[j]? = some u ∧ DenS (fun _ => False) W (.int k (ys.getD j 0)) u) → cells.length = n → cells = ys.map (Value.int k) := by
      intro ys h1 h2 h3
      refine List.ext_getElem (by rw [h3, List.length_map, h1]) fun j h4 h5 => ?_
      obtain ⟨u, h6, h7⟩ := h2 j (by omega)
      cases h7
      rw [List.getElem?_eq_getElem h4, Option.some.injEq] at h6
      rw [h6, List.getElem_map]
      congr 1
      simp [List.getD, show j < ys.length by omega]
    exact ⟨hy.1, key y hy.1 h hl⟩
  | fn => cases hb

theorem BL.of_den : ∀ {bs : List B}, bs.all B.noFn = true → ∀ {y : CL (bs.map B.ck)}, CL.wf (bs.map B.ck) y → ∀ {cells : List Value}, cells.length = CL.wide (bs.map B.ck) → (FD W (bs.map B.ck) y fun j => cells[j]?) →
    BL.wf bs (BL.of bs y) ∧ DenSegs ρ Hh (fun _ => False) W (BL.av bs (BL.of bs y)) cells
  | [], _, y, _, cells, hl, _ => ⟨trivial, DenSegs_nil.2 (List.eq_nil_of_length_eq_zero hl)⟩
  | b :: bs, hb, y, hy, cells, hl, h => by
    simp only [List.all_cons, Bool.and_eq_true] at hb
    simp only [List.map_cons, CL.wide] at hl
    have hy : CK.wf b.ck y.1 ∧ CL.wf (bs.map B.ck) y.2 := hy
    have h : ∀ j, j < b.ck.wide + CL.wide (bs.map B.ck) → ∃ u, cells[j]? = some u ∧ DenS (fun _ => False) W (bif j.blt b.ck.wide then b.ck.cell y.1 j else CL.cell (bs.map B.ck) y.2 (j - b.ck.wide)) u := h
    obtain ⟨h1, h2⟩ := BL.of_den hb.2 (y := y.2) hy.2 (cells := cells.drop b.ck.wide) (by rw [List.length_drop]; omega) (fun j hj => by
      obtain ⟨u, h3, h4⟩ := h (b.ck.wide + j) (by omega)
      rw [blt_ff (by omega), cond_false, Nat.add_sub_cancel_left] at h4
      exact ⟨u, by dsimp only; rw [List.getElem?_drop]; exact h3, h4⟩)
    refine ⟨⟨B.of_wf hy.1, h1⟩, DenSegs_cons.2 ⟨cells.take b.ck.wide, cells.drop b.ck.wide, (List.take_append_drop _ _).symm, B.of_den hb.1 hy.1 (by rw [List.length_take]; omega) (fun j hj => ?_), h2⟩⟩
    obtain ⟨u, h3, h4⟩ := h j (by omega)
    rw [blt_tt hj, cond_true] at h4
    exact ⟨u, by rw [List.getElem?_take, if_pos hj]; exact h3, h4⟩

def Ty.lay (P : Program) (t : TypeId) : Ty → Bool
  | .b q => q.noFn && (layR P 12 t).any (fun cs => (CL.eq cs [q.ck]).isSome) && (match P.underlying t, q with
    | some (.array _ _), .arr _ _ => true
    | some (.struct _), _ => false
    | some (.array _ _), _ => false
    | _, .arr _ _ => false
    | _, _ => true)
  | .st bs => bs.all B.noFn && (layR P 12 t).any (fun cs => (CL.eq cs (bs.map B.ck)).isSome) && (match P.underlying t with
    | some (.struct _) => true
    | _ => false)

theorem lay_eq {d : Nat} {t : TypeId} {cs' : List CK} (h : (layR P d t).any (fun cs => (CL.eq cs cs').isSome) = true) : layR P d t = some cs' := by
  cases hl : layR P d t with
  | none => simp [hl] at h
  | some cs =>
    rw [hl, Option.any_some] at h
    obtain ⟨e, _⟩ := Option.isSome_iff_exists.1 h
    rw [e.down]

theorem den_ty {t : TypeId} {ty : Ty} {v : Value} {d : DataW H} {ps : List MemPlace} (hl : ty.lay P t = true) (hval : Value.okWide P W .any base t v) (hd : DataW.Trod enc P W 0 (fun _ => true) true t v d ps) :
    ∃ x : ty.V, ty.wf x ∧ DenV ρ Hh (fun _ => False) W (ty.av x) v := by
  obtain ⟨fuel, hd⟩ := hd
  cases ty with
  | st bs =>
    simp only [Ty.lay, Bool.and_eq_true] at hl
    obtain ⟨⟨h1, h2⟩, h3⟩ := hl
    split at h3
    · rename_i fs ht
      simp only [Value.okWide, ht] at hval
      obtain ⟨cs, rfl, _, _⟩ := hval
      obtain ⟨h4, y, h5, h6⟩ := trod_cl 12 (lay_eq h2) hd
      obtain ⟨h7, h8⟩ := BL.of_den (ρ := ρ) (Hh := Hh) h1 h5 h4 h6
      refine ⟨BL.of bs y, h7, ?_⟩
      show DenV _ _ _ _ (.agg _) _
      unfold DenV
      exact ⟨cs.toList, by simp, h8⟩
    · cases h3
  | b q =>
    simp only [Ty.lay, Bool.and_eq_true] at hl
    obtain ⟨⟨h1, h2⟩, h3⟩ := hl
    obtain ⟨h4, y, h5, h6⟩ := trod_cl 12 (lay_eq h2) hd
    have h4 : v.cells.toList.length = q.ck.wide := by simpa [CL.wide] using h4
    have h5 : CK.wf q.ck y.1 := h5.1
    have key := B.of_den (ρ := ρ) (Hh := Hh) h1 h5 h4 (fun j hj => by
      obtain ⟨u, h7, h8⟩ := h6 j (by simp only [CL.wide]; omega)
      simp only [CL.cell] at h8
      rw [blt_tt hj, cond_true] at h8
      exact ⟨u, h7, h8⟩)
    refine ⟨q.of y.1, B.of_wf h5, ?_⟩
    show DenV _ _ _ _ (q.av _) _
    have single : (∀ cs, v ≠ .agg cs) → (∀ k n ws, q.av (q.of y.1) ≠ .ints k n ws) → DenV ρ Hh (fun _ => False) W (q.av (q.of y.1)) v := by
      intro hna hni
      have hc : v.cells.toList = [v] := by cases v <;> first | rfl | exact absurd rfl (hna _)
      rw [hc] at key
      obtain ⟨u, hu, _, hden⟩ := DenC_single key (wide_other hni) hni
      cases hu
      exact hden
    by_cases harr : ∃ k n, q = .arr k n
    · obtain ⟨k, n, rfl⟩ := harr
      obtain ⟨n', e', ht⟩ : ∃ n' e', P.underlying t = some (.array n' e') := by
        cases hu : P.underlying t with
        | none => simp [hu] at h3
        | some td => cases td <;> simp [hu] at h3 ⊢
      simp only [Value.okWide, ht] at hval
      obtain ⟨cs, rfl, _, _⟩ := hval
      have key : DenC ρ Hh (fun _ => False) W (.ints k n y.1) cs.toList := key
      unfold DenC at key
      show DenV _ _ _ _ (.ints k n y.1) _
      unfold DenV
      exact ⟨key.1, by rw [← key.2]⟩
    · have hns : (∀ fs, P.underlying t ≠ some (.struct fs)) ∧ ∀ n e, P.underlying t ≠ some (.array n e) := by
        cases hu : P.underlying t with
        | none => simp
        | some td => cases td <;> cases q <;> simp_all
      refine single (fun cs hv => ?_) (fun k n ws he => ?_)
      · subst hv
        unfold Value.okWide at hval
        split at hval
        · rename_i fs ht; exact hns.1 fs ht
        · rename_i n e ht; exact hns.2 n e ht
        · simp only [Cell.okWide, Cell.ok] at hval
          split at hval <;> simp_all
      · cases q <;> simp [B.av] at he
        exact harr ⟨_, _, rfl⟩

/-- A contract that says 'true', under what the reading gives: the call's end. -/
theorem calls_true_pre {Z : Glob} {f : FuncId} {ts : List Ty} {pre : AL ts → List Prop} (h : FnOk P Z f ts [.b .bool] pre (fun _ => (true, ()))) (hz : Z.ok W) {x : AL ts} {vs : List Value} (hp : Needs (pre x))
    (hd : DenL (fun _ => undef) (fun _ => none) (fun _ => False) W (AL.av ts x) vs) : Calls P f vs.toArray W fun e W' => e = .returned (.bool true) ∧ Same W W' := by
  have e0 : Hot (fun _ => undef) (fun _ => none) (fun _ => False) = fun _ => False := by
    funext b
    refine propext ⟨fun h => ?_, False.elim⟩
    rcases h with ⟨id, o, ho, _⟩ | h
    · cases ho
    · exact h
  refine (h x (AL.okL hd) hp (fun _ => False) W vs (fun _ h => h.elim) hz (by rw [e0]; exact hd)).mono ?_
  rintro e W' ⟨v, rfl, ρ', _, h2, _, h4⟩
  have h5 : DenV ρ' (lk []) (Hot ρ' (lk []) fun _ => False) W' (.s (.bool true)) v := h2
  have h6 := DenS_of_V (by simp) h5
  cases h6
  exact ⟨rfl, h4.os, h4.output, fun b hb => h4.heap b hb (fun ⟨id, o, ho, _⟩ => by cases ho)⟩
end
end Go.Sx
