/- Lemmas: SxDen, SxCut, Hd, SxSpec, Lb, SxRange, SxAuto, D0, D2, D3, D4, D5, D6, SxFrz, D7, D8, D9. -/
import Derived.JoinedOf
import Derived.Test.YtjmdfmafnenjnaaRows
import Derived.LaidMore
import Derived.Stop.Joined
import Derived.Lib.Bytealg
import Derived.Maps.RangeRun
import Derived.Test.YtjmdfmafnenjnaaProg
import Derived.Lib.Walk
import Derived.WalkKit
import Derived.Laws.Externs
import Derived.Shelf.SortM.Plain
import Derived.Shelf.SortM.SortNone
import Derived.Ground.SlgmProg
import Derived.Shelf.SlMaps.Clone
import Derived.Ground.SlmcProg
import Derived.Test.YtjmdfmafnenjnaaPC

/-! What a row's reading of an argument says: a value of plain data. -/
namespace Go.Sx
open Go Go.RowKit Go.ChangeShapes Go.WideShapes Go.ChangeAt

def layFs (P : Program) (rec : TypeId → Option (List CK)) : List Field → Nat → Option (List CK)
  | [], _ => some []
  | f :: fs, off => match rec f.type with
    | some cs => bif f.offset.beq off && (P.cellsOf f.type).beq (CL.wide cs) then (layFs P rec fs (off + CL.wide cs)).map (cs ++ ·) else none
    | none => none

/-- A type's parts, its places checked. -/
def layR (P : Program) : Nat → TypeId → Option (List CK)
  | 0, _ => none
  | d + 1, t =>
    match P.underlying t with
    | some (.int k) => some [.int k]
    | some .bool => some [.bool]
    | some .string => some [.str]
    | some (.slice e) => (match P.underlying e with
      | some (.int k) => bif (P.cellsOf e).beq 1 then some [.ints k] else none
      | some .string => bif (P.cellsOf e).beq 1 then some [.strs] else none
      | some .bool => bif (P.cellsOf e).beq 1 then some [.bools] else none
      | _ => (layR P d e).bind fun cs => bif (P.cellsOf e).beq (CL.wide cs) && (1 : Nat).ble (CL.wide cs) then some [.rows cs] else none)
    | some (.struct fs) => (layFs P (layR P d) fs.toList 0).bind fun cs => bif (P.cellsOf t).beq (CL.wide cs) then some cs else none
    | some (.array n e) => (match P.underlying e with
      | some (.int k) => bif (P.cellsOf e).beq 1 && (P.cellsOf t).beq n then some [.arr k n] else none
      | _ => none)
    | _ => none

mutual
def CK.wf : (c : CK) → c.V → Prop
  | .int k, n => (Lit.int k n).wf = true
  | .bool, _ => True
  | .str, s => ByteArray.size s ≤ maxLen
  | .ints k, zs => ∀ n ∈ (show List Int from zs), (Lit.int k n).wf = true
  | .strs, ss => ∀ s ∈ (show List ByteArray from ss), s.size ≤ maxLen
  | .bools, _ => True
  | .rows cs, xs => ∀ x ∈ (show List (CL cs) from xs), CL.wf cs x
  | .arr k n, ws => List.length (α := Int) ws = n ∧ ∀ m ∈ (show List Int from ws), (Lit.int k m).wf = true
def CL.wf : (cs : List CK) → CL cs → Prop
  | [], _ => True
  | c :: cs, x => c.wf x.1 ∧ CL.wf cs x.2
end

def CL.app : (azs : List CK) → {bs : List CK} → CL azs → CL bs → CL (azs ++ bs)
  | [], _, _, y => y
  | _ :: azs, _, x, y => (x.1, CL.app azs x.2 y)

theorem CL.wide_app : ∀ (azs bs : List CK), CL.wide (azs ++ bs) = CL.wide azs + CL.wide bs
  | [], bs => by simp [CL.wide]
  | a :: azs, bs => by simp only [List.cons_append, CL.wide, CL.wide_app azs bs]; omega

theorem blt_tt {i n : Nat} (h : i < n) : i.blt n = true := by simpa [Nat.blt, Nat.lt_iff_add_one_le] using h
theorem blt_ff {i n : Nat} (h : n ≤ i) : i.blt n = false := by
  cases hb : i.blt n
  · rfl
  · have : i < n := by simpa [Nat.blt, Nat.lt_iff_add_one_le] using hb
    omega

theorem CL.cell_app1 : ∀ (azs : List CK) {bs : List CK} (x : CL azs) (y : CL bs) {j : Nat}, j < CL.wide azs → CL.cell (azs ++ bs) (CL.app azs x y) j = CL.cell azs x j
  | [], _, _, _, j, h => by simp [CL.wide] at h
  | a :: azs, bs, x, y, j, h => by
    simp only [List.cons_append, CL.cell, CL.app]
    rcases Nat.lt_or_ge j a.wide with h1 | h1
    · rw [blt_tt h1]; rfl
    · rw [blt_ff h1]
      simp only [cond_false]
      exact CL.cell_app1 azs x.2 y (by simp only [CL.wide] at h; omega)
theorem CL.cell_app2 : ∀ (azs : List CK) {bs : List CK} (x : CL azs) (y : CL bs) {j : Nat}, CL.wide azs ≤ j → CL.cell (azs ++ bs) (CL.app azs x y) j = CL.cell bs y (j - CL.wide azs)
  | [], _, _, _, j, h => by simp [CL.wide, CL.app]
  | a :: azs, bs, x, y, j, h => by
    simp only [CL.wide] at h
    simp only [List.cons_append, CL.cell, CL.app]
    rw [blt_ff (by omega)]
    simp only [cond_false, CL.wide]
    rw [CL.cell_app2 azs x.2 y (by omega)]
    congr 1
    omega
theorem CL.wf_app : ∀ (azs : List CK) {bs : List CK} (x : CL azs) (y : CL bs), CL.wf azs x → CL.wf bs y → CL.wf (azs ++ bs) (CL.app azs x y)
  | [], _, _, _, _, h => h
  | a :: azs, bs, x, y, h1, h2 => by
    simp only [CL.wf] at h1
    simp only [List.cons_append, CL.wf, CL.app]
    exact ⟨h1.1, CL.wf_app azs x.2 y h1.2 h2⟩

theorem mapD {α β : Type} (f : α → β) (xs : List α) (d : β) (da : α) {i : Nat} (hi : i < xs.length) : (xs.map f).getD i d = f (xs.getD i da) := by simp [List.getD, hi]

theorem list_of {α : Type} {p : Nat → α → Prop} : ∀ (n : Nat), (∀ i, i < n → ∃ y, p i y) → ∃ xs : List α, xs.length = n ∧ ∀ i (h : i < xs.length), p i xs[i]
  | 0, _ => ⟨[], rfl, fun i h => by simp at h⟩
  | n + 1, h => by
    obtain ⟨xs, h1, h2⟩ := list_of n (fun i hi => h i (by omega))
    obtain ⟨y, hy⟩ := h n (by omega)
    refine ⟨xs ++ [y], by simp [h1], fun i hi => ?_⟩
    by_cases hlt : i < xs.length
    · rw [List.getElem_append_left hlt]; exact h2 i hlt
    · have : i = n := by simp at hi; omega
      subst this
      rw [List.getElem_append_right (by omega)]
      simpa [h1] using hy

section
variable {H : Type} {enc : TypeId × Value → H} {P : Program} {W : World} {base : Nat} {ρ : Nat → Value} {Hh : AHeap}

abbrev FD (W : World) (cs : List CK) (y : CL cs) (get : Nat → Option Value) : Prop := ∀ j, j < CL.wide cs → ∃ u, get j = some u ∧ DenS (fun _ => False) W (CL.cell cs y j) u

theorem trod_fs {d n : Nat} {cells : List Value} (ih : ∀ {t : TypeId} {cs : List CK} {fuel : Nat} {cells : List Value} {x : DataW H × List MemPlace}, layR P d t = some cs → DataW.trod enc P W 0 (fun _ => true) true fuel t cells = some x →
      cells.length = CL.wide cs ∧ ∃ y : CL cs, CL.wf cs y ∧ FD W cs y fun j => cells[j]?) :
    ∀ (fs : List Field) {off : Nat} {cs : List CK}, layFs P (layR P d) fs off = some cs → (∀ f ∈ fs, ∃ x, DataW.trod enc P W 0 (fun _ => true) true n f.type ((cells.drop f.offset).take (P.cellsOf f.type)) = some x) →
      ∃ y : CL cs, CL.wf cs y ∧ FD W cs y fun j => cells[off + j]?
  | [], off, cs, h, _ => by
    simp only [layFs, Option.some.injEq] at h
    subst h
    exact ⟨(), trivial, fun j hj => by simp [CL.wide] at hj⟩
  | f :: fs, off, cs, h, hx => by
    simp only [layFs] at h
    split at h
    · rename_i c1 hc1
      rw [Bool.cond_eq_ite] at h
      split at h
      · rename_i hb
        simp only [Bool.and_eq_true, Nat.beq_eq] at hb
        obtain ⟨ho, hw⟩ := hb
        obtain ⟨c2, hc2, rfl⟩ := Option.map_eq_some_iff.1 h
        obtain ⟨x, hf⟩ := hx f (by simp)
        obtain ⟨h1, y1, h2, h3⟩ := ih hc1 hf
        obtain ⟨y2, h4, h5⟩ := trod_fs ih fs hc2 (fun g hg => hx g (by simp [hg]))
        refine ⟨CL.app c1 y1 y2, CL.wf_app c1 y1 y2 h2 h4, fun j hj => ?_⟩
        rw [CL.wide_app] at hj
        rcases Nat.lt_or_ge j (CL.wide c1) with h6 | h6
        · obtain ⟨u, h7, h8⟩ := h3 j h6
          refine ⟨u, ?_, by rw [CL.cell_app1 c1 y1 y2 h6]; exact h8⟩
          dsimp only at h7 ⊢
          rw [List.getElem?_take, if_pos (by omega), List.getElem?_drop, ho] at h7
          exact h7
        · obtain ⟨u, h7, h8⟩ := h5 (j - CL.wide c1) (by omega)
          refine ⟨u, ?_, by rw [CL.cell_app2 c1 y1 y2 h6]; exact h8⟩
          dsimp only at h7 ⊢
          rw [show off + j = off + CL.wide c1 + (j - CL.wide c1) from by omega]
          exact h7
      · cases h
    · cases h

/-- A slice's elements. -/
theorem trod_row {t e : TypeId} {cs : List CK} {fuel : Nat} {cells : List Value} {x : DataW H × List MemPlace} (ht : P.underlying t = some (.slice e)) (hw : P.cellsOf e = CL.wide cs) (h1 : 1 ≤ CL.wide cs)
    (ih : ∀ {fuel : Nat} {cells : List Value} {x : DataW H × List MemPlace}, DataW.trod enc P W 0 (fun _ => true) true fuel e cells = some x → cells.length = CL.wide cs ∧ ∃ y : CL cs, CL.wf cs y ∧ FD W cs y fun j => cells[j]?)
    (h : DataW.trod enc P W 0 (fun _ => true) true fuel t cells = some x) :
    ∃ (v : Value) (xs : List (CL cs)), cells = [v] ∧ (∀ y ∈ xs, CL.wf cs y) ∧ DenS (fun _ => False) W (.ro (.typ cs xs)) v := by
  rcases DataW.trod_slice ht h with ⟨rfl, _⟩ | ⟨a, len, cap, elems, rest, n, _, rfl, _, _, hl, hm, hlen, hel, _, _⟩
  · exact ⟨_, [], rfl, by simp, .ro (.typ cs []) none 0 (fun _ _ => undef) 0 0 (Nat.le_refl _) (Nat.zero_le _) (fun h => by simp [Con.n] at h) (fun i j hi hj => by simp [Con.n] at hi) (fun i j hi hj => by simp [Con.n] at hi)⟩
  · have each : ∀ i, i < len → ∃ y : CL cs, CL.wf cs y ∧ FD W cs y fun j => W.cell? ((a.add (i * CL.wide cs)).add j) := by
      intro i hi
      have h2 := hel i hi
      rw [List.getElem?_eq_getElem (by omega), hw] at h2
      obtain ⟨cl, h3, h4⟩ := Option.bind_eq_some_iff.1 h2
      obtain ⟨_, h5, h6⟩ := World.cells?_some h3
      obtain ⟨_, y, h7, h8⟩ := ih h4
      refine ⟨y, h7, fun j hj => ?_⟩
      obtain ⟨u, h9, h10⟩ := h8 j hj
      exact ⟨u, by dsimp only; rw [h6 j (by omega)]; exact h9, h10⟩
    obtain ⟨xs, hx1, hx2⟩ := list_of len each
    refine ⟨_, xs, rfl, fun y hy => ?_, ?_⟩
    · obtain ⟨i, hi, rfl⟩ := List.getElem_of_mem hy
      exact (hx2 i hi).1
    · have hn : (Con.typ cs xs).n = len := hx1
      rcases Nat.eq_zero_or_pos len with h0 | h0
      · have key := DenS.ro (O := fun _ => False) (w := W) (.typ cs xs) (some a) cap (fun _ _ => undef) 0 0 (by omega) hm (fun h => by omega) (fun i j hi hj => by omega) (fun i j hi hj => by omega)
        rw [hn] at key
        exact key
      · have hspot : a.spot = none := by
          obtain ⟨u, h9, _⟩ := (hx2 0 (by omega)).2 0 (by omega)
          simpa [Addr.add] using World.cell?_spot h9
        obtain ⟨b, off, spot⟩ := a
        simp only at hspot
        subst hspot
        have hc : ∀ i j, i < len → j < CL.wide cs → ∃ u, W.cell? ⟨b, off + i * CL.wide cs + j, none⟩ = some u ∧ DenS (fun _ => False) W (CL.cell cs (xs.getD i (CL.d cs)) j) u := by
          intro i j hi hj
          obtain ⟨u, h9, h10⟩ := (hx2 i (by omega)).2 j hj
          dsimp only at h9
          rw [add_zero_spot, add_zero_spot] at h9
          exact ⟨u, h9, by simpa [List.getD, hx1, hi] using h10⟩
        have key := DenS.ro (O := fun _ => False) (w := W) (.typ cs xs) (some ⟨b, off, none⟩) cap (fun i j => (W.cell? ⟨b, off + i * CL.wide cs + j, none⟩).getD undef) b off (by omega) hm (fun _ => ⟨rfl, fun h => h, ?_⟩) (fun i j hi hj => ?_) (fun i j hi hj => ?_)
        · rw [hn] at key
          exact key
        · obtain ⟨u, h9, _⟩ := hc 0 0 h0 (by omega)
          rcases Nat.lt_or_ge b W.heap.size with h2 | h2
          · exact h2
          · simp [World.cell?, Array.getElem?_eq_none h2] at h9
        · obtain ⟨u, h9, _⟩ := hc i j (by omega) hj
          show W.cell? ⟨b, off + i * CL.wide cs + j, none⟩ = _
          rw [h9]; rfl
        · obtain ⟨u, h9, h10⟩ := hc i j (by omega) hj
          rw [h9]
          exact h10

theorem trod_cl : ∀ (d : Nat) {t : TypeId} {cs : List CK} {fuel : Nat} {cells : List Value} {x : DataW H × List MemPlace}, layR P d t = some cs → DataW.trod enc P W 0 (fun _ => true) true fuel t cells = some x →
    cells.length = CL.wide cs ∧ ∃ y : CL cs, CL.wf cs y ∧ FD W cs y fun j => cells[j]?
  | 0, t, cs, fuel, cells, x, h, _ => by simp [layR] at h
  | d + 1, t, cs, fuel, cells, x, h, hd => by
    simp only [layR] at h
    have one : ∀ {c : CK} {v : Value} (y : c.V), c.wide = 1 → CK.wf c y → DenS (fun _ => False) W (c.cell y 0) v → ([v] : List Value).length = CL.wide [c] ∧ ∃ y : CL [c], CL.wf [c] y ∧ FD W [c] y fun j => ([v] : List Value)[j]? := by
      intro c v y hw hy hv
      refine ⟨by simp [CL.wide, hw], (y, ()), ⟨hy, trivial⟩, fun j hj => ?_⟩
      simp only [CL.wide, hw] at hj
      obtain rfl : j = 0 := by omega
      refine ⟨v, rfl, ?_⟩
      simp only [CL.cell, hw]
      exact hv
    split at h
    · rename_i k ht
      simp only [Option.some.injEq] at h
      subst h
      obtain ⟨n, rfl, _, hw⟩ := DataW.trod_int ht hd
      exact one (c := .int k) n rfl hw (.int k n)
    · rename_i ht
      simp only [Option.some.injEq] at h
      subst h
      obtain ⟨b, rfl, _⟩ := DataW.trod_bool ht hd
      exact one (c := .bool) b rfl trivial (.bool b)
    · rename_i ht
      simp only [Option.some.injEq] at h
      subst h
      obtain ⟨s, rfl, _, hs⟩ := DataW.trod_string ht hd
      exact one (c := .str) s rfl hs (.str s)
    · rename_i e ht
      split at h
      · rename_i k he
        rw [Bool.cond_eq_ite] at h
        split at h
        · rename_i hw
          have hw : P.cellsOf e = 1 := by simpa using hw
          simp only [Option.some.injEq] at h
          subst h
          obtain ⟨v, xs, rfl, h1, h2⟩ := trod_row (cs := [.int k]) ht hw (Nat.le_refl _) (fun {fuel cells x} hx => by
            obtain ⟨n, rfl, _, hwf⟩ := DataW.trod_int he hx
            exact one (c := .int k) n rfl hwf (.int k n)) hd
          refine one (c := .ints k) (xs.map fun y : CL [.int k] => (show Int from y.1)) rfl (fun n hn => ?_) (den_ro_congr (c := .typ [.int k] xs) ?_ rfl ?_ h2)
          · obtain ⟨y, hy, rfl⟩ := List.mem_map.1 hn
            exact (h1 y hy).1
          · exact List.length_map _
          · intro i j hi hj
            have hj : j < 1 := hj
            obtain rfl : j = 0 := by omega
            have hi : i < xs.length := hi
            exact congrArg (SV.int k) (mapD (fun y : CL [.int k] => (show Int from y.1)) xs 0 (CL.d [.int k]) hi)
        · cases h
      · rename_i he
        rw [Bool.cond_eq_ite] at h
        split at h
        · rename_i hw
          have hw : P.cellsOf e = 1 := by simpa using hw
          simp only [Option.some.injEq] at h
          subst h
          obtain ⟨v, xs, rfl, h1, h2⟩ := trod_row (cs := [.str]) ht hw (Nat.le_refl _) (fun {fuel cells x} hx => by
            obtain ⟨n, rfl, _, hwf⟩ := DataW.trod_string he hx
            exact one (c := .str) n rfl hwf (.str n)) hd
          refine one (c := .strs) (xs.map fun y : CL [.str] => (show ByteArray from y.1)) rfl (fun n hn => ?_) (den_ro_congr (c := .typ [.str] xs) ?_ rfl ?_ h2)
          · obtain ⟨y, hy, rfl⟩ := List.mem_map.1 hn
            exact (h1 y hy).1
          · exact List.length_map _
          · intro i j hi hj
            have hj : j < 1 := hj
            obtain rfl : j = 0 := by omega
            have hi : i < xs.length := hi
            exact congrArg (SV.str) (mapD (fun y : CL [.str] => (show ByteArray from y.1)) xs ByteArray.empty (CL.d [.str]) hi)
        · cases h
      · rename_i he
        rw [Bool.cond_eq_ite] at h
        split at h
        · rename_i hw
          have hw : P.cellsOf e = 1 := by simpa using hw
          simp only [Option.some.injEq] at h
          subst h
          obtain ⟨v, xs, rfl, h1, h2⟩ := trod_row (cs := [.bool]) ht hw (Nat.le_refl _) (fun {fuel cells x} hx => by
            obtain ⟨n, rfl, _⟩ := DataW.trod_bool he hx
            exact one (c := .bool) n rfl trivial (.bool n)) hd
          refine one (c := .bools) (xs.map fun y : CL [.bool] => (show Bool from y.1)) rfl trivial (den_ro_congr (c := .typ [.bool] xs) ?_ rfl ?_ h2)
          · exact List.length_map _
          · intro i j hi hj
            have hj : j < 1 := hj
            obtain rfl : j = 0 := by omega
            have hi : i < xs.length := hi
            exact congrArg (SV.bool) (mapD (fun y : CL [.bool] => (show Bool from y.1)) xs false (CL.d [.bool]) hi)
        · cases h
      · obtain ⟨cs', h1, h2⟩ := Option.bind_eq_some_iff.1 h
        rw [Bool.cond_eq_ite] at h2
        split at h2
        · rename_i hb
          simp only [Bool.and_eq_true, Nat.beq_eq] at hb
          obtain ⟨hw, hw1⟩ := hb
          have hw1 := Nat.le_of_ble_eq_true hw1
          simp only [Option.some.injEq] at h2
          subst h2
          obtain ⟨v, xs, rfl, h3, h4⟩ := trod_row (cs := cs') ht hw hw1 (fun hx => trod_cl d h1 hx) hd
          exact one (c := .rows cs') xs rfl h3 h4
        · cases h2
    · rename_i fs ht
      obtain ⟨cs', h1, h2⟩ := Option.bind_eq_some_iff.1 h
      rw [Bool.cond_eq_ite] at h2
      split at h2
      · rename_i hw
        have hw : P.cellsOf t = CL.wide cs' := by simpa using hw
        simp only [Option.some.injEq] at h2
        subst h2
        obtain ⟨xs, n, _, _, h3, h4, h5⟩ := DataW.trod_struct ht hd
        obtain ⟨y, h6, h7⟩ := trod_fs (enc := enc) (n := n) (cells := cells) (fun h1 h2 => trod_cl d h1 h2) fs.toList h1 (fun f hf => by
          obtain ⟨i, hi, rfl⟩ := List.getElem_of_mem hf
          have hi' : i < fs.size := by simpa using hi
          have := h5 i fs[i] (Array.getElem?_eq_getElem hi')
          rw [List.getElem?_eq_getElem (by omega)] at this
          exact ⟨_, by simpa using this⟩)
        refine ⟨by omega, y, h6, fun j hj => ?_⟩
        have := h7 j hj
        simpa using this
      · cases h2
    · rename_i n e ht
      split at h
      · rename_i k he
        rw [Bool.cond_eq_ite] at h
        split at h
        · rename_i hb
          simp only [Bool.and_eq_true, Nat.beq_eq] at hb
          obtain ⟨hw, hwt⟩ := hb
          simp only [Option.some.injEq] at h
          subst h
          obtain ⟨xs, m, _, _, h1, h2, h3⟩ := DataW.trod_array ht hd
          have each : ∀ i, i < n → ∃ z : Int, (Lit.int k z).wf = true ∧ cells[i]? = some (.int k z) := by
            intro i hi
            have h4 := h3 i hi
            rw [List.getElem?_eq_getElem (by omega), hw] at h4
            obtain ⟨z, h5, _, h6⟩ := DataW.trod_int he h4
            refine ⟨z, h6, ?_⟩
            have h7 : ((cells.drop (i * 1)).take 1)[0]? = some (.int k z) := by rw [h5]; rfl
            rw [List.getElem?_take, if_pos (by omega), List.getElem?_drop] at h7
            simpa using h7
          obtain ⟨zs, hz1, hz2⟩ := list_of n each
          refine ⟨by simp [CL.wide, CK.wide]; omega, (zs, ()), ⟨⟨hz1, fun z hz => ?_⟩, trivial⟩, fun j hj => ?_⟩
          · obtain ⟨i, hi, rfl⟩ := List.getElem_of_mem (show z ∈ zs from hz)
            exact (hz2 i hi).1
          · simp only [CL.wide, CK.wide, Nat.add_zero] at hj
            refine ⟨.int k zs[j], (hz2 j (by omega)).2, ?_⟩
            simp only [CL.cell, CK.wide]
            rw [blt_tt hj]
            show DenS _ _ (.int k (zs.getD j 0)) _
            rw [show zs.getD j 0 = zs[j] from by simp [List.getD, hz1, hj]]
            exact .int k _
        · cases h
      · cases h
    · cases h

/-! ### values of an argument's type -/
def RK.ck : RK → CK
  | .ints k => .ints k
  | .strs => .strs
  | .bools => .bools
  | .typ cs => .rows cs
def B.ck : B → CK
  | .int k => .int k
  | .bool => .bool
  | .str => .str
  | .row r _ => r.ck
  | .rrow r _ => r.ck
  | .arr k n => .arr k n
  | .fn => .bool
def B.noFn : B → Bool
  | .fn => false
  | _ => true
def RK.of : (r : RK) → r.ck.V → r.V
  | .ints _, y => y
  | .strs, y => y
  | .bools, y => y
  | .typ _, y => y
def B.of : (b : B) → b.ck.V → b.V
  | .int _, y => y
  | .bool, y => y
  | .str, y => y
  | .row r _, y => r.of y
  | .rrow r _, y => r.of y
  | .arr _ _, y => y
  | .fn, _ => (0 : Nat)
def RK.wf : (r : RK) → r.V → Prop
  | .ints k, x => ∀ n ∈ x, (Lit.int k n).wf = true
  | .strs, x => ∀ s ∈ x, ByteArray.size s ≤ maxLen
  | .bools, _ => True
  | .typ cs, x => ∀ y ∈ x, CL.wf cs y
def B.wf : (b : B) → b.V → Prop
  | .int k, n => (Lit.int k n).wf = true
  | .str, s => ByteArray.size s ≤ maxLen
  | .row r _, x => r.wf x
  | .rrow r _, x => r.wf x
  | .arr k n, ws => List.length (α := Int) ws = n ∧ ∀ m ∈ (show List Int from ws), (Lit.int k m).wf = true
  | _, _ => True
def BL.wf : (bs : List B) → BL bs → Prop
  | [], _ => True
  | b :: bs, (x, y) => b.wf x ∧ BL.wf bs y
def Ty.wf : (t : Ty) → t.V → Prop
  | .b q, x => q.wf x
  | .st bs, x => BL.wf bs x
def AL.wf : (ts : List Ty) → AL ts → Prop
  | [], _ => True
  | t :: ts, (x, y) => t.wf x ∧ AL.wf ts y
def BL.of : (bs : List B) → CL (bs.map B.ck) → BL bs
  | [], _ => ()
  | b :: bs, y => (b.of y.1, BL.of bs y.2)

theorem B.of_wf {b : B} {y : b.ck.V} (h : CK.wf b.ck y) : b.wf (b.of y) := by
  cases b with
  | int k => exact h
  | bool => trivial
  | str => exact h
  | row r e => cases r <;> exact h
  | rrow r e => cases r <;> exact h
  | arr k n => exact h
  | fn => trivial

theorem B.of_den {b : B} (hb : b.noFn = true) {y : b.ck.V} (hy : CK.wf b.ck y) {cells : List Value} (hl : cells.length = b.ck.wide) (h : ∀ j, j < b.ck.wide → ∃ u, cells[j]? = some u ∧ DenS (fun _ => False) W (b.ck.cell y j) u) :
    DenC ρ Hh (fun _ => False) W (b.av (b.of y)) cells := by
  have one : b.ck.wide = 1 → ∃ u, cells = [u] ∧ DenS (fun _ => False) W (b.ck.cell y 0) u := by
    intro h1
    obtain ⟨u, h2, h3⟩ := h 0 (by omega)
    rw [h1] at hl
    match cells, hl with
    | [v], _ => simp only [List.getElem?_cons_zero, Option.some.injEq] at h2; subst h2; exact ⟨v, rfl, h3⟩
  cases b with
  | int k => obtain ⟨u, rfl, h2⟩ := one rfl; show DenC _ _ _ _ (.s (.int k y)) _; unfold DenC; exact ⟨u, rfl, h2⟩
  | bool => obtain ⟨u, rfl, h2⟩ := one rfl; show DenC _ _ _ _ (.s (.bool y)) _; unfold DenC; exact ⟨u, rfl, h2⟩
  | str => obtain ⟨u, rfl, h2⟩ := one rfl; show DenC _ _ _ _ (.s (.str y)) _; unfold DenC; exact ⟨u, rfl, h2⟩
  | row r e =>
    obtain ⟨u, rfl, h2⟩ := one (by cases r <;> rfl)
    show DenC _ _ _ _ (.s (.ro (r.con (r.of y)))) _
    unfold DenC
    exact ⟨u, rfl, by cases r <;> exact h2⟩
  | rrow r e =>
    obtain ⟨u, rfl, h2⟩ := one (by cases r <;> rfl)
    show DenC _ _ _ _ (.s (.ro (r.con (r.of y)))) _
    unfold DenC
    exact ⟨u, rfl, by cases r <;> exact h2⟩
  | arr k n =>
    show DenC _ _ _ _ (.ints k n y) _
    unfold DenC
    have key : ∀ ys : List Int, ys.length = n → (∀ j, j < n → ∃ u, cells[j]? = some u ∧ DenS (fun _ => False) W (.int k (ys.getD j 0)) u) → cells.length = n → cells = ys.map (Value.int k) := by
      intro ys h1 h2 h3
      refine List.ext_getElem (by rw [h3, List.length_map, h1]) fun j h4 h5 => ?_
      obtain ⟨u, h6, h7⟩ := h2 j (by omega)
      cases h7
      rw [List.getElem?_eq_getElem h4, Option.some.injEq] at h6
      rw [h6, List.getElem_map]
      congr 1
      simp [List.getD, show j < ys.length by omega]
    exact ⟨hy.1, key y hy.1 h hl⟩
  | fn => cases hb

theorem BL.of_den : ∀ {bs : List B}, bs.all B.noFn = true → ∀ {y : CL (bs.map B.ck)}, CL.wf (bs.map B.ck) y → ∀ {cells : List Value}, cells.length = CL.wide (bs.map B.ck) → (FD W (bs.map B.ck) y fun j => cells[j]?) →
    BL.wf bs (BL.of bs y) ∧ DenSegs ρ Hh (fun _ => False) W (BL.av bs (BL.of bs y)) cells
  | [], _, y, _, cells, hl, _ => ⟨trivial, DenSegs_nil.2 (List.eq_nil_of_length_eq_zero hl)⟩
  | b :: bs, hb, y, hy, cells, hl, h => by
    simp only [List.all_cons, Bool.and_eq_true] at hb
    simp only [List.map_cons, CL.wide] at hl
    have hy : CK.wf b.ck y.1 ∧ CL.wf (bs.map B.ck) y.2 := hy
    have h : ∀ j, j < b.ck.wide + CL.wide (bs.map B.ck) → ∃ u, cells[j]? = some u ∧ DenS (fun _ => False) W (bif j.blt b.ck.wide then b.ck.cell y.1 j else CL.cell (bs.map B.ck) y.2 (j - b.ck.wide)) u := h
    obtain ⟨h1, h2⟩ := BL.of_den hb.2 (y := y.2) hy.2 (cells := cells.drop b.ck.wide) (by rw [List.length_drop]; omega) (fun j hj => by
      obtain ⟨u, h3, h4⟩ := h (b.ck.wide + j) (by omega)
      rw [blt_ff (by omega), cond_false, Nat.add_sub_cancel_left] at h4
      exact ⟨u, by dsimp only; rw [List.getElem?_drop]; exact h3, h4⟩)
    refine ⟨⟨B.of_wf hy.1, h1⟩, DenSegs_cons.2 ⟨cells.take b.ck.wide, cells.drop b.ck.wide, (List.take_append_drop _ _).symm, B.of_den hb.1 hy.1 (by rw [List.length_take]; omega) (fun j hj => ?_), h2⟩⟩
    obtain ⟨u, h3, h4⟩ := h j (by omega)
    rw [blt_tt hj, cond_true] at h4
    exact ⟨u, by rw [List.getElem?_take, if_pos hj]; exact h3, h4⟩

def Ty.lay (P : Program) (t : TypeId) : Ty → Bool
  | .b q => q.noFn && (layR P 12 t).any (fun cs => (CL.eq cs [q.ck]).isSome) && (match P.underlying t, q with
    | some (.array _ _), .arr _ _ => true
    | some (.struct _), _ => false
    | some (.array _ _), _ => false
    | _, .arr _ _ => false
    | _, _ => true)
  | .st bs => bs.all B.noFn && (layR P 12 t).any (fun cs => (CL.eq cs (bs.map B.ck)).isSome) && (match P.underlying t with
    | some (.struct _) => true
    | _ => false)

theorem lay_eq {d : Nat} {t : TypeId} {cs' : List CK} (h : (layR P d t).any (fun cs => (CL.eq cs cs').isSome) = true) : layR P d t = some cs' := by
  cases hl : layR P d t with
  | none => simp [hl] at h
  | some cs =>
    rw [hl, Option.any_some] at h
    obtain ⟨e, _⟩ := Option.isSome_iff_exists.1 h
    rw [e.down]

theorem den_ty {t : TypeId} {ty : Ty} {v : Value} {d : DataW H} {ps : List MemPlace} (hl : ty.lay P t = true) (hval : Value.okWide P W .any base t v) (hd : DataW.Trod enc P W 0 (fun _ => true) true t v d ps) :
    ∃ x : ty.V, ty.wf x ∧ DenV ρ Hh (fun _ => False) W (ty.av x) v := by
  obtain ⟨fuel, hd⟩ := hd
  cases ty with
  | st bs =>
    simp only [Ty.lay, Bool.and_eq_true] at hl
    obtain ⟨⟨h1, h2⟩, h3⟩ := hl
    split at h3
    · rename_i fs ht
      simp only [Value.okWide, ht] at hval
      obtain ⟨cs, rfl, _, _⟩ := hval
      obtain ⟨h4, y, h5, h6⟩ := trod_cl 12 (lay_eq h2) hd
      obtain ⟨h7, h8⟩ := BL.of_den (ρ := ρ) (Hh := Hh) h1 h5 h4 h6
      refine ⟨BL.of bs y, h7, ?_⟩
      show DenV _ _ _ _ (.agg _) _
      unfold DenV
      exact ⟨cs.toList, by simp, h8⟩
    · cases h3
  | b q =>
    simp only [Ty.lay, Bool.and_eq_true] at hl
    obtain ⟨⟨h1, h2⟩, h3⟩ := hl
    obtain ⟨h4, y, h5, h6⟩ := trod_cl 12 (lay_eq h2) hd
    have h4 : v.cells.toList.length = q.ck.wide := by simpa [CL.wide] using h4
    have h5 : CK.wf q.ck y.1 := h5.1
    have key := B.of_den (ρ := ρ) (Hh := Hh) h1 h5 h4 (fun j hj => by
      obtain ⟨u, h7, h8⟩ := h6 j (by simp only [CL.wide]; omega)
      simp only [CL.cell] at h8
      rw [blt_tt hj, cond_true] at h8
      exact ⟨u, h7, h8⟩)
    refine ⟨q.of y.1, B.of_wf h5, ?_⟩
    show DenV _ _ _ _ (q.av _) _
    have single : (∀ cs, v ≠ .agg cs) → (∀ k n ws, q.av (q.of y.1) ≠ .ints k n ws) → DenV ρ Hh (fun _ => False) W (q.av (q.of y.1)) v := by
      intro hna hni
      have hc : v.cells.toList = [v] := by cases v <;> first | rfl | exact absurd rfl (hna _)
      rw [hc] at key
      obtain ⟨u, hu, _, hden⟩ := DenC_single key (wide_other hni) hni
      cases hu
      exact hden
    by_cases harr : ∃ k n, q = .arr k n
    · obtain ⟨k, n, rfl⟩ := harr
      obtain ⟨n', e', ht⟩ : ∃ n' e', P.underlying t = some (.array n' e') := by
        cases hu : P.underlying t with
        | none => simp [hu] at h3
        | some td => cases td <;> simp [hu] at h3 ⊢
      simp only [Value.okWide, ht] at hval
      obtain ⟨cs, rfl, _, _⟩ := hval
      have key : DenC ρ Hh (fun _ => False) W (.ints k n y.1) cs.toList := key
      unfold DenC at key
      show DenV _ _ _ _ (.ints k n y.1) _
      unfold DenV
      exact ⟨key.1, by rw [← key.2]⟩
    · have hns : (∀ fs, P.underlying t ≠ some (.struct fs)) ∧ ∀ n e, P.underlying t ≠ some (.array n e) := by
        cases hu : P.underlying t with
        | none => simp
        | some td => cases td <;> cases q <;> simp_all
      refine single (fun cs hv => ?_) (fun k n ws he => ?_)
      · subst hv
        unfold Value.okWide at hval
        split at hval
        · rename_i fs ht; exact hns.1 fs ht
        · rename_i n e ht; exact hns.2 n e ht
        · simp only [Cell.okWide, Cell.ok] at hval
          split at hval <;> simp_all
      · cases q <;> simp [B.av] at he
        exact harr ⟨_, _, rfl⟩

/-- A contract that says 'true', under what the reading gives: the call's end. -/
theorem calls_true_pre {Z : Glob} {f : FuncId} {ts : List Ty} {pre : AL ts → List Prop} (h : FnOk P Z f ts [.b .bool] pre (fun _ => (true, ()))) (hz : Z.ok W) {x : AL ts} {vs : List Value} (hp : Needs (pre x))
    (hd : DenL (fun _ => undef) (fun _ => none) (fun _ => False) W (AL.av ts x) vs) : Calls P f vs.toArray W fun e W' => e = .returned (.bool true) ∧ Same W W' := by
  have e0 : Hot (fun _ => undef) (fun _ => none) (fun _ => False) = fun _ => False := by
    funext b
    refine propext ⟨fun h => ?_, False.elim⟩
    rcases h with ⟨id, o, ho, _⟩ | h
    · cases ho
    · exact h
  refine (h x (AL.okL hd) hp (fun _ => False) W vs (fun _ h => h.elim) hz (by rw [e0]; exact hd)).mono ?_
  rintro e W' ⟨v, rfl, ρ', _, h2, _, h4⟩
  have h5 : DenV ρ' (lk []) (Hot ρ' (lk []) fun _ => False) W' (.s (.bool true)) v := h2
  have h6 := DenS_of_V (by simp) h5
  cases h6
  exact ⟨rfl, h4.os, h4.output, fun b hb => h4.heap b hb (fun ⟨id, o, ho, _⟩ => by cases ho)⟩
end
end Go.Sx

/-! The last facts of a row whose program is a cut: its head word is read once. -/
namespace Go.Sx
open Go

theorem make_cut (P : Program) (r : List (List Char)) (h : behindMainWord (wordsSigns P.initOrder.toList) = [(Char.ofNat 99), (Char.ofNat 117), (Char.ofNat 116)] :: r) : P.make = some .cut := by
  unfold Program.make; rw [h]; kernel_rfl
theorem lifts_cut (P : Program) (r : List (List Char)) (h : behindMainWord (wordsSigns P.initOrder.toList) = [(Char.ofNat 99), (Char.ofNat 117), (Char.ofNat 116)] :: r) (hs : stripLifts liftWords ([(Char.ofNat 99), (Char.ofNat 117), (Char.ofNat 116)] :: r) = ([], [(Char.ofNat 99), (Char.ofNat 117), (Char.ofNat 116)] :: r)) : P.liftsFinal = false := by
  unfold Program.liftsFinal Program.headLifts; rw [h]; dsimp only; rw [hs]; kernel_rfl
theorem enter_cut (P : Program) (r : List (List Char)) (h : behindMainWord (wordsSigns P.initOrder.toList) = [(Char.ofNat 99), (Char.ofNat 117), (Char.ofNat 116)] :: r) (hs : stripLifts liftWords ([(Char.ofNat 99), (Char.ofNat 117), (Char.ofNat 116)] :: r) = ([], [(Char.ofNat 99), (Char.ofNat 117), (Char.ofNat 116)] :: r))
    (h1 : P.laysLater = false) (h2 : P.bearsReflect = false) (h3 : P.doorFits [] = true) : P.mayEnter = true := by
  unfold Program.mayEnter; rw [h]; dsimp only; rw [hs, h1, h2]; dsimp only; rw [h3]; kernel_rfl

def joinedRest (P : Program) (f : FuncId) (fn : Func) (s : ChangeSpec) (c : OpenClaim) : {b : Bool // P.mayEnter = true → P.liftsFinal = false → P.make = some .cut → joinedFacts P f fn s c = b} := by
  refine ⟨?b, fun h1 h2 h3 => ?h⟩
  case h =>
    unfold joinedFacts
    rw [h1, h2, h3]

theorem joined_cut {P : Program} {f : FuncId} {fn : Func} {s : ChangeSpec} {c : OpenClaim} (r : List (List Char)) (h : behindMainWord (wordsSigns P.initOrder.toList) = [(Char.ofNat 99), (Char.ofNat 117), (Char.ofNat 116)] :: r) (hs : stripLifts liftWords ([(Char.ofNat 99), (Char.ofNat 117), (Char.ofNat 116)] :: r) = ([], [(Char.ofNat 99), (Char.ofNat 117), (Char.ofNat 116)] :: r))
    (h1 : P.laysLater = false) (h2 : P.bearsReflect = false) (h3 : P.doorFits [] = true) (hr : (joinedRest P f fn s c).1 = true) : joinedFacts P f fn s c = true :=
  ((joinedRest P f fn s c).2 (enter_cut P r h hs h1 h2 h3) (lifts_cut P r h hs) (make_cut P r h)).trans hr
end Go.Sx

/- The head of the program's text, read once. -/
/-! The head. -/
namespace Go.Proofs.Ytjmdfmafnenjnaa.Hd
set_option maxRecDepth 100000 in
def ioL : List Char := [(Char.ofNat 104), (Char.ofNat 97), (Char.ofNat 114), (Char.ofNat 110), (Char.ofNat 101), (Char.ofNat 115), (Char.ofNat 115), (Char.ofNat 32), (Char.ofNat 49), (Char.ofNat 56), (Char.ofNat 57), (Char.ofNat 48), (Char.ofNat 101), (Char.ofNat 50), (Char.ofNat 56), (Char.ofNat 99), (Char.ofNat 49), (Char.ofNat 100), (Char.ofNat 101), (Char.ofNat 50), (Char.ofNat 99), (Char.ofNat 50), (Char.ofNat 101), (Char.ofNat 51), (Char.ofNat 101), (Char.ofNat 51), (Char.ofNat 101), (Char.ofNat 55), (Char.ofNat 97), (Char.ofNat 100), (Char.ofNat 55), (Char.ofNat 54), (Char.ofNat 57), (Char.ofNat 57), (Char.ofNat 51), (Char.ofNat 102), (Char.ofNat 102), (Char.ofNat 55), (Char.ofNat 48), (Char.ofNat 49), (Char.ofNat 55), (Char.ofNat 51), (Char.ofNat 54), (Char.ofNat 50), (Char.ofNat 100), (Char.ofNat 52), (Char.ofNat 102), (Char.ofNat 97), (Char.ofNat 51), (Char.ofNat 49), (Char.ofNat 55), (Char.ofNat 54), (Char.ofNat 50), (Char.ofNat 53), (Char.ofNat 54), (Char.ofNat 51), (Char.ofNat 53), (Char.ofNat 50), (Char.ofNat 55), (Char.ofNat 55), (Char.ofNat 57), (Char.ofNat 48), (Char.ofNat 52), (Char.ofNat 100), (Char.ofNat 53), (Char.ofNat 100), (Char.ofNat 50), (Char.ofNat 97), (Char.ofNat 49), (Char.ofNat 55), (Char.ofNat 49), (Char.ofNat 49), (Char.ofNat 32), (Char.ofNat 99), (Char.ofNat 117), (Char.ofNat 116), (Char.ofNat 32), (Char.ofNat 97), (Char.ofNat 116), (Char.ofNat 32), (Char.ofNat 99), (Char.ofNat 97), (Char.ofNat 108), (Char.ofNat 108), (Char.ofNat 98), (Char.ofNat 111), (Char.ofNat 97), (Char.ofNat 114), (Char.ofNat 100), (Char.ofNat 47), (Char.ofNat 99), (Char.ofNat 97), (Char.ofNat 108), (Char.ofNat 108), (Char.ofNat 98), (Char.ofNat 111), (Char.ofNat 97), (Char.ofNat 114), (Char.ofNat 100), (Char.ofNat 108), (Char.ofNat 97), (Char.ofNat 119), (Char.ofNat 48), (Char.ofNat 54), (Char.ofNat 46), (Char.ofNat 76), (Char.ofNat 101), (Char.ofNat 97), (Char.ofNat 102), (Char.ofNat 80), (Char.ofNat 108), (Char.ofNat 97), (Char.ofNat 99), (Char.ofNat 101), (Char.ofNat 32), (Char.ofNat 99), (Char.ofNat 97), (Char.ofNat 108), (Char.ofNat 108), (Char.ofNat 98), (Char.ofNat 111), (Char.ofNat 97), (Char.ofNat 114), (Char.ofNat 100), (Char.ofNat 47), (Char.ofNat 99), (Char.ofNat 97), (Char.ofNat 108), (Char.ofNat 108), (Char.ofNat 98), (Char.ofNat 111), (Char.ofNat 97), (Char.ofNat 114), (Char.ofNat 100), (Char.ofNat 108), (Char.ofNat 97), (Char.ofNat 119), (Char.ofNat 48), (Char.ofNat 52), (Char.ofNat 46), (Char.ofNat 80), (Char.ofNat 97), (Char.ofNat 103), (Char.ofNat 101), (Char.ofNat 82), (Char.ofNat 111), (Char.ofNat 111), (Char.ofNat 116), (Char.ofNat 115), (Char.ofNat 32), (Char.ofNat 99), (Char.ofNat 97), (Char.ofNat 108), (Char.ofNat 108), (Char.ofNat 98), (Char.ofNat 111), (Char.ofNat 97), (Char.ofNat 114), (Char.ofNat 100), (Char.ofNat 47), (Char.ofNat 99), (Char.ofNat 97), (Char.ofNat 108), (Char.ofNat 108), (Char.ofNat 98), (Char.ofNat 111), (Char.ofNat 97), (Char.ofNat 114), (Char.ofNat 100), (Char.ofNat 108), (Char.ofNat 97), (Char.ofNat 119), (Char.ofNat 48), (Char.ofNat 54), (Char.ofNat 46), (Char.ofNat 76), (Char.ofNat 101), (Char.ofNat 97), (Char.ofNat 102), (Char.ofNat 66), (Char.ofNat 97), (Char.ofNat 99), (Char.ofNat 107), (Char.ofNat 32), (Char.ofNat 99), (Char.ofNat 97), (Char.ofNat 108), (Char.ofNat 108), (Char.ofNat 98), (Char.ofNat 111), (Char.ofNat 97), (Char.ofNat 114), (Char.ofNat 100), (Char.ofNat 47), (Char.ofNat 99), (Char.ofNat 97), (Char.ofNat 108), (Char.ofNat 108), (Char.ofNat 98), (Char.ofNat 111), (Char.ofNat 97), (Char.ofNat 114), (Char.ofNat 100), (Char.ofNat 108), (Char.ofNat 97), (Char.ofNat 119), (Char.ofNat 48), (Char.ofNat 52), (Char.ofNat 46), (Char.ofNat 80), (Char.ofNat 97), (Char.ofNat 103), (Char.ofNat 101), (Char.ofNat 78), (Char.ofNat 97), (Char.ofNat 109), (Char.ofNat 101), (Char.ofNat 115), (Char.ofNat 32), (Char.ofNat 99), (Char.ofNat 97), (Char.ofNat 108), (Char.ofNat 108), (Char.ofNat 98), (Char.ofNat 111), (Char.ofNat 97), (Char.ofNat 114), (Char.ofNat 100), (Char.ofNat 47), (Char.ofNat 99), (Char.ofNat 97), (Char.ofNat 108), (Char.ofNat 108), (Char.ofNat 98), (Char.ofNat 111), (Char.ofNat 97), (Char.ofNat 114), (Char.ofNat 100), (Char.ofNat 108), (Char.ofNat 97), (Char.ofNat 119), (Char.ofNat 48), (Char.ofNat 54), (Char.ofNat 46), (Char.ofNat 76), (Char.ofNat 101), (Char.ofNat 97), (Char.ofNat 102), (Char.ofNat 78), (Char.ofNat 97), (Char.ofNat 109), (Char.ofNat 101), (Char.ofNat 115), (Char.ofNat 32), (Char.ofNat 99), (Char.ofNat 97), (Char.ofNat 108), (Char.ofNat 108), (Char.ofNat 98), (Char.ofNat 111), (Char.ofNat 97), (Char.ofNat 114), (Char.ofNat 100), (Char.ofNat 47), (Char.ofNat 99), (Char.ofNat 97), (Char.ofNat 108), (Char.ofNat 108), (Char.ofNat 98), (Char.ofNat 111), (Char.ofNat 97), (Char.ofNat 114), (Char.ofNat 100), (Char.ofNat 108), (Char.ofNat 97), (Char.ofNat 119), (Char.ofNat 48), (Char.ofNat 54), (Char.ofNat 46), (Char.ofNat 76), (Char.ofNat 101), (Char.ofNat 97), (Char.ofNat 102), (Char.ofNat 84), (Char.ofNat 101), (Char.ofNat 108), (Char.ofNat 108), (Char.ofNat 115), (Char.ofNat 32), (Char.ofNat 99), (Char.ofNat 97), (Char.ofNat 108), (Char.ofNat 108), (Char.ofNat 98), (Char.ofNat 111), (Char.ofNat 97), (Char.ofNat 114), (Char.ofNat 100), (Char.ofNat 47), (Char.ofNat 99), (Char.ofNat 97), (Char.ofNat 108), (Char.ofNat 108), (Char.ofNat 98), (Char.ofNat 111), (Char.ofNat 97), (Char.ofNat 114), (Char.ofNat 100), (Char.ofNat 108), (Char.ofNat 97), (Char.ofNat 119), (Char.ofNat 48), (Char.ofNat 54), (Char.ofNat 46), (Char.ofNat 76), (Char.ofNat 101), (Char.ofNat 97), (Char.ofNat 102), (Char.ofNat 75), (Char.ofNat 101), (Char.ofNat 121), (Char.ofNat 115), (Char.ofNat 32), (Char.ofNat 99), (Char.ofNat 97), (Char.ofNat 108), (Char.ofNat 108), (Char.ofNat 98), (Char.ofNat 111), (Char.ofNat 97), (Char.ofNat 114), (Char.ofNat 100), (Char.ofNat 47), (Char.ofNat 99), (Char.ofNat 97), (Char.ofNat 108), (Char.ofNat 108), (Char.ofNat 98), (Char.ofNat 111), (Char.ofNat 97), (Char.ofNat 114), (Char.ofNat 100), (Char.ofNat 108), (Char.ofNat 97), (Char.ofNat 119), (Char.ofNat 48), (Char.ofNat 54), (Char.ofNat 46), (Char.ofNat 76), (Char.ofNat 101), (Char.ofNat 97), (Char.ofNat 102), (Char.ofNat 83), (Char.ofNat 112), (Char.ofNat 108), (Char.ofNat 105), (Char.ofNat 116), (Char.ofNat 115), (Char.ofNat 32), (Char.ofNat 99), (Char.ofNat 97), (Char.ofNat 108), (Char.ofNat 108), (Char.ofNat 98), (Char.ofNat 111), (Char.ofNat 97), (Char.ofNat 114), (Char.ofNat 100), (Char.ofNat 47), (Char.ofNat 99), (Char.ofNat 97), (Char.ofNat 108), (Char.ofNat 108), (Char.ofNat 98), (Char.ofNat 111), (Char.ofNat 97), (Char.ofNat 114), (Char.ofNat 100), (Char.ofNat 108), (Char.ofNat 97), (Char.ofNat 119), (Char.ofNat 48), (Char.ofNat 54), (Char.ofNat 46), (Char.ofNat 76), (Char.ofNat 101), (Char.ofNat 97), (Char.ofNat 102), (Char.ofNat 80), (Char.ofNat 117), (Char.ofNat 116), (Char.ofNat 115), (Char.ofNat 32), (Char.ofNat 99), (Char.ofNat 97), (Char.ofNat 108), (Char.ofNat 108), (Char.ofNat 98), (Char.ofNat 111), (Char.ofNat 97), (Char.ofNat 114), (Char.ofNat 100), (Char.ofNat 47), (Char.ofNat 99), (Char.ofNat 97), (Char.ofNat 108), (Char.ofNat 108), (Char.ofNat 98), (Char.ofNat 111), (Char.ofNat 97), (Char.ofNat 114), (Char.ofNat 100), (Char.ofNat 108), (Char.ofNat 97), (Char.ofNat 119), (Char.ofNat 48), (Char.ofNat 51), (Char.ofNat 46), (Char.ofNat 68), (Char.ofNat 105), (Char.ofNat 115), (Char.ofNat 107), (Char.ofNat 82), (Char.ofNat 101), (Char.ofNat 97), (Char.ofNat 100), (Char.ofNat 115), (Char.ofNat 32), (Char.ofNat 99), (Char.ofNat 97), (Char.ofNat 108), (Char.ofNat 108), (Char.ofNat 98), (Char.ofNat 111), (Char.ofNat 97), (Char.ofNat 114), (Char.ofNat 100), (Char.ofNat 47), (Char.ofNat 99), (Char.ofNat 97), (Char.ofNat 108), (Char.ofNat 108), (Char.ofNat 98), (Char.ofNat 111), (Char.ofNat 97), (Char.ofNat 114), (Char.ofNat 100), (Char.ofNat 108), (Char.ofNat 97), (Char.ofNat 119), (Char.ofNat 48), (Char.ofNat 51), (Char.ofNat 46), (Char.ofNat 68), (Char.ofNat 105), (Char.ofNat 115), (Char.ofNat 107), (Char.ofNat 67), (Char.ofNat 114), (Char.ofNat 97), (Char.ofNat 115), (Char.ofNat 104), (Char.ofNat 32), (Char.ofNat 99), (Char.ofNat 97), (Char.ofNat 108), (Char.ofNat 108), (Char.ofNat 98), (Char.ofNat 111), (Char.ofNat 97), (Char.ofNat 114), (Char.ofNat 100), (Char.ofNat 47), (Char.ofNat 99), (Char.ofNat 97), (Char.ofNat 108), (Char.ofNat 108), (Char.ofNat 98), (Char.ofNat 111), (Char.ofNat 97), (Char.ofNat 114), (Char.ofNat 100), (Char.ofNat 108), (Char.ofNat 97), (Char.ofNat 119), (Char.ofNat 48), (Char.ofNat 51), (Char.ofNat 46), (Char.ofNat 68), (Char.ofNat 105), (Char.ofNat 115), (Char.ofNat 107), (Char.ofNat 70), (Char.ofNat 108), (Char.ofNat 117), (Char.ofNat 115), (Char.ofNat 104), (Char.ofNat 101), (Char.ofNat 100), (Char.ofNat 32), (Char.ofNat 99), (Char.ofNat 97), (Char.ofNat 108), (Char.ofNat 108), (Char.ofNat 98), (Char.ofNat 111), (Char.ofNat 97), (Char.ofNat 114), (Char.ofNat 100), (Char.ofNat 47), (Char.ofNat 99), (Char.ofNat 97), (Char.ofNat 108), (Char.ofNat 108), (Char.ofNat 98), (Char.ofNat 111), (Char.ofNat 97), (Char.ofNat 114), (Char.ofNat 100), (Char.ofNat 108), (Char.ofNat 97), (Char.ofNat 119), (Char.ofNat 48), (Char.ofNat 51), (Char.ofNat 46), (Char.ofNat 68), (Char.ofNat 105), (Char.ofNat 115), (Char.ofNat 107), (Char.ofNat 80), (Char.ofNat 108), (Char.ofNat 97), (Char.ofNat 121), (Char.ofNat 115), (Char.ofNat 32), (Char.ofNat 99), (Char.ofNat 97), (Char.ofNat 108), (Char.ofNat 108), (Char.ofNat 98), (Char.ofNat 111), (Char.ofNat 97), (Char.ofNat 114), (Char.ofNat 100), (Char.ofNat 47), (Char.ofNat 99), (Char.ofNat 97), (Char.ofNat 108), (Char.ofNat 108), (Char.ofNat 98), (Char.ofNat 111), (Char.ofNat 97), (Char.ofNat 114), (Char.ofNat 100), (Char.ofNat 108), (Char.ofNat 97), (Char.ofNat 119), (Char.ofNat 48), (Char.ofNat 51), (Char.ofNat 46), (Char.ofNat 68), (Char.ofNat 105), (Char.ofNat 115), (Char.ofNat 107), (Char.ofNat 68), (Char.ofNat 101), (Char.ofNat 97), (Char.ofNat 100), (Char.ofNat 32), (Char.ofNat 99), (Char.ofNat 97), (Char.ofNat 108), (Char.ofNat 108), (Char.ofNat 98), (Char.ofNat 111), (Char.ofNat 97), (Char.ofNat 114), (Char.ofNat 100), (Char.ofNat 47), (Char.ofNat 99), (Char.ofNat 97), (Char.ofNat 108), (Char.ofNat 108), (Char.ofNat 98), (Char.ofNat 111), (Char.ofNat 97), (Char.ofNat 114), (Char.ofNat 100), (Char.ofNat 108), (Char.ofNat 97), (Char.ofNat 119), (Char.ofNat 48), (Char.ofNat 51), (Char.ofNat 46), (Char.ofNat 68), (Char.ofNat 105), (Char.ofNat 115), (Char.ofNat 107), (Char.ofNat 78), (Char.ofNat 97), (Char.ofNat 109), (Char.ofNat 101), (Char.ofNat 115), (Char.ofNat 32), (Char.ofNat 99), (Char.ofNat 97), (Char.ofNat 108), (Char.ofNat 108), (Char.ofNat 98), (Char.ofNat 111), (Char.ofNat 97), (Char.ofNat 114), (Char.ofNat 100), (Char.ofNat 47), (Char.ofNat 99), (Char.ofNat 97), (Char.ofNat 108), (Char.ofNat 108), (Char.ofNat 98), (Char.ofNat 111), (Char.ofNat 97), (Char.ofNat 114), (Char.ofNat 100), (Char.ofNat 108), (Char.ofNat 97), (Char.ofNat 119), (Char.ofNat 48), (Char.ofNat 52), (Char.ofNat 46), (Char.ofNat 80), (Char.ofNat 97), (Char.ofNat 103), (Char.ofNat 101), (Char.ofNat 66), (Char.ofNat 97), (Char.ofNat 99), (Char.ofNat 107), (Char.ofNat 32), (Char.ofNat 99), (Char.ofNat 97), (Char.ofNat 108), (Char.ofNat 108), (Char.ofNat 98), (Char.ofNat 111), (Char.ofNat 97), (Char.ofNat 114), (Char.ofNat 100), (Char.ofNat 47), (Char.ofNat 99), (Char.ofNat 97), (Char.ofNat 108), (Char.ofNat 108), (Char.ofNat 98), (Char.ofNat 111), (Char.ofNat 97), (Char.ofNat 114), (Char.ofNat 100), (Char.ofNat 108), (Char.ofNat 97), (Char.ofNat 119), (Char.ofNat 48), (Char.ofNat 52), (Char.ofNat 46), (Char.ofNat 80), (Char.ofNat 97), (Char.ofNat 103), (Char.ofNat 101), (Char.ofNat 84), (Char.ofNat 111), (Char.ofNat 114), (Char.ofNat 110), (Char.ofNat 32), (Char.ofNat 99), (Char.ofNat 97), (Char.ofNat 108), (Char.ofNat 108), (Char.ofNat 98), (Char.ofNat 111), (Char.ofNat 97), (Char.ofNat 114), (Char.ofNat 100), (Char.ofNat 47), (Char.ofNat 99), (Char.ofNat 97), (Char.ofNat 108), (Char.ofNat 108), (Char.ofNat 98), (Char.ofNat 111), (Char.ofNat 97), (Char.ofNat 114), (Char.ofNat 100), (Char.ofNat 108), (Char.ofNat 97), (Char.ofNat 119), (Char.ofNat 48), (Char.ofNat 52), (Char.ofNat 46), (Char.ofNat 80), (Char.ofNat 97), (Char.ofNat 103), (Char.ofNat 101), (Char.ofNat 77), (Char.ofNat 97), (Char.ofNat 114), (Char.ofNat 107), (Char.ofNat 101), (Char.ofNat 100), (Char.ofNat 32), (Char.ofNat 99), (Char.ofNat 97), (Char.ofNat 108), (Char.ofNat 108), (Char.ofNat 98), (Char.ofNat 111), (Char.ofNat 97), (Char.ofNat 114), (Char.ofNat 100), (Char.ofNat 47), (Char.ofNat 99), (Char.ofNat 97), (Char.ofNat 108), (Char.ofNat 108), (Char.ofNat 98), (Char.ofNat 111), (Char.ofNat 97), (Char.ofNat 114), (Char.ofNat 100), (Char.ofNat 108), (Char.ofNat 97), (Char.ofNat 119), (Char.ofNat 48), (Char.ofNat 52), (Char.ofNat 46), (Char.ofNat 80), (Char.ofNat 97), (Char.ofNat 103), (Char.ofNat 101), (Char.ofNat 80), (Char.ofNat 108), (Char.ofNat 97), (Char.ofNat 121), (Char.ofNat 115)]
set_option maxRecDepth 100000 in
theorem ioE : Try.prog.initOrder = String.ofList ioL := by kernel_rfl
theorem ioT : Try.prog.initOrder.toList = ioL := by rw [ioE]; exact String.toList_ofList
def restL : List (List Char) := (wordsSigns ioL).drop 3
theorem hb : behindMainWord (wordsSigns Try.prog.initOrder.toList) = [(Char.ofNat 99), (Char.ofNat 117), (Char.ofNat 116)] :: restL := by rw [ioT]; kernel_rfl
theorem a1 : Try.prog.laysLater = false := by kernel_rfl
theorem a2 : Try.prog.bearsReflect = false := by kernel_rfl
theorem a3 : stripLifts liftWords ([(Char.ofNat 99), (Char.ofNat 117), (Char.ofNat 116)] :: restL) = ([], [(Char.ofNat 99), (Char.ofNat 117), (Char.ofNat 116)] :: restL) := by kernel_rfl
theorem a5 : Try.prog.doorFits [] = true := by kernel_rfl
theorem own : ownKnob Try.prog.godebug = none := by kernel_rfl
theorem laidOut : laidOutB Try.prog = true := by kernel_rfl
end Go.Proofs.Ytjmdfmafnenjnaa.Hd

/-! Contracts of functions that are handed own objects: what they find in them, and what they leave. -/
namespace Go.Sx
open Go

/-- By plain data: the arguments over objects 0, 1, .., what these bear, what is owed, what they bear behind the call (new ones behind them), and the answer. -/
structure Spec (X : Type) where
  args : X → List AV
  heap : X → List AObj
  pre : X → List Prop
  outH : X → List AObj
  out : X → AV

def FnS (P : Program) (Z : Glob) (f : FuncId) {X : Type} (S : Spec X) : Prop :=
  ∀ x, Needs (S.pre x) → ∀ (ρ : Nat → Value) (G : Nat → Prop) (w : World) (vs : List Value), ZAt Z ρ (lk (S.heap x)) w → Sat ρ (lk (S.heap x)) G w →
    DenL ρ (lk (S.heap x)) (Hot ρ (lk (S.heap x)) G) w (S.args x) vs →
    Calls P f vs.toArray w fun e w' => ∃ v, e = .returned v ∧ Good ρ (lk (S.heap x)) G w (lk (S.outH x)) (S.out x) v w'

/-- The run's end, seen by a Norm. -/
def EndS {X : Type} (S : Spec X) (x : X) (L : List AObj) (r : AV) : Prop :=
  ∃ N : Norm, (S.heap x).length ≤ N.m ∧ N.run ⟨[r], L, [], {}⟩ = some ⟨[S.out x], S.outH x, [], {}⟩

def RM.bind {α β : Type} : RM α → (α → RM β) → RM β
  | .ret a, k => k a
  | .look id f, k => .look id fun o => (f o).bind k
  | .fail w, _ => .fail w

def lookAll : List Nat → (List AObj → RM Res) → RM Res
  | [], k => k []
  | i :: is, k => .look i fun o => match o with
    | some o => lookAll is fun os => k (o :: os)
    | none => .fail "no object"

/-- The callee's numbers, seen by the caller. -/
def back (σ : List Nat) (base n : Nat) (j : Nat) : Option Nat := bif j.blt σ.length then σ[j]? else bif j.blt n then some (base + (j - σ.length)) else none

/-- The summary: M tells the data and the objects; that it is right is owed. -/
def sumS {X : Type} (S : Spec X) (M : List AV → RM (X × List Nat)) : Nat → List AV → RM Res := fun base args =>
  (M args).bind fun (x, σ) => bif nodupB σ then lookAll σ fun os =>
    (match allM (rnO (back σ base (S.outH x).length)) (S.outH x), rn (back σ base (S.outH x).length) 20 (S.out x) with
     | some L', some r => bif σ.length.ble L'.length then
        .ret ⟨(allM (rn (idx σ) 20) args = some (S.args x)) :: (allM (rnO (idx σ)) os = some (S.heap x)) :: S.pre x, σ.zip L', L'.drop σ.length, fun _ => r⟩ else .fail "sum: objects are gone"
     | _, _ => .fail "sum: names")
   else .fail "sum: one object twice"

section
variable {ρ ρ' : Nat → Value} {H H' : AHeap} {G O O' : Nat → Prop} {w w' : World} {P : Program} {Z : Glob} {X : Type} {S : Spec X}

theorem RM.bind_eval {α β : Type} : ∀ {m : RM α} {k : α → RM β} {q : β}, (m.bind k).eval H = some q → ∃ a, m.eval H = some a ∧ (k a).eval H = some q
  | .ret a, k, q, h => ⟨a, rfl, h⟩
  | .look id f, k, q, h => by
    simp only [RM.bind, RM.eval] at h ⊢
    exact RM.bind_eval h
  | .fail w, k, q, h => by simp [RM.bind, RM.eval] at h

theorem lookAll_eval : ∀ {is : List Nat} {k : List AObj → RM Res} {q : Res}, (lookAll is k).eval H = some q → ∃ os : List AObj, (k os).eval H = some q ∧ os.length = is.length ∧ ∀ (j id : Nat), is[j]? = some id → H id = os[j]? ∧ os[j]?.isSome = true
  | [], k, q, h => ⟨[], h, rfl, fun j id hj => by simp at hj⟩
  | i :: is, k, q, h => by
    simp only [lookAll, RM.eval] at h
    split at h
    · rename_i o ho
      obtain ⟨os, h1, h2, h3⟩ := lookAll_eval h
      refine ⟨o :: os, h1, by simp [h2], fun j id hj => ?_⟩
      cases j with
      | zero => simp only [List.getElem?_cons_zero, Option.some.injEq] at hj; subst hj; exact ⟨by simpa using ho, rfl⟩
      | succ j => simpa using h3 j id (by simpa using hj)
    · simp [RM.eval] at h

theorem fnS_of_safe {f : FuncId} {fn : Func} (hf : P.funcs[f]? = some fn) (hb : fn.body.isSome = true) (hn : ∀ x, (S.args x).length ≤ fn.ntmps)
    (h : ∀ x, Needs (S.pre x) → ∀ X : Ctx, X.H = lk (S.heap x) → ZCtx Z X → Safe P f X (EndS S x) (start fn (S.args x) (S.heap x))) : FnS P Z f S := by
  intro x hpre ρ G w vs hz hs hd
  obtain ⟨c, hb⟩ := Option.isSome_iff_exists.1 hb
  have hlenV : vs.length = (S.args x).length := by
    have : ∀ {azs : List AV} {vs : List Value}, DenL ρ (lk (S.heap x)) (Hot ρ (lk (S.heap x)) G) w azs vs → vs.length = azs.length := by
      intro azs
      induction azs with
      | nil => intro vs h; rw [DenL_nil.1 h]; rfl
      | cons a azs ih => intro vs h; obtain ⟨v, rest, rfl, _, h2⟩ := DenL_cons.1 h; simp [ih h2]
    exact this hd
  refine (calls_of_goes (R := Post ⟨ρ, lk (S.heap x), G, w, []⟩ (EndS S x)) hf hb ?_).mono ?_
  · have := (h x hpre ⟨ρ, lk (S.heap x), G, w, []⟩ rfl hz).goes rfl rfl (ρ := ρ) (a := { tmps := vs.toArray ++ Array.replicate (fn.ntmps - vs.toArray.size) undef, defers := [] }) (w := w)
    simp only [start, hb, Option.getD_some] at this
    refine this ⟨hs, ?_, fun t => ?_, rfl, Step.refl _ _ _ _, ⟨rfl, rfl, rfl, fun _ _ _ => rfl⟩, fun x hx => by cases hx⟩
    · simp [hlenV]
    · have e1 : ∀ (azs : List AV) (vs : List Value), DenL ρ (lk (S.heap x)) (Hot ρ (lk (S.heap x)) G) w azs vs → ∀ t, DenV ρ (lk (S.heap x)) (Hot ρ (lk (S.heap x)) G) w (azs.getD t (.tup [])) (vs.getD t undef) := by
        intro azs
        induction azs with
        | nil => intro vs h t; rw [DenL_nil.1 h]; simp only [List.getD, List.getElem?_nil, Option.getD_none]; exact den_undef
        | cons a azs ih =>
          intro vs h t
          obtain ⟨v, rest, rfl, h1, h2⟩ := DenL_cons.1 h
          cases t with
          | zero => simpa using h1
          | succ t => simpa using ih rest h2 t
      have h1 := e1 _ _ hd t
      simp only [List.getD_eq_getElem?_getD, List.getElem?_append, List.getElem?_replicate, Array.getD_eq_getD_getElem?, Array.getElem?_append, List.getElem?_toArray, Array.getElem?_replicate, List.size_toArray] at h1 ⊢
      rw [hlenV]
      split
      · rename_i ht
        have hv : vs[t]? = some vs[t] := List.getElem?_eq_getElem (by omega)
        have ha : (S.args x)[t]? = some (S.args x)[t] := List.getElem?_eq_getElem ht
        rw [hv, ha] at h1 ⊢
        exact h1
      · split
        · exact den_undef
        · unfold DenV; trivial
  · rintro e w' ⟨v, rfl, L, r, ⟨N, hm, hN⟩, ρ1, g1, g2, g3, g4⟩
    refine ⟨v, rfl, ?_⟩
    have r0 : Rep ⟨ρ, lk (S.heap x), G, w, []⟩ ρ1 ⟨[r], L⟩ { tmps := #[v], defers := [] } w' := by
      refine ⟨g1, rfl, fun t => ?_, rfl, g3, g4, fun x hx => by cases hx⟩
      cases t with
      | zero => exact g2
      | succ t => simp only [List.getD, Array.getD]; simp; unfold DenV; trivial
    have h0 : ∀ id, N.m ≤ id → (⟨ρ, lk (S.heap x), G, w, []⟩ : Ctx).H id = none := fun id hid => by simp [lk]; omega
    unfold Norm.run at hN
    split at hN
    · rename_i t1 L1 h1
      simp only [] at hN
      split at hN
      · rename_i t2 L2 h2
        simp only [Option.some.injEq, Cfg.mk.injEq, and_true] at hN
        obtain ⟨rfl, rfl⟩ := hN
        obtain ⟨ρ1, r1⟩ := Rep.compact h0 h1 (Rep.keepOnly N.keep r0)
        obtain ⟨ρ2, r2⟩ := Rep.nilSlots N.nils r1
        obtain ⟨ρ3, r3⟩ := Rep.nilCells N.cells r2
        obtain ⟨ρ4, r4⟩ := Rep.compact h0 h2 r3
        exact ⟨ρ4, r4.sat, (by have h := r4.den 0; exact h), r4.from_, r4.frm⟩
      · cases hN
    · cases hN

theorem find_zip : ∀ {σ : List Nat} {L : List AObj} {j : Nat}, σ.Nodup → σ.length ≤ L.length →
    (∀ (i : Nat), σ[i]? = some j → findUp (σ.zip L) j = L[i]?) ∧ (j ∉ σ → findUp (σ.zip L) j = none)
  | [], L, j, hn, hl => ⟨fun i h => by simp at h, fun _ => rfl⟩
  | x :: xs, [], j, hn, hl => by simp at hl
  | x :: xs, l :: ls, j, hn, hl => by
    obtain ⟨h1, h2⟩ := find_zip (σ := xs) (L := ls) (j := j) (List.nodup_cons.1 hn).2 (by simpa using hl)
    constructor
    · intro i hi
      simp only [List.zip_cons_cons, findUp]
      cases i with
      | zero =>
        simp only [List.getElem?_cons_zero, Option.some.injEq] at hi
        subst hi
        rw [h2 (List.nodup_cons.1 hn).1]
        simp
      | succ i =>
        simp only [List.getElem?_cons_succ] at hi ⊢
        rw [h1 i hi]
        have hlt : i < xs.length := (List.getElem?_eq_some_iff.1 hi).1
        simp only [List.length_cons] at hl
        rw [List.getElem?_eq_getElem (show i < ls.length by omega)]
    · intro hj
      simp only [List.mem_cons, not_or] at hj
      simp only [List.zip_cons_cons, findUp]
      rw [h2 hj.2]
      simp [hj.1]

theorem FnS.sum {f : FuncId} (h : FnS P Z f S) (M : List AV → RM (X × List Nat)) : SOk1 P Z f (sumS S M) := by
  intro base args H q hq hn ρ G w vs hfresh hz hs hd
  unfold sumS at hq
  obtain ⟨⟨x, σ⟩, _, hq⟩ := RM.bind_eval hq
  simp only [Bool.cond_eq_ite] at hq
  split at hq
  · rename_i hnd
    have hnd := nodupB_spec hnd
    obtain ⟨os, hq, hlen, hos⟩ := lookAll_eval hq
    split at hq
    · rename_i L' r hL' hr
      split at hq
      · rename_i hle
        have hle := Nat.le_of_ble_eq_true hle
        simp only [RM.eval, Option.some.injEq] at hq
        subst hq
        obtain ⟨hargs, hheap, hpre⟩ := hn
        simp only [] at hfresh ⊢
        -- the view
        have hin : ∀ {j : Nat} {o' : AObj}, (S.heap x)[j]? = some o' → ∃ (id : Nat) (o : AObj), σ[j]? = some id ∧ H id = some o ∧ rnO (idx σ) o = some o' := by
          intro j o' ho'
          have hl := allM_length hheap
          have hj : j < os.length := by rw [← hl]; exact (List.getElem?_eq_some_iff.1 ho').1
          obtain ⟨b, g1, g2⟩ := allM_get hheap j os[j] (List.getElem?_eq_getElem hj)
          rw [ho'] at g2
          cases g2
          have hj2 : j < σ.length := by omega
          have := (hos j σ[j] (List.getElem?_eq_getElem hj2)).1
          exact ⟨σ[j], os[j], List.getElem?_eq_getElem hj2, by rw [this, List.getElem?_eq_getElem hj], g1⟩
        have hout : ∀ {j id : Nat}, σ[j]? = some id → ∃ o o', H id = some o ∧ rnO (idx σ) o = some o' ∧ (S.heap x)[j]? = some o' := by
          intro j id hj
          obtain ⟨g1, g2⟩ := hos j id hj
          obtain ⟨o, ho⟩ := Option.isSome_iff_exists.1 g2
          obtain ⟨b, g3, g4⟩ := allM_get hheap j o ho
          exact ⟨o, b, g1.trans ho, g3, g4⟩
        have hpull : ∀ {j id : Nat}, σ[j]? = some id → pull σ ρ j = ρ id := fun h1 => by simp [pull, List.getD, h1]
        have hown : ∀ {b : Nat}, Own (pull σ ρ) (lk (S.heap x)) b → ∃ (j id : Nat) (o : AObj), σ[j]? = some id ∧ H id = some o ∧ o.alive = true ∧ blk (ρ id) = some b := by
          rintro b ⟨j, o', ho', ha, hb⟩
          obtain ⟨id, o, h1, h2, h3⟩ := hin ho'
          rw [hpull h1] at hb
          exact ⟨j, id, o, h1, h2, by rw [← (rnO_alive h3).1]; exact ha, hb⟩
        let G' : Nat → Prop := fun b => Hot ρ H G b ∧ ¬ Own (pull σ ρ) (lk (S.heap x)) b
        have E : Emb (idx σ) ρ H (Hot ρ H G) (pull σ ρ) (lk (S.heap x)) (Hot (pull σ ρ) (lk (S.heap x)) G') := by
          refine ⟨fun i j hij => ?_, fun b hb => ?_⟩
          · have h1 := idx_spec hij
            refine ⟨hpull h1, fun o ho => ?_⟩
            obtain ⟨o1, o', h2, h3, h4⟩ := hout h1
            rw [ho] at h2
            cases h2
            exact ⟨o', h4, (rnO_alive h3).2⟩
          · rcases hb with hb | hb
            · obtain ⟨j, id, o, h1, h2, h3, h4⟩ := hown hb
              exact .inl ⟨id, o, h2, h3, h4⟩
            · exact hb.1
        have hsat : Sat (pull σ ρ) (lk (S.heap x)) G' w := by
          refine ⟨fun j o' ho' => ?_, fun i j oi oj b hi hj ai aj bi bj => ?_, fun b hb hG => hG.2 hb, fun b hb => hot_lt hs hb.1⟩
          · obtain ⟨id, o, h1, h2, h3⟩ := hin ho'
            rw [hpull h1]
            exact rnO_sat E h3 (hs.obj id o h2)
          · obtain ⟨id, o, h1, h2, h3⟩ := hin hi
            obtain ⟨id', o', h1', h2', h3'⟩ := hin hj
            rw [hpull h1] at bi
            rw [hpull h1'] at bj
            have := hs.inj id id' o o' b h2 h2' (by rw [← (rnO_alive h3).1]; exact ai) (by rw [← (rnO_alive h3').1]; exact aj) bi bj
            subst this
            obtain ⟨hi1, hi2⟩ := List.getElem?_eq_some_iff.1 h1
            obtain ⟨hj1, hj2⟩ := List.getElem?_eq_some_iff.1 h1'
            exact (List.getElem_inj hnd).1 (hi2.trans hj2.symm)
        have hz' : ZAt Z (pull σ ρ) (lk (S.heap x)) w := ⟨hz.1, fun b hb ho => by
          obtain ⟨j, id, o, h1, h2, h3, h4⟩ := hown ho
          exact hz.2 b hb ⟨id, o, h2, h3, h4⟩⟩
        have hd' := rnL_den E hargs hd
        refine (h x hpre (pull σ ρ) G' w vs hz' hsat hd').mono ?_
        rintro e w' ⟨v, he, ρ1, g1, g2, g3, g4⟩
        refine ⟨v, he, ?_⟩
        -- back again
        have hlenL := allM_length hL'
        generalize hn0 : (S.outH x).length = n0 at *
        have hnew : ∀ {j : Nat}, σ.length ≤ j → j < n0 → H (base + (j - σ.length)) = none := by
          intro j h1 h2
          exact hfresh (j - σ.length) (by simp; omega)
        have hnin : ∀ {id : Nat} {o : AObj}, H id = some o → ¬ (base ≤ id ∧ id < base + (L'.length - σ.length)) := by
          intro id o ho hc
          have := hnew (j := σ.length + (id - base)) (by omega) (by omega)
          rw [show base + (σ.length + (id - base) - σ.length) = id from by omega, ho] at this
          cases this
        let ρ2 : Nat → Value := fun id => if base ≤ id ∧ id < base + (L'.length - σ.length) then ρ1 (σ.length + (id - base)) else ρ id
        let H2 := resH H (σ.zip L') base (L'.drop σ.length)
        have hL1 : ∀ {j : Nat} {o2 : AObj}, L'[j]? = some o2 → ∃ o, (S.outH x)[j]? = some o ∧ rnO (back σ base n0) o = some o2 := by
          intro j o2 h1
          have hj : j < (S.outH x).length := by have := (List.getElem?_eq_some_iff.1 h1).1; omega
          obtain ⟨b, h2, h3⟩ := allM_get hL' j (S.outH x)[j] (List.getElem?_eq_getElem hj)
          rw [h1] at h3
          cases h3
          exact ⟨_, List.getElem?_eq_getElem hj, h2⟩
        have hρσ : ∀ {j id : Nat}, σ[j]? = some id → ρ2 id = ρ id ∧ ρ1 j = ρ id := by
          intro j id hj
          obtain ⟨o, o', h1, h2, h3⟩ := hout hj
          refine ⟨?_, ?_⟩
          · simp only [ρ2]; rw [if_neg (hnin h1)]
          · rw [g3.rho j o' h3, hpull hj]
        have hH2a : ∀ {j id : Nat}, σ[j]? = some id → H2 id = L'[j]? := by
          intro j id hj
          have hlt : j < σ.length := (List.getElem?_eq_some_iff.1 hj).1
          have := (find_zip (σ := σ) (L := L') (j := id) hnd hle).1 j hj
          simp only [H2, resH, this]
          rw [List.getElem?_eq_getElem (show j < L'.length by omega)]
        have hni : ∀ {id : Nat}, (base ≤ id ∧ id < base + (L'.length - σ.length)) → id ∉ σ := by
          intro id hc hm
          obtain ⟨i, hi⟩ := List.getElem?_of_mem hm
          obtain ⟨o, _, h3, _⟩ := hout hi
          exact hnin h3 hc
        have hH2b : ∀ {id : Nat}, (base ≤ id ∧ id < base + (L'.length - σ.length)) → H2 id = L'[σ.length + (id - base)]? := by
          intro id hc
          simp only [H2, resH, (find_zip (σ := σ) (L := L') hnd hle).2 (hni hc)]
          rw [if_pos (by simp only [List.length_drop]; exact hc)]
          simp only [List.getElem?_drop]
        have hH2c : ∀ {id : Nat}, id ∉ σ → ¬ (base ≤ id ∧ id < base + (L'.length - σ.length)) → H2 id = H id := by
          intro id h1 h2
          simp only [H2, resH, (find_zip (σ := σ) (L := L') hnd hle).2 h1]
          rw [if_neg (by simp only [List.length_drop]; exact h2)]
        have cls : ∀ {id : Nat} {o2 : AObj}, H2 id = some o2 → (∃ (j : Nat) (o : AObj), (S.outH x)[j]? = some o ∧ rnO (back σ base n0) o = some o2 ∧ ρ2 id = ρ1 j ∧ back σ base n0 j = some id) ∨ (id ∉ σ ∧ H id = some o2 ∧ ρ2 id = ρ id) := by
          intro id o2 ho
          by_cases hm : id ∈ σ
          · obtain ⟨j, hj⟩ := List.getElem?_of_mem hm
            rw [hH2a hj] at ho
            obtain ⟨o, h1, h2⟩ := hL1 ho
            obtain ⟨h3, h4⟩ := hρσ hj
            exact .inl ⟨j, o, h1, h2, by rw [h3, h4], by simp only [back, blt_t (List.getElem?_eq_some_iff.1 hj).1, cond_true]; exact hj⟩
          · by_cases hc : base ≤ id ∧ id < base + (L'.length - σ.length)
            · rw [hH2b hc] at ho
              obtain ⟨o, h1, h2⟩ := hL1 ho
              refine .inl ⟨_, o, h1, h2, by simp only [ρ2]; rw [if_pos hc], ?_⟩
              simp only [back, blt_f (show σ.length ≤ σ.length + (id - base) by omega), cond_false, blt_t (show σ.length + (id - base) < n0 by omega), cond_true]
              congr 1; omega
            · rw [hH2c hm hc] at ho
              exact .inr ⟨hm, ho, by simp only [ρ2]; rw [if_neg hc]⟩
        have view_not : ∀ {id b : Nat} {o : AObj}, id ∉ σ → H id = some o → o.alive = true → blk (ρ id) = some b → ¬ Own (pull σ ρ) (lk (S.heap x)) b := by
          intro id b o hm ho ha hb hv
          obtain ⟨j, id', o', h1, h2, h3, h4⟩ := hown hv
          have := hs.inj id id' o o' b ho h2 ha h3 hb h4
          subst this
          exact hm (List.mem_of_getElem? h1)
        have g_in : ∀ {b : Nat}, G b → G' b := fun {b} hb => ⟨.inr hb, fun hv => by
          obtain ⟨j, id', o', h1, h2, h3, h4⟩ := hown hv
          exact hs.apart b ⟨id', o', h2, h3, h4⟩ hb⟩
        have own2 : ∀ {b : Nat}, Own ρ2 H2 b → Own ρ1 (lk (S.outH x)) b ∨ (Own ρ H b ∧ G' b) := by
          rintro b ⟨id, o2, ho, ha, hb⟩
          rcases cls ho with ⟨j, o, h1, h2, h3, _⟩ | ⟨h1, h2, h3⟩
          · exact .inl ⟨j, o, h1, by rw [← (rnO_alive h2).1]; exact ha, by rw [← h3]; exact hb⟩
          · rw [h3] at hb
            exact .inr ⟨⟨id, o2, h2, ha, hb⟩, .inl ⟨id, o2, h2, ha, hb⟩, view_not h1 h2 ha hb⟩
        have E2 : Emb (back σ base n0) ρ1 (lk (S.outH x)) (Hot ρ1 (lk (S.outH x)) G') ρ2 H2 (Hot ρ2 H2 G) := by
          refine ⟨fun i j hij => ?_, fun b hb => ?_⟩
          · simp only [back, Bool.cond_eq_ite] at hij
            split at hij
            · rename_i hlt
              obtain ⟨h3, h4⟩ := hρσ hij
              refine ⟨by rw [h3, h4], fun o ho => ?_⟩
              obtain ⟨b, h5, h6⟩ := allM_get hL' i o ho
              exact ⟨b, by rw [hH2a hij]; exact h6, (rnO_alive h5).2⟩
            · rename_i hge
              split at hij
              · rename_i hlt
                have hlt : i < n0 := Nat.le_of_ble_eq_true hlt
                have hge : σ.length ≤ i := by
                  rcases Nat.lt_or_ge i σ.length with h5 | h5
                  · exact absurd (blt_t h5) hge
                  · exact h5
                simp only [Option.some.injEq] at hij
                have hc : base ≤ j ∧ j < base + (L'.length - σ.length) := by omega
                have hi : σ.length + (j - base) = i := by omega
                refine ⟨by simp only [ρ2]; rw [if_pos hc, hi], fun o ho => ?_⟩
                obtain ⟨b, h5, h6⟩ := allM_get hL' i o ho
                exact ⟨b, by rw [hH2b hc, hi]; exact h6, (rnO_alive h5).2⟩
              · cases hij
          · rcases hb with hb | hb
            · exact (own2 hb).imp (fun h => h) (fun h => h.2)
            · exact .inr (g_in hb)
        have st : Step ρ H (Hot ρ H G) w ρ2 H2 (Hot ρ2 H2 G) w' := by
          refine ⟨fun id o ho => by simp only [ρ2]; rw [if_neg (hnin ho)], fun id o ho => ?_, fun b hb => ?_, fun b hb hO => g3.heap b hb (fun hv => hO (E.hot b hv)), g3.size⟩
          · by_cases hm : id ∈ σ
            · obtain ⟨j, hj⟩ := List.getElem?_of_mem hm
              obtain ⟨o1, o', h1, h2, h3⟩ := hout hj
              rw [ho] at h1
              cases h1
              obtain ⟨o'', h4, h5⟩ := g3.keep j o' h3
              obtain ⟨o3, h6, h7⟩ := allM_get hL' j o'' h4
              refine ⟨o3, by rw [hH2a hj]; exact h7, fun c' e' hc => ?_⟩
              obtain ⟨c, e1, h8, h9, h10⟩ := h5 c' e' ((rnO_alive h6).2 c' e' hc)
              exact ⟨c, e1, (rnO_alive h2).2 c e1 h8, h9, h10⟩
            · exact ⟨o, by rw [hH2c hm (hnin ho)]; exact ho, fun c' e' hc => ⟨c', e', hc, rfl, rfl⟩⟩
          · rcases g3.hot b (E2.hot b hb) with h5 | h5
            · exact .inl (E.hot b h5)
            · exact .inr h5
        refine ⟨ρ2, ⟨fun id o2 ho => ?_, fun i j oi oj b hi hj ai aj bi bj => ?_, fun b hb hG => ?_, fun b hb => Nat.lt_of_lt_of_le (hs.low b hb) g3.size⟩, (rn_den E2 20).1 _ _ _ hr g2, st, ⟨g4.os, g4.tape, g4.output, fun b hb hO => g4.heap b hb (fun hv => ?_)⟩⟩
        · rcases cls ho with ⟨j, o, h1, h2, h3, _⟩ | ⟨h1, h2, h3⟩
          · rw [h3]
            exact rnO_sat E2 h2 (g1.obj j o h1)
          · rw [h3]
            refine (hs.obj id o2 h2).step st (fun b ha hb => ?_)
            exact g4.heap b (own_lt hs ⟨id, o2, h2, ha, hb⟩) (view_not h1 h2 ha hb)
        · have mixed : ∀ {b : Nat}, Own ρ1 (lk (S.outH x)) b → ∀ {id : Nat} {o : AObj}, id ∉ σ → H id = some o → o.alive = true → blk (ρ id) = some b → False := by
            intro b h1 id o h2 h3 h4 h5
            have hG : G' b := ⟨.inl ⟨id, o, h3, h4, h5⟩, view_not h2 h3 h4 h5⟩
            exact g1.apart b h1 hG
          rcases cls hi with ⟨j1, o1, p1, p2, p3, p4⟩ | ⟨p1, p2, p3⟩
          · rw [p3] at bi
            have a1 : o1.alive = true := by rw [← (rnO_alive p2).1]; exact ai
            rcases cls hj with ⟨j2, o2, q1, q2, q3, q4⟩ | ⟨q1, q2, q3⟩
            · rw [q3] at bj
              have := g1.inj j1 j2 o1 o2 b p1 q1 a1 (by rw [← (rnO_alive q2).1]; exact aj) bi bj
              subst this
              rw [p4] at q4
              exact Option.some.inj q4
            · rw [q3] at bj
              exact (mixed ⟨j1, o1, p1, a1, bi⟩ q1 q2 aj bj).elim
          · rw [p3] at bi
            rcases cls hj with ⟨j2, o2, q1, q2, q3, q4⟩ | ⟨q1, q2, q3⟩
            · rw [q3] at bj
              exact (mixed ⟨j2, o2, q1, by rw [← (rnO_alive q2).1]; exact aj, bj⟩ p1 p2 ai bi).elim
            · rw [q3] at bj
              exact hs.inj i j oi oj b p2 q2 ai aj bi bj
        · rcases own2 hb with h5 | h5
          · exact g1.apart b h5 (g_in hG)
          · exact hs.apart b h5.1 hG
        · obtain ⟨j, id, o, h1, h2, h3, h4⟩ := hown hv
          exact hO ⟨id, o, h2, h3, h4⟩
      · simp [RM.eval] at hq
    · simp [RM.eval] at hq
  · simp [RM.eval] at hq
end
end Go.Sx

/-! What all texts share: ends, orders of texts, bytes. -/
namespace Lf
open Go Go.Sx

section
variable {L : List AObj}
theorem ends_b {b : Bool} : Ends [.b .bool] (b, ()) L (.s (.bool b)) := rfl
theorem ends_bl {b : Bool} : Ends [.b .bool] (b, ()) L (.s (.blit b)) := rfl
theorem ends_i {n : Int} : Ends [.b (.int .i64)] (n, ()) L (.s (.int .i64 n)) := rfl
theorem ends_il {n : Int} : Ends [.b (.int .i64)] (n, ()) L (.s (.ilit .i64 n)) := rfl
theorem ends_s {s : ByteArray} : Ends [.b .str] (s, ()) L (.s (.str s)) := rfl
theorem ends_si {s : ByteArray} {n : Int} : Ends [.b .str, .b (.int .i64)] (s, n, ()) L (.tup [.s (.str s), .s (.ilit .i64 n)]) := rfl
theorem ends_is {b : Bool} {b' : Bool} (h : b = b') : Ends [.b .bool] (b, ()) L (.s (.bool b')) := by subst h; rfl
theorem ends_isl {b : Bool} {b' : Bool} (h : b = b') : Ends [.b .bool] (b, ()) L (.s (.blit b')) := by subst h; rfl
theorem ends_ii {b b' : Int} (h : b = b') : Ends [.b (.int .i64)] (b, ()) L (.s (.int .i64 b')) := by subst h; rfl
theorem ends_iil {b b' : Int} (h : b = b') : Ends [.b (.int .i64)] (b, ()) L (.s (.ilit .i64 b')) := by subst h; rfl
end

theorem all_no {p : Nat → Bool} {n i : Nat} (hi : i < n) (h : p i = false) : (List.range n).all p = false := by
  rw [List.all_eq_false]
  exact ⟨i, List.mem_range.2 hi, by simp [h]⟩
theorem all_yes {p : Nat → Bool} {n : Nat} (h : ∀ i, i < n → p i = true) : (List.range n).all p = true := by
  rw [List.all_eq_true]
  exact fun i hi => h i (List.mem_range.1 hi)
theorem all_range {p : Nat → Bool} {n : Nat} : (List.range n).all p = true ↔ ∀ i, i < n → p i = true := by
  simp [List.all_eq_true]
theorem any_range {p : Nat → Bool} {n : Nat} : (List.range n).any p = true ↔ ∃ i, i < n ∧ p i = true := by
  simp [List.any_eq_true]
theorem any_yes {p : Nat → Bool} {n i : Nat} (hi : i < n) (h : p i = true) : (List.range n).any p = true := any_range.2 ⟨i, hi, h⟩
theorem any_no {p : Nat → Bool} {n : Nat} (h : ∀ i, i < n → p i = false) : (List.range n).any p = false := by
  rw [List.any_eq_false]
  exact fun i hi => by simp [h i (List.mem_range.1 hi)]

theorem getD_lt {α : Type} {l : List α} {i : Nat} {d : α} (h : i < l.length) : l.getD i d = l[i] := by simp [List.getD, h]

/-! ### the order of texts -/
theorem ba_ext {a b : ByteArray} (h : a.data.toList = b.data.toList) : a = b := by
  cases a; cases b
  simp only [ByteArray.mk.injEq]
  exact Array.toList_inj.1 h

theorem less_irrefl : ∀ (x : List UInt8), Op.bytesLess x x = false
  | [] => rfl
  | a :: x => by simp [Op.bytesLess, less_irrefl x]

theorem less_trans : ∀ {x y z : List UInt8}, Op.bytesLess x y = true → Op.bytesLess y z = true → Op.bytesLess x z = true
  | _, [], _, h, _ => by simp [Op.bytesLess] at h
  | _, _ :: _, [], _, h => by simp [Op.bytesLess] at h
  | [], b :: y, c :: z, _, _ => rfl
  | a :: x, b :: y, c :: z, h1, h2 => by
    simp only [Op.bytesLess, Bool.or_eq_true, decide_eq_true_eq, Bool.and_eq_true, beq_iff_eq] at *
    rcases h1 with h1 | ⟨rfl, h1⟩
    · rcases h2 with h2 | ⟨rfl, h2⟩
      · exact .inl (UInt8.lt_trans h1 h2)
      · exact .inl h1
    · rcases h2 with h2 | ⟨rfl, h2⟩
      · exact .inl h2
      · exact .inr ⟨rfl, less_trans h1 h2⟩

theorem less_total : ∀ (x y : List UInt8), Op.bytesLess x y = true ∨ x = y ∨ Op.bytesLess y x = true
  | [], [] => .inr (.inl rfl)
  | [], _ :: _ => .inl rfl
  | _ :: _, [] => .inr (.inr rfl)
  | a :: x, b :: y => by
    simp only [Op.bytesLess, Bool.or_eq_true, decide_eq_true_eq, Bool.and_eq_true, beq_iff_eq, List.cons.injEq]
    rcases UInt8.lt_or_lt_of_ne (a := a) (b := b) |> fun h => (Decidable.em (a = b)).imp id h with rfl | h | h
    · rcases less_total x y with h | rfl | h
      · exact .inl (.inr ⟨rfl, h⟩)
      · exact .inr (.inl ⟨rfl, rfl⟩)
      · exact .inr (.inr (.inr ⟨rfl, h⟩))
    · exact .inl (.inl h)
    · exact .inr (.inr (.inl h))

theorem compare_less : ∀ (x y : List UInt8), (Lib.compareBytes x y < 0 ↔ Op.bytesLess x y = true) ∧ (Lib.compareBytes x y = 0 ↔ x = y) ∧ (-1 ≤ Lib.compareBytes x y ∧ Lib.compareBytes x y ≤ 1)
  | [], [] => by simp [Lib.compareBytes, Op.bytesLess]
  | [], _ :: _ => by simp [Lib.compareBytes, Op.bytesLess]
  | _ :: _, [] => by simp [Lib.compareBytes, Op.bytesLess]
  | a :: x, b :: y => by
    obtain ⟨h1, h2, h3⟩ := compare_less x y
    simp only [Lib.compareBytes, Op.bytesLess, List.cons.injEq]
    by_cases h : a < b
    · rw [if_pos h]
      have : a ≠ b := fun e => by subst e; exact absurd h (UInt8.lt_irrefl a)
      simp [h, this]
    · rw [if_neg h]
      by_cases h' : b < a
      · rw [if_pos h']
        have : a ≠ b := fun e => by subst e; exact absurd h' (UInt8.lt_irrefl a)
        simp [h, this]
      · rw [if_neg h']
        have : a = b := UInt8.toNat_inj.1 (by rw [UInt8.lt_iff_toNat_lt] at h h'; omega)
        subst this
        simp [h, h1, h2, h3]

def cmpS (a b : ByteArray) : Int := Lib.compareBytes a.data.toList b.data.toList
theorem cmpS_lt (a b : ByteArray) : cmpS a b < 0 ↔ slt a b = true := (compare_less _ _).1
theorem cmpS_eq (a b : ByteArray) : cmpS a b = 0 ↔ a = b := by
  rw [show a = b ↔ a.data.toList = b.data.toList from ⟨fun h => by rw [h], ba_ext⟩]
  exact (compare_less _ _).2.1
theorem cmpS_range (a b : ByteArray) : -1 ≤ cmpS a b ∧ cmpS a b ≤ 1 := (compare_less _ _).2.2

theorem slt_irrefl (a : ByteArray) : slt a a = false := less_irrefl _
theorem slt_trans {a b c : ByteArray} (h1 : slt a b = true) (h2 : slt b c = true) : slt a c = true := less_trans h1 h2
theorem slt_total (a b : ByteArray) : slt a b = true ∨ a = b ∨ slt b a = true := by
  rcases less_total a.data.toList b.data.toList with h | h | h
  · exact .inl h
  · exact .inr (.inl (ba_ext h))
  · exact .inr (.inr h)
theorem slt_asymm {a b : ByteArray} (h : slt a b = true) : slt b a = false := by
  cases h2 : slt b a
  · rfl
  · have := slt_trans h h2
    rw [slt_irrefl] at this
    cases this
theorem slt_ne {a b : ByteArray} (h : slt a b = true) : a ≠ b := fun e => by subst e; rw [slt_irrefl] at h; cases h
theorem slt_of_not {a b : ByteArray} (h : slt a b = false) (h2 : a ≠ b) : slt b a = true := by
  rcases slt_total a b with h3 | h3 | h3
  · rw [h] at h3; cases h3
  · exact absurd h3 h2
  · exact h3
theorem slt_empty (a : ByteArray) : slt a ByteArray.empty = false := by
  unfold slt
  cases h : a.data.toList <;> rfl
theorem slt_of_slt_not {a b c : ByteArray} (h1 : slt a b = true) (h2 : slt c b = false) : slt a c = true := by
  rcases slt_total b c with h3 | rfl | h3
  · exact slt_trans h1 h3
  · exact h1
  · rw [h2] at h3; cases h3

theorem size_zero {a : ByteArray} (h : a.size = 0) : a = ByteArray.empty := by
  apply ba_ext
  have : a.data.toList.length = 0 := by rw [Array.length_toList]; exact h
  rw [List.eq_nil_of_length_eq_zero this]
  rfl
theorem empty_lit : ({ data := #[] } : ByteArray) = ByteArray.empty := rfl
end Lf

/-! Ranges over maps: how one begins, and how it goes on. -/
namespace Go.Sx
open Go

section
variable {ρ ρ' : Nat → Value} {H H' H1 H2 : AHeap} {G O O' : Nat → Prop} {w w' w1 w2 : World} {P : Program} {X : Ctx} {K : List AObj → AV → Prop}

def isMapT (P : Program) (t : TypeId) : Bool := match P.underlying t with
  | some (.map _ _) => true
  | _ => false

theorem Frm.seq (f1 : Frm ρ H w w1) {ρ1 : Nat → Value} (t1 : Step ρ H (Hot ρ H G) w ρ1 H1 (Hot ρ1 H1 G) w1) (s1 : Sat ρ1 H1 G w1) (f2 : Frm ρ1 H1 w1 w2) : Frm ρ H w w2 := by
  refine ⟨f2.os.trans f1.os, f2.tape.trans f1.tape, f2.output.trans f1.output, fun b hb hO => ?_⟩
  have hno : ¬ Own ρ1 H1 b := fun ho => by
    rcases t1.hot b (.inl ho) with hh | hh
    · exact hh.elim hO (s1.apart b ho)
    · omega
  rw [f2.heap b (by have := t1.size; omega) hno, f1.heap b hb hO]

/-- A value that is kept in mind. -/
theorem Good.ghost (hs : Sat ρ H G w) {n : Nat} (hn : H n = none) (g : Value) : ∃ ρ', ρ' n = g ∧ Sat ρ' (updH H n .dead) G w ∧ Step ρ H (Hot ρ H G) w ρ' (updH H n .dead) (Hot ρ' (updH H n .dead) G) w ∧ Frm ρ H w w := by
  have ne : ∀ j x, H j = some x → j ≠ n := fun j x hx e => by subst e; rw [hn] at hx; cases hx
  have own' : ∀ b, Own (fun j => if j = n then g else ρ j) (updH H n .dead) b → Own ρ H b := by
    rintro b ⟨j, x, hx, h1, h2⟩
    by_cases hj : j = n
    · subst hj
      simp only [updH, if_true, Option.some.injEq] at hx
      subst hx
      cases h1
    · simp only [updH, hj, if_false] at hx h2
      exact ⟨j, x, hx, h1, h2⟩
  have st : Step ρ H (Hot ρ H G) w (fun j => if j = n then g else ρ j) (updH H n .dead) (Hot (fun j => if j = n then g else ρ j) (updH H n .dead) G) w := by
    refine ⟨fun j x hx => by simp [ne j x hx], fun j x hx => ⟨x, by simp [updH, ne j x hx, hx], fun c' e' hc => ⟨c', e', hc, rfl, rfl⟩⟩, fun b hb => .inl (hb.imp (own' b) id), fun b hb _ => rfl, Nat.le_refl _⟩
  refine ⟨_, by simp, ⟨fun j x hx => ?_, fun i j oi oj b h1 h2 h3 h4 h5 h6 => ?_, fun b hb => hs.apart b (own' b hb), hs.low⟩, st, rfl, rfl, rfl, fun _ _ _ => rfl⟩
  · by_cases hj : j = n
    · subst hj
      simp only [updH, if_true, Option.some.injEq] at hx
      subst hx
      trivial
    · simp only [updH, hj, if_false] at hx
      simp only [hj, if_false]
      exact (hs.obj j x hx).step st (fun _ _ _ => rfl)
  · have f : ∀ i oi, updH H n .dead i = some oi → oi.alive = true → blk ((fun j => if j = n then g else ρ j) i) = some b → H i = some oi ∧ blk (ρ i) = some b := by
      intro i oi hi hal hb
      by_cases hi' : i = n
      · subst hi'
        simp only [updH, if_true, Option.some.injEq] at hi
        subst hi
        cases hal
      · simp only [updH, hi', if_false] at hi hb
        exact ⟨hi, hb⟩
    obtain ⟨x1, x2⟩ := f i oi h1 h3 h5
    obtain ⟨y1, y2⟩ := f j oj h2 h4 h6
    exact hs.inj i j oi oj b x1 y1 h3 h4 x2 y2

/-- A range over a map begins. -/
theorem range_good (hs : Sat ρ H G w) {id base : Nat} {ck : CK} {m : List (Int × ck.V)} {t kt et : TypeId} (ht : P.underlying t = some (.map kt et)) (ho : H id = some (.map ck m)) (hb0 : H base = none) (hb1 : H (base + 1) = none)
    {v : Value} (hd : DenV ρ H (Hot ρ H G) w (.mapv id) v) : ∃ v' w', (Instr.range t v).run P w = .ok v' w' ∧
      Good ρ H G w (updH (updH (updH H base .dead) id (.mapb ck m base)) (base + 1) (.iter id base ck m none)) (.ptr (base + 1) 0) v' w' := by
  unfold DenV Den1 at hd
  obtain ⟨b, hb, rfl, _⟩ := hd
  obtain ⟨b', es, clock, h1, h2, h3⟩ := hs.obj id _ ho
  rw [hb] at h1
  cases h1
  have ne0 : id ≠ base := fun e => by subst e; rw [hb0] at ho; cases ho
  have ne1 : id ≠ base + 1 := fun e => by subst e; rw [hb1] at ho; cases ho
  have e1 : (getObj b).run P w = .ok (.map es clock) w := by simp [getObj, Sem.run, h2]
  refine ⟨.pointer (some ⟨w.heap.size, 0, none⟩), w.alloc (.mapIter (some b) clock #[] clock), ?_, ?_⟩
  · simp [Instr.range, run_underlying ht, e1]
  · obtain ⟨ρ1, g1, s1, t1, f1⟩ := Good.ghost hs hb0 (encM es clock)
    have hρ : ρ1 id = .map (some b) := by rw [t1.rho id _ ho, hb]
    have ho1 : updH H base .dead id = some (.map ck m) := by simp [updH, ne0, ho]
    have good1 : Good ρ1 (updH H base .dead) G w (updH (updH H base .dead) id (.mapb ck m base)) (.tup []) undef w :=
      Good.upd (o' := .mapb ck m base) s1 ho1 rfl (fun _ _ hc => by cases hc) ⟨b, es, clock, hρ, h2, h3, g1, by simp [updH, Ne.symm ne0]⟩ den_undef
    obtain ⟨ρ2, s2, d2, t2, f2⟩ := good1
    have hρ2 : ρ2 base = encM es clock := by rw [t2.rho base .dead (by simp [updH])]; exact g1
    have hρ3 : ρ2 id = .map (some b) := by rw [t2.rho id _ ho1]; exact hρ
    have hn2 : updH (updH H base .dead) id (.mapb ck m base) (base + 1) = none := by simp [updH, hb1, Ne.symm ne1]
    have good2 : Good ρ2 (updH (updH H base .dead) id (.mapb ck m base)) G w (updH (updH (updH H base .dead) id (.mapb ck m base)) (base + 1) (.iter id base ck m none)) (.ptr (base + 1) 0) (.pointer (some ⟨w.heap.size, 0, none⟩)) (w.alloc (.mapIter (some b) clock #[] clock)) := by
      refine Good.fresh (root := .pointer (some ⟨w.heap.size, 0, none⟩)) s2 hn2 rfl rfl rfl rfl (fun b' hb' => by simpa [blk] using hb'.symm) ?_ ?_
      · refine ⟨w.heap.size, b, es, clock, #[], rfl, alloc_get, ⟨?_, h3.fits, h3.borns, h3.old, fun p hp => by cases hp⟩, ?_, ?_, ?_, ?_⟩
        · rw [← h3.eq]
          congr 1
          exact List.filter_eq_self.2 fun e _ => by simp
        · have : base ≠ base + 1 := by omega
          simp only [this, if_false]; exact hρ2
        · simp [updH, Ne.symm ne0]
        · simp only [ne1, if_false]; exact hρ3
        · simp [updH, ne1]
      · unfold DenV Den1
        exact ⟨w.heap.size, by simp, rfl, by simp [updH]⟩
    obtain ⟨ρ3, s3, d3, t3, f3⟩ := good2
    exact ⟨ρ3, s3, d3, t1.trans (t2.trans t3), f1.seq t1 s1 (f2.seq t2 s2 f3)⟩

/-! ### the next entry -/
theorem erase_filter {L : List MapEntry} (hb : (L.map (·.born)).Nodup) {i : Nat} (hi : i < L.length) : L.filter (fun x => x.born != L[i].born) = L.eraseIdx i := by
  induction L generalizing i with
  | nil => simp at hi
  | cons x L ih =>
    simp only [List.map_cons, List.nodup_cons] at hb
    cases i with
    | zero =>
      simp only [List.getElem_cons_zero, List.eraseIdx_cons_zero]
      rw [List.filter_cons]
      simp only [bne_self_eq_false, Bool.false_eq_true, if_false]
      refine List.filter_eq_self.2 fun e he => ?_
      rw [bne_iff_ne]
      exact fun h => hb.1 (List.mem_map.2 ⟨e, he, h⟩)
    | succ i =>
      simp only [List.length_cons] at hi
      have hi' : i < L.length := by omega
      simp only [List.getElem_cons_succ, List.eraseIdx_cons_succ]
      rw [List.filter_cons, if_pos, ih hb.2 hi']
      rw [bne_iff_ne]
      exact fun h => hb.1 (List.mem_map.2 ⟨_, List.getElem_mem hi', h.symm⟩)

/-- What is left when one more was seen. -/
theorem IterIs.next {ck : CK} {left : List (Int × ck.V)} {cur : Option (Int × ck.V)} {es : Array MapEntry} {clock : Nat} {seen : Array Nat} (h : IterIs ck left cur es clock seen) {e : MapEntry} (he : e ∈ (leftOf es seen).toList) :
    ∃ i, ∃ hi : i < left.length, e.key = .int .i64 left[i].1 ∧ e.val = ck.val left[i].2 ∧ IterIs ck (left.eraseIdx i) (some left[i]) es clock (seen.push e.born) := by
  have hL : (leftOf es seen).toList = es.toList.filter fun e => !seen.contains e.born := by simp [leftOf]
  rw [hL] at he
  obtain ⟨i, hi, rfl⟩ := List.getElem_of_mem he
  generalize hF : (es.toList.filter fun e => !seen.contains e.born) = F at *
  have heq := h.eq
  rw [hF] at heq
  have hlen : F.length = left.length := by have := congrArg List.length heq; simpa only [List.length_map] using this
  have h1 := congrArg (fun l => l[i]?) heq
  have hil : i < left.length := by omega
  simp only [List.getElem?_map, List.getElem?_eq_getElem hi, List.getElem?_eq_getElem hil, Option.map_some, Option.some.injEq, Prod.mk.injEq] at h1
  have hmem : F[i] ∈ es.toList := by
    have := List.getElem_mem hi
    exact (List.mem_filter.1 (show F[i] ∈ es.toList.filter (fun e => !seen.contains e.born) from by rw [hF]; exact this)).1
  refine ⟨i, hil, h1.1, h1.2, ⟨?_, fun p hp => h.fits p (List.mem_of_mem_eraseIdx hp), h.borns, h.old, fun p hp => ?_⟩⟩
  · have e1 : (es.toList.filter fun e => !(seen.push F[i].born).contains e.born) = F.filter (fun x => x.born != F[i].born) := by
      generalize F[i].born = z
      rw [← hF, List.filter_filter]
      refine List.filter_congr fun x _ => ?_
      by_cases hz : x.born = z <;> simp [hz, bne]
    have hnd : (F.map (·.born)).Nodup := by
      rw [← hF]
      exact (List.Sublist.map _ List.filter_sublist).nodup h.borns
    rw [e1, erase_filter hnd hi, ChangeMaps.map_eraseIdx, heq, ← ChangeMaps.map_eraseIdx]
  · cases hp
    exact ⟨h.fits _ (List.getElem_mem hil), F[i], hmem, by simp, h1.1, h1.2⟩

/-- A range over a map goes on: it is over, or some entry that is left comes. -/
theorem next_good (hs : Sat ρ H G w) {id mid gid : Nat} {ck ck' : CK} {left : List (Int × ck.V)} {cur : Option (Int × ck.V)} {m : List (Int × ck'.V)} (hp : ck.plain = true) (ho : H id = some (.iter mid gid ck left cur)) (hm : H mid = some (.mapb ck' m gid))
    {v : Value} (hd : DenV ρ H (Hot ρ H G) w (.ptr id 0) v) (ty : TypeId) :
    (left = [] ∧ (Instr.next v false ty).run P w = .ok (.tuple #[.bool false]) w ∧ Good ρ H G w (updH (updH H mid (.map ck' m)) id .dead) (.tup [.s (.blit false)]) (.tuple #[.bool false]) w) ∨
    ∃ i, ∃ hi : i < left.length, ∃ v' w1, (w1 = w ∨ w1 = w.drew) ∧ ∃ w', (Instr.next v false ty).run P w = .ok v' w' ∧
      Good ρ H G w1 (updH H id (.iter mid gid ck (left.eraseIdx i) (some left[i]))) (.tup [.s (.blit true), .s (.int .i64 left[i].1), ck.av left[i].2]) v' w' := by
  unfold DenV Den1 at hd
  obtain ⟨b, hb, rfl, _⟩ := hd
  obtain ⟨mb, es, clock, seen, h1, h2, h3, h4, h5, h6, h7⟩ := iter_map hs ho hm hb
  have hne : mid ≠ id := fun e => by subst e; rw [ho] at hm; cases hm
  rcases run_next_at (P := P) w ty b mb clock clock seen es clock h1 h2 h3.old (Nat.le_refl _) with ⟨k1, k2⟩ | ⟨e, he, w1, k1, k2⟩
  · refine .inl ⟨?_, k2, ?_⟩
    · have hl : (es.toList.filter fun e => !seen.contains e.born) = [] := by
        have : (leftOf es seen).toList.length = 0 := by simpa using k1
        have := List.eq_nil_of_length_eq_zero this
        simpa [leftOf] using this
      have := congrArg List.length h3.eq
      rw [hl] at this
      exact List.eq_nil_of_length_eq_zero (by simpa using this.symm)
    · obtain ⟨ρ1, s1, d1, t1, f1⟩ : Good ρ H G w (updH H mid (.map ck' m)) (.tup [.s (.blit false)]) (.tuple #[.bool false]) w :=
        Good.upd (o' := .map ck' m) hs hm rfl (fun _ _ hc => by cases hc) ⟨mb, es, clock, h5, h2, h4⟩ (by
          unfold DenV
          exact ⟨[.bool false], rfl, DenL_cons.2 ⟨_, _, rfl, DenV_s (.blit _), DenL_nil.2 rfl⟩⟩)
      have ho1 : updH H mid (.map ck' m) id = some (.iter mid gid ck left cur) := by simp [updH, Ne.symm hne, ho]
      have st := kill_step (ρ := ρ1) (G := G) (w := w) ho1
      refine ⟨ρ1, s1.kill ho1, DenV.step st _ _ d1, t1.trans st, f1⟩
  · obtain ⟨i, hi, g1, g2, g3⟩ := h3.next he
    refine .inr ⟨i, hi, _, w1, k1, _, k2, ?_⟩
    have hs1 : Sat ρ H G w1 := by
      rcases k1 with rfl | rfl
      · exact hs
      · have st : Step ρ H (Hot ρ H G) w ρ H (Hot ρ H G) w.drew := ⟨fun _ _ _ => rfl, fun _ o ho => ⟨o, ho, fun c' e' e => ⟨c', e', e, rfl, rfl⟩⟩, fun _ h => .inl h, fun _ _ _ => rfl, Nat.le_refl _⟩
        exact ⟨fun j x hx => (hs.obj j x hx).step st (fun _ _ _ => rfl), hs.inj, hs.apart, hs.low⟩
    have hh : w1.heap = w.heap := by rcases k1 with rfl | rfl <;> rfl
    have hb1 : w1.heap[b]? = some (.mapIter (some mb) clock seen clock) := by rw [hh]; exact h1
    refine Good.write hs1 ho rfl rfl (by rw [hb]; rfl) (fun _ _ hc => by cases hc) ?_ ?_
    · exact ⟨b, mb, es, clock, _, hb, setBlk_get hb1, g3, h6, by simp only [updH]; split <;> first | rfl | exact h7, h5, by simp only [updH, hne, if_false]; rw [hm]; rfl⟩
    · rw [g1, g2]
      unfold DenV
      exact ⟨[.bool true, .int .i64 left[i].1, ck.val left[i].2], rfl, DenL_cons.2 ⟨_, _, rfl, DenV_s (.blit _), DenL_cons.2 ⟨_, _, rfl, DenV_s (.int _ _), DenL_cons.2 ⟨_, _, rfl, av_den (h3.fits _ (List.getElem_mem hi)) (plain_av hp _), DenL_nil.2 rfl⟩⟩⟩⟩

/-! ### the same of a whole run -/
theorem Rep.good {s : St} {a : Act} (h : Rep X ρ s a w) {dst : Option Tmp} {q : Res} {v : Value} (hw : w1 = w ∨ w1 = w.drew) (hg : Good ρ s.look X.G w1 (s.put dst q).look (q.r s.H.length) v w') : ∃ ρ', Rep X ρ' (s.put dst q) (a.put dst v) w' := by
  have h1 : Rep X ρ s a w1 := by
    rcases hw with rfl | rfl
    · exact h
    · exact h.drew
  obtain ⟨ρ', g1, g2, g3, g4⟩ := hg
  obtain ⟨arr, df⟩ := a
  have hp := put_den (ρ := ρ') (H := (s.put dst q).look) (O := Hot ρ' (s.put dst q).look X.G) (w := w') h1.size (fun t => DenV.step g3 _ _ (h1.den t)) dst g2 df
  exact ⟨ρ', g1, hp.1, hp.2, by have := h1.defers; cases dst <;> exact this, h1.from_.trans g3, Frm.trans h1 g4, h1.kept.frm h1.sat g4⟩

def opAt (fn : Func) (key i : Nat) : Option (Array Oper × Oper × List Item) := match hr fn key with
  | .code (.region _ ops _) :: k => (ops[i]?).map fun o => (ops, o, k)
  | _ => none

def rangeOf (x : Array Oper × Oper × List Item) : Option (TypeId × Tmp × Tmp) := match x.2.1.guard, x.2.1.op, x.2.1.dst with
  | none, .range t (.tmp y), some d => bif noDefer x.1 then some (t, y, d) else none
  | _, _, _ => none
def nextOf (x : Array Oper × Oper × List Item) : Option (Tmp × Tmp) := match x.2.1.guard, x.2.1.op, x.2.1.dst with
  | none, .next (.tmp y) false, some d => bif noDefer x.1 then some (y, d) else none
  | _, _, _ => none

theorem Yields.congr {o : Oper} {e e' : Operand → Value} {R : Value → World → Prop} (he : execOp e' o = execOp e o) (h : Yields P o e w R) : Yields P o e' w R := by
  unfold Yields at *
  rw [he]; exact h

/-- One operation, by a rule of its own. -/
theorem one_safe {f : FuncId} {fn : Func} {key i : Nat} {ops : Array Oper} {o : Oper} {k : List Item} (hat : opAt fn key i = some (ops, o, k)) (hnd : noDefer ops = true) (hg : o.guard = none) {tmps : List AV} {L : List AObj} {stk : Stk}
    (hin : (stk.plain || slotsIn (Cfg.n ⟨tmps, L, [], stk⟩) ops) = true)
    (h : ∀ G E ρ a w, Rep (X.at G E) ρ ⟨tmps, L⟩ a w → Yields P o a.eval w (fun v w' => ∃ q ρ', Rep (X.at G E) ρ' (St.put ⟨tmps, L⟩ o.dst q) (a.put o.dst v) w' ∧
      Safe P f X K ⟨(St.put ⟨tmps, L⟩ o.dst q).tmps, (St.put ⟨tmps, L⟩ o.dst q).H, cal fn key (i + 1), stk⟩)) : Safe P f X K ⟨tmps, L, cal fn key i, stk⟩ := by
  obtain ⟨ho, hc⟩ : ops[i]? = some o ∧ ∀ j, cal fn key j = .inRegion ops (List.range' j (ops.size - j)) :: k := by
    unfold opAt at hat
    split at hat
    · rename_i n ops' d k' hh
      simp only [Option.map_eq_some_iff, Prod.mk.injEq] at hat
      obtain ⟨o', e1, rfl, rfl, rfl⟩ := hat
      exact ⟨e1, fun j => by unfold cal; rw [hh]⟩
    · cases hat
  intro G E ρ a w hG1 hG2 hr b t fs hw
  obtain ⟨rest, Ds, htop0, hplain, hwf⟩ := hw.top (c := ⟨tmps, L, [], stk⟩) hr.dp.len
  have htop : TopR (Cfg.n ⟨tmps, L, [], stk⟩) rest Ds a t := by
    have e : (⟨a.tmps.toList.toArray, []⟩ : Act) = a := by
      have := hr.defers
      cases a
      simp at this ⊢
      exact this
    rw [e] at htop0
    exact htop0
  have hin' : InTop (Cfg.n ⟨tmps, L, [], stk⟩) rest ops := or_in hin hplain (fun x => x)
  have hdst := (hin'.op ho).imp (fun x => x) (·.2.1)
  have hi : i < ops.size := (Array.getElem?_eq_some_iff.1 ho).1
  have hrange : List.range' i (ops.size - i) = i :: List.range' (i + 1) (ops.size - (i + 1)) := by
    rw [show ops.size - i = ops.size - (i + 1) + 1 from by omega, List.range'_succ]
  have hy' := (h G E ρ a w hr).congr (htop.same hin' ho).1
  show GoesM P f (Post X K) b t (cal fn key i) fs w
  rw [hc i, hrange]
  intro cs
  obtain ⟨v, w', ⟨q, ρ', hr', hs⟩, hst⟩ := op_step ho (by simp [Region.wanted, hg]) (defer_ne hnd ho) hy' b k (fs ++ cs) (rest := List.range' (i + 1) (ops.size - (i + 1)))
  have hput := htop.put hdst v
  have := hs G E ρ' _ w' hG1 hG2 hr' b (t.put o.dst v) fs (hwf _ _ hput hr'.defers)
  rw [hc (i + 1)] at this
  obtain ⟨e, w2, fr, g1, g2, g3⟩ := this cs
  exact ⟨e, w2, fr, g1, Comes.of_steps hst g2, g3⟩

theorem lk_set {L : List AObj} {id : Nat} {x : AObj} (h : id < L.length) (j : Nat) : (L.set id x)[j]? = updH (fun i => L[i]?) id x j := by
  simp only [updH]
  rw [List.getElem?_set]
  by_cases hj : j = id
  · subst hj; simp [h]
  · rw [if_neg (Ne.symm hj), if_neg hj]

/-- A range over a map begins. -/
theorem range_safe {f : FuncId} {fn : Func} {key i : Nat} {t : TypeId} {x d : Tmp} (hat : (opAt fn key i).bind rangeOf = some (t, x, d)) (ht : isMapT P t = true) {tmps : List AV} {L : List AObj} {stk : Stk}
    (hin : (stk.plain || ((opAt fn key i).any fun y => slotsIn (Cfg.n ⟨tmps, L, [], stk⟩) y.1)) = true) {id : Nat} {ck : CK} {m : List (Int × ck.V)} (hx : tmps.getD x (.s .junk) = .mapv id) (hid : L[id]? = some (.map ck m))
    (h : Safe P f X K ⟨tmps.set d (.ptr (L.length + 1) 0), L.set id (.mapb ck m L.length) ++ [.dead, .iter id L.length ck m none], cal fn key (i + 1), stk⟩) : Safe P f X K ⟨tmps, L, cal fn key i, stk⟩ := by
  obtain ⟨⟨ops, o, k⟩, h1, h2⟩ := Option.bind_eq_some_iff.1 hat
  rw [h1] at hin
  unfold rangeOf at h2
  split at h2
  · rename_i t' y d' e1 e2 e3
    simp only [] at e1 e2 e3
    rw [Bool.cond_eq_ite] at h2
    split at h2
    · rename_i hnd
      simp only [Option.some.injEq, Prod.mk.injEq] at h2
      obtain ⟨rfl, rfl, rfl⟩ := h2
      obtain ⟨kt, et, hut⟩ : ∃ kt et, P.underlying t' = some (.map kt et) := by
        unfold isMapT at ht
        split at ht
        · exact ⟨_, _, by assumption⟩
        · cases ht
      refine one_safe h1 hnd e1 (by simpa using hin) fun G E ρ a w hr => ?_
      have hlt : id < L.length := (List.getElem?_eq_some_iff.1 hid).1
      have hd := hr.den y
      rw [show (St.tmps ⟨tmps, L⟩).getD y (.s .junk) = .mapv id from hx] at hd
      obtain ⟨v', w', g1, g2⟩ := range_good (P := P) hr.sat hut (show (St.look ⟨tmps, L⟩) id = some _ from hid) (base := L.length) (by simp [St.look]) (by simp [St.look]) hd
      refine yields_new (s := Instr.range t' (a.eval (.tmp y))) ⟨v', w', g1, ?_⟩ (by simp only [execOp, e2])
      have hl : (St.put ⟨tmps, L⟩ o.dst ⟨[], [(id, .mapb ck m L.length)], [.dead, .iter id L.length ck m none], fun b => .ptr (b + 1) 0⟩).look =
          updH (updH (updH (St.look ⟨tmps, L⟩) L.length .dead) id (.mapb ck m L.length)) (L.length + 1) (.iter id L.length ck m none) := by
        funext j
        show (L.set id (.mapb ck m L.length) ++ [.dead, .iter id L.length ck m none])[j]? = _
        simp only [updH, St.look]
        by_cases hj1 : j = L.length + 1
        · subst hj1
          rw [List.getElem?_append_right (by simp), if_pos rfl]
          simp
        · rw [if_neg hj1]
          by_cases hj2 : j = id
          · subst hj2
            rw [List.getElem?_append_left (by simpa using hlt), if_pos rfl]
            simp [hlt]
          · rw [if_neg hj2]
            by_cases hj3 : j = L.length
            · subst hj3
              rw [List.getElem?_append_right (by simp), if_pos rfl]
              simp
            · rw [if_neg hj3]
              rcases Nat.lt_or_ge j L.length with hj | hj
              · rw [List.getElem?_append_left (by simpa using hj), List.getElem?_set_ne (Ne.symm hj2)]
              · rw [List.getElem?_append_right (by simpa using hj), List.getElem?_eq_none (by simp; omega), List.getElem?_eq_none (by omega)]
      rw [← hl] at g2
      obtain ⟨ρ', hr'⟩ := hr.good (.inl rfl) g2
      refine ⟨_, ρ', hr', ?_⟩
      rw [e3]
      exact h
    · cases h2
  · cases h2

/-- A range over a map goes on. -/
theorem next_safe {f : FuncId} {fn : Func} {key i : Nat} {x d : Tmp} (hat : (opAt fn key i).bind nextOf = some (x, d)) {tmps : List AV} {L : List AObj} {stk : Stk}
    (hin : (stk.plain || ((opAt fn key i).any fun y => slotsIn (Cfg.n ⟨tmps, L, [], stk⟩) y.1)) = true) {id mid gid : Nat} {ck ck' : CK} {left : List (Int × ck.V)} {cur : Option (Int × ck.V)} {m : List (Int × ck'.V)} (hp : ck.plain = true)
    (hx : tmps.getD x (.s .junk) = .ptr id 0) (hid : L[id]? = some (.iter mid gid ck left cur)) (hmid : L[mid]? = some (.mapb ck' m gid))
    (h0 : left = [] → Safe P f X K ⟨tmps.set d (.tup [.s (.blit false)]), (L.set mid (.map ck' m)).set id .dead, cal fn key (i + 1), stk⟩)
    (h : ∀ j, j < left.length → Safe P f X K ⟨tmps.set d (.tup [.s (.blit true), .s (.int .i64 (left.getD j (0, ck.d)).1), ck.av (left.getD j (0, ck.d)).2]), L.set id (.iter mid gid ck (left.eraseIdx j) (some (left.getD j (0, ck.d)))), cal fn key (i + 1), stk⟩) :
    Safe P f X K ⟨tmps, L, cal fn key i, stk⟩ := by
  obtain ⟨⟨ops, o, k⟩, h1, h2⟩ := Option.bind_eq_some_iff.1 hat
  rw [h1] at hin
  unfold nextOf at h2
  split at h2
  · rename_i y d' e1 e2 e3
    simp only [] at e1 e2 e3
    rw [Bool.cond_eq_ite] at h2
    split at h2
    · rename_i hnd
      simp only [Option.some.injEq, Prod.mk.injEq] at h2
      obtain ⟨rfl, rfl⟩ := h2
      refine one_safe h1 hnd e1 (by simpa using hin) fun G E ρ a w hr => ?_
      have hlt : id < L.length := (List.getElem?_eq_some_iff.1 hid).1
      have hlt2 : mid < L.length := (List.getElem?_eq_some_iff.1 hmid).1
      have hd := hr.den y
      rw [show (St.tmps ⟨tmps, L⟩).getD y (.s .junk) = .ptr id 0 from hx] at hd
      rcases next_good (P := P) hr.sat hp (show (St.look ⟨tmps, L⟩) id = some _ from hid) (show (St.look ⟨tmps, L⟩) mid = some _ from hmid) hd o.type with ⟨g0, g1, g2⟩ | ⟨j, hj, v', w1, g1, w', g2, g3⟩
      · refine yields_new (s := Instr.next (a.eval (.tmp y)) false o.type) ⟨_, _, g1, ?_⟩ (by simp only [execOp, e2])
        have hl : (St.put ⟨tmps, L⟩ o.dst ⟨[], [(mid, .map ck' m), (id, .dead)], [], fun _ => .tup [.s (.blit false)]⟩).look = updH (updH (St.look ⟨tmps, L⟩) mid (.map ck' m)) id .dead := by
          funext j
          show ((L.set mid (.map ck' m)).set id .dead ++ [])[j]? = _
          rw [List.append_nil, lk_set (by simpa using hlt)]
          simp only [updH]
          split
          · rfl
          · exact lk_set hlt2 j
        rw [← hl] at g2
        obtain ⟨ρ', hr'⟩ := hr.good (.inl rfl) g2
        refine ⟨_, ρ', hr', ?_⟩
        rw [e3]
        have := h0 g0
        simpa [St.put, upList, setSlot] using this
      · refine yields_new (s := Instr.next (a.eval (.tmp y)) false o.type) ⟨_, _, g2, ?_⟩ (by simp only [execOp, e2])
        have hl : (St.put ⟨tmps, L⟩ o.dst ⟨[], [(id, .iter mid gid ck (left.eraseIdx j) (some left[j]))], [], fun _ => .tup [.s (.blit true), .s (.int .i64 left[j].1), ck.av left[j].2]⟩).look =
            updH (St.look ⟨tmps, L⟩) id (.iter mid gid ck (left.eraseIdx j) (some left[j])) := by
          funext j'
          show (L.set id _ ++ [])[j']? = _
          rw [List.append_nil]
          exact lk_set hlt j'
        rw [← hl] at g3
        obtain ⟨ρ', hr'⟩ := hr.good g1 g3
        refine ⟨_, ρ', hr', ?_⟩
        rw [e3]
        have := h j hj
        rw [show left.getD j (0, ck.d) = left[j] from by simp [List.getD, hj]] at this
        simpa [St.put, upList, setSlot] using this
    · cases h2
  · cases h2

/-- A number is forgotten. -/
theorem forget_safe {f : FuncId} {tmps : List AV} {L : List AObj} {todo : List Item} {stk : Stk} {t : Nat} {k : IntKind} {n : Int} (ht : tmps.getD t (.s .junk) = .s (.int k n))
    (h : Safe P f X K ⟨tmps.set t (.s (.anyi k)), L, todo, stk⟩) : Safe P f X K ⟨tmps, L, todo, stk⟩ := by
  intro G E ρ a w hG1 hG2 hr b t' fs hw
  refine h G E ρ a w hG1 hG2 (hr.refine (d := t) (x := .s (.int k n)) ht fun v hv => ?_) b t' fs hw
  have := DenS_of_V (by simp) hv
  cases this
  exact DenV_s (.anyi _ _)
end
end Go.Sx

/-! A tree gone through by rules. -/
namespace Go.Sx
open Go
/-- A record of a row. -/
abbrev el {cs : List CK} (l : List (CL cs)) (i : Int) : CL cs := l.getD i.toNat (CL.d cs)
abbrev Slf {α : Type} (a : α) : Prop := a = a
abbrev NoObj : Prop := (some [] : Option (List AObj)) = some []
section
variable {K : List AObj → AV → Prop} {C : Cfg → Prop} {t e : Tree} {p q : Prop}
theorem h_eq {α : Type} {a : α} (h : t.Holds K C) : (Tree.need (a = a) t).Holds K C := ⟨rfl, h⟩
theorem h_need (hp : p) (h : t.Holds K C) : (Tree.need p t).Holds K C := ⟨hp, h⟩
theorem h_dec {d : Decidable p} (h1 : p → t.Holds K C) (h2 : ¬ p → e.Holds K C) : (Tree.ite (@decide p d) t e).Holds K C := ⟨fun h => h1 (of_decide_eq_true h), fun h => h2 (of_decide_eq_false h)⟩
theorem h_beq {a b : Int} (h1 : a = b → t.Holds K C) (h2 : a ≠ b → e.Holds K C) : (Tree.ite (a == b) t e).Holds K C := ⟨fun h => h1 (by simpa using h), fun h => h2 (by simpa using h)⟩
theorem h_bne {a b : Int} (h1 : a ≠ b → t.Holds K C) (h2 : a = b → e.Holds K C) : (Tree.ite (a != b) t e).Holds K C := ⟨fun h => h1 (by simpa using h), fun h => h2 (by simpa using h)⟩
theorem h_not {b : Bool} (h : (Tree.ite b e t).Holds K C) : (Tree.ite (!b) t e).Holds K C := ⟨fun hb => h.2 (by simpa using hb), fun hb => h.1 (by simpa using hb)⟩
theorem h_tt (h : t.Holds K C) : (Tree.ite true t e).Holds K C := ⟨fun _ => h, fun x => (by cases x)⟩
theorem h_ff (h : e.Holds K C) : (Tree.ite false t e).Holds K C := ⟨fun x => (by cases x), fun _ => h⟩
theorem h_ite {b : Bool} (h1 : b = true → t.Holds K C) (h2 : b = false → e.Holds K C) : (Tree.ite b t e).Holds K C := ⟨h1, h2⟩
theorem h_yes {b : Bool} (hb : b = true) (h : t.Holds K C) : (Tree.ite b t e).Holds K C := ⟨fun _ => h, fun x => absurd (hb.symm.trans x) (by simp)⟩
theorem h_no {b : Bool} (hb : b = false) (h : e.Holds K C) : (Tree.ite b t e).Holds K C := ⟨fun x => absurd (hb.symm.trans x) (by simp), fun _ => h⟩
theorem h_both (h1 : p → t.Holds K C) (h2 : q → e.Holds K C) : (Tree.both p q t e).Holds K C := ⟨h1, h2⟩
theorem h_ret {H : List AObj} {v : AV} (h : K H v) : (Tree.ret H v).Holds K C := h
theorem h_at {c : Cfg} (h : C c) : (Tree.at c).Holds K C := h
theorem endS {X : Type} {S : Spec X} {x : X} {L : List AObj} {r : AV} {o : AV} {h : List AObj} (m : Nat) (e : Norm.run ⟨[], [0], m, []⟩ ⟨[r], L, [], {}⟩ = some ⟨[o], h, [], {}⟩) (hm : (S.heap x).length ≤ m) (ho : S.out x = o) (hh : S.outH x = h) : EndS S x L r :=
  ⟨⟨[], [0], m, []⟩, hm, by rw [ho, hh]; exact e⟩
/-- The same, with cells made alike. -/
theorem endC {X : Type} {S : Spec X} {x : X} {L : List AObj} {r : AV} {o : AV} {h : List AObj} (m : Nat) (cs : List (Nat × Nat × Bool × Con × TypeId)) (e : Norm.run ⟨[], [0], m, cs⟩ ⟨[r], L, [], {}⟩ = some ⟨[o], h, [], {}⟩) (hm : (S.heap x).length ≤ m) (ho : S.out x = o) (hh : S.outH x = h) : EndS S x L r :=
  ⟨⟨[], [0], m, cs⟩, hm, by rw [ho, hh]; exact e⟩
end
end Go.Sx

namespace Ds
open Go Go.Sx Go.Proofs Lf
noncomputable abbrev P : Program := Try.prog
theorem mixed : P.follows .mixedOrders = true := by kernel_rfl
abbrev tInt : Ty := .b (.int .i64)
abbrev tBool : Ty := .b .bool
abbrev tStr : Ty := .b .str
theorem go {Z : Glob} {X : Ctx} {t : Tab} {f : FuncId} {fn : Func} {ns : List (Nat × Norm)} {c : Cfg} {tr : Tree} {K : List AObj → AV → Prop} {inl : List FuncId} (hz : ZCtx Z X) (hX : ∀ id, X.H id = none) (hT : t.Ok P Z) (hf : P.funcs[f]? = some fn)
    (e : run P t.sum fn ns c inl = tr) (h : tr.Holds K (Safe P f X K)) : Safe P f X K c := safe_of_run (Tab.sOk hT) hz mixed hf (fun _ _ id _ => hX id) e h
theorem goS {Z : Glob} {X : Ctx} {t : Tab} {f : FuncId} {fn : Func} {ns : List (Nat × Norm)} {c : Cfg} {tr : Tree} {K : List AObj → AV → Prop} {L : List AObj} {inl : List FuncId} (hz : ZCtx Z X) (hX : X.H = lk L) (hm : ∀ x ∈ ns, L.length ≤ x.2.m) (hT : t.Ok P Z) (hf : P.funcs[f]? = some fn)
    (e : run P t.sum fn ns c inl = tr) (h : tr.Holds K (Safe P f X K)) : Safe P f X K c :=
  safe_of_run (Tab.sOk hT) hz mixed hf (fun x hx id hid => by rw [hX]; exact List.getElem?_eq_none (Nat.le_trans (hm x hx) hid)) e h
theorem yes_and {A B : Prop} {b : Bool} (hb : b = true) (h : A) : (b = true → A) ∧ (b = false → B) := ⟨fun _ => h, fun e => absurd (hb.symm.trans e) (by simp)⟩
theorem no_and {A B : Prop} {b : Bool} (hb : b = false) (h : B) : (b = true → A) ∧ (b = false → B) := ⟨fun e => absurd (hb.symm.trans e) (by simp), fun _ => h⟩

/-! ### a disk -/
abbrev cS : List CK := [.arr .u8 64]
abbrev kS : CK := .arr .u8 64
abbrev eS : TypeId := 169
abbrev eD : TypeId := 145
abbrev Th : Type := List (CL cS)
abbrev As : Type := List (Int × kS.V)
abbrev obD (i j : Nat) (fu : Int) : AObj := .own [.vec i, .mapv j, .s (.int .i64 fu)] eD
abbrev hD (th : Th) (m : As) (fu : Int) : List AObj := [obD 1 2 fu, .vec (.typ cS th) eS, .map kS m]
end Ds

namespace Ds
open Go Go.Sx Go.Proofs Lf
abbrev tab0 : Tab := []
abbrev inD : List FuncId := [108, 109, 114]
theorem treeRead (th : Th) (m : As) (fu n : Int) : run P tab0.sum Try.f58 [] (start Try.f58 [.ptr 0 0, .s (.int .i64 n)] (hD th m fu)) inD =
  Tree.ite (decide (n < (0 : Int))) (Tree.ret [AObj.own [AV.vec (1 : Nat), AV.mapv (2 : Nat), AV.s (SV.int IntKind.i64 fu)] (145 : Nat), AObj.vec (Con.typ [CK.arr IntKind.u8 (64 : Nat)] th) (169 : Nat), AObj.map (CK.arr IntKind.u8 (64 : Nat)) m] (AV.tup [AV.s (SV.str ByteArray.empty), AV.s (SV.ilit IntKind.i64 (5 : Int))])) (Tree.ite (decide (n ≥ (↑(List.length th) : Int))) (Tree.ret [AObj.own [AV.vec (1 : Nat), AV.mapv (2 : Nat), AV.s (SV.int IntKind.i64 fu)] (145 : Nat), AObj.vec (Con.typ [CK.arr IntKind.u8 (64 : Nat)] th) (169 : Nat), AObj.map (CK.arr IntKind.u8 (64 : Nat)) m] (AV.tup [AV.s (SV.str ByteArray.empty), AV.s (SV.ilit IntKind.i64 (5 : Int))])) (Tree.ite (mhas m n) (Tree.need ((0 : Int) ≤ (0 : Int)) (Tree.need ((0 : Int) ≤ (↑(64 : Nat) : Int)) (Tree.need ((↑(64 : Nat) : Int) ≤ (↑(64 : Nat) : Int)) (Tree.need ((0 : Nat) + (64 : Nat) ≤ (64 : Nat)) (Tree.ret [AObj.own [AV.vec (1 : Nat), AV.mapv (2 : Nat), AV.s (SV.int IntKind.i64 fu)] (145 : Nat), AObj.vec (Con.typ [CK.arr IntKind.u8 (64 : Nat)] th) (169 : Nat), AObj.map (CK.arr IntKind.u8 (64 : Nat)) m, AObj.own [AV.ints IntKind.u8 (64 : Nat) ((mget m n).getD (CK.arr IntKind.u8 (64 : Nat)).d)] (169 : Nat), AObj.own [AV.ints IntKind.u8 (64 : Nat) ((mget m n).getD (CK.arr IntKind.u8 (64 : Nat)).d)] (169 : Nat), AObj.own [AV.ints IntKind.u8 (64 : Nat) ((mget m n).getD (CK.arr IntKind.u8 (64 : Nat)).d)] (169 : Nat)] (AV.tup [AV.s (SV.str (bytesStr (List.take (64 : Nat) (List.drop (0 : Nat) ((mget m n).getD (CK.arr IntKind.u8 (64 : Nat)).d))))), AV.s (SV.ilit IntKind.i64 (0 : Int))])))))) (Tree.need ((0 : Int) ≤ n) (Tree.need (n < (↑(List.length th) : Int)) (Tree.need (List.length (List.getD th n.toNat (CL.d [CK.arr IntKind.u8 (64 : Nat)])).fst = (64 : Nat)) (Tree.need ((0 : Int) ≤ (0 : Int)) (Tree.need ((0 : Int) ≤ (↑(64 : Nat) : Int)) (Tree.need ((↑(64 : Nat) : Int) ≤ (↑(64 : Nat) : Int)) (Tree.need ((0 : Nat) + (64 : Nat) ≤ (64 : Nat)) (Tree.ret [AObj.own [AV.vec (1 : Nat), AV.mapv (2 : Nat), AV.s (SV.int IntKind.i64 fu)] (145 : Nat), AObj.vec (Con.typ [CK.arr IntKind.u8 (64 : Nat)] th) (169 : Nat), AObj.map (CK.arr IntKind.u8 (64 : Nat)) m, AObj.own [AV.ints IntKind.u8 (64 : Nat) (List.getD th n.toNat (CL.d [CK.arr IntKind.u8 (64 : Nat)])).fst] (169 : Nat), AObj.own [AV.ints IntKind.u8 (64 : Nat) ((mget m n).getD (CK.arr IntKind.u8 (64 : Nat)).d)] (169 : Nat), AObj.own [AV.ints IntKind.u8 (64 : Nat) (List.getD th n.toNat (CL.d [CK.arr IntKind.u8 (64 : Nat)])).fst] (169 : Nat)] (AV.tup [AV.s (SV.str (bytesStr (List.take (64 : Nat) (List.drop (0 : Nat) (List.getD th n.toNat (CL.d [CK.arr IntKind.u8 (64 : Nat)])).fst)))), AV.s (SV.ilit IntKind.i64 (0 : Int))]))))))))))) := by kernel_rfl
theorem treeWrite (th : Th) (m : As) (fu n : Int) (s : ByteArray) : run P tab0.sum Try.f66 [] (start Try.f66 [.ptr 0 0, .s (.int .i64 n), .s (.str s)] (hD th m fu)) inD =
  Tree.ite (decide (n < (0 : Int))) (Tree.ret [AObj.own [AV.vec (1 : Nat), AV.mapv (2 : Nat), AV.s (SV.int IntKind.i64 fu)] (145 : Nat), AObj.vec (Con.typ [CK.arr IntKind.u8 (64 : Nat)] th) (169 : Nat), AObj.map (CK.arr IntKind.u8 (64 : Nat)) m] (AV.s (SV.ilit IntKind.i64 (5 : Int)))) (Tree.ite (decide (n ≥ (↑(List.length th) : Int))) (Tree.ret [AObj.own [AV.vec (1 : Nat), AV.mapv (2 : Nat), AV.s (SV.int IntKind.i64 fu)] (145 : Nat), AObj.vec (Con.typ [CK.arr IntKind.u8 (64 : Nat)] th) (169 : Nat), AObj.map (CK.arr IntKind.u8 (64 : Nat)) m] (AV.s (SV.ilit IntKind.i64 (5 : Int)))) (Tree.ite ((↑s.size : Int) != (64 : Int)) (Tree.ret [AObj.own [AV.vec (1 : Nat), AV.mapv (2 : Nat), AV.s (SV.int IntKind.i64 fu)] (145 : Nat), AObj.vec (Con.typ [CK.arr IntKind.u8 (64 : Nat)] th) (169 : Nat), AObj.map (CK.arr IntKind.u8 (64 : Nat)) m] (AV.s (SV.ilit IntKind.i64 (1 : Int)))) (Tree.ite (fu == (0 : Int)) (Tree.ret [AObj.own [AV.vec (1 : Nat), AV.mapv (2 : Nat), AV.s (SV.int IntKind.i64 fu)] (145 : Nat), AObj.vec (Con.typ [CK.arr IntKind.u8 (64 : Nat)] th) (169 : Nat), AObj.map (CK.arr IntKind.u8 (64 : Nat)) m] (AV.s (SV.ilit IntKind.i64 (42 : Int)))) (Tree.need (inI64 (fu - (1 : Int))) (Tree.need (s.size ≤ (4294967296 : Nat)) (Tree.need ((64 : Nat) ≤ (strInts s).length) (Tree.need (List.length ([(List.take (64 : Nat) (strInts s), ())].getD (0 : Nat) (CL.d [CK.arr IntKind.u8 (64 : Nat)])).fst = (64 : Nat)) (Tree.ret [AObj.own [AV.vec (1 : Nat), AV.mapv (2 : Nat), AV.s (SV.int IntKind.i64 (imax (fu - (1 : Int)) (-1 : Int)))] (145 : Nat), AObj.vec (Con.typ [CK.arr IntKind.u8 (64 : Nat)] th) (169 : Nat), AObj.map (CK.arr IntKind.u8 (64 : Nat)) (mput m n ([(List.take (64 : Nat) (strInts s), ())].getD (0 : Nat) (CL.d [CK.arr IntKind.u8 (64 : Nat)])).fst)] (AV.s (SV.ilit IntKind.i64 (0 : Int))))))))))) := by kernel_rfl
theorem treeDead (th : Th) (m : As) (fu : Int) : run P tab0.sum Try.f64 [] (start Try.f64 [.ptr 0 0] (hD th m fu)) =
  Tree.ret [AObj.own [AV.vec (1 : Nat), AV.mapv (2 : Nat), AV.s (SV.int IntKind.i64 fu)] (145 : Nat), AObj.vec (Con.typ [CK.arr IntKind.u8 (64 : Nat)] th) (169 : Nat), AObj.map (CK.arr IntKind.u8 (64 : Nat)) m] (AV.s (SV.bool (fu == (0 : Int)))) := by kernel_rfl
theorem treeFuse (th : Th) (m : As) (fu n : Int) : run P tab0.sum Try.f69 [] (start Try.f69 [.ptr 0 0, .s (.int .i64 n)] (hD th m fu)) =
  Tree.ite (decide (n < (0 : Int))) (Tree.ret [AObj.own [AV.vec (1 : Nat), AV.mapv (2 : Nat), AV.s (SV.int IntKind.i64 fu)] (145 : Nat), AObj.vec (Con.typ [CK.arr IntKind.u8 (64 : Nat)] th) (169 : Nat), AObj.map (CK.arr IntKind.u8 (64 : Nat)) m] (AV.s (SV.ilit IntKind.i64 (1 : Int)))) (Tree.ite (fu == (0 : Int)) (Tree.ret [AObj.own [AV.vec (1 : Nat), AV.mapv (2 : Nat), AV.s (SV.int IntKind.i64 fu)] (145 : Nat), AObj.vec (Con.typ [CK.arr IntKind.u8 (64 : Nat)] th) (169 : Nat), AObj.map (CK.arr IntKind.u8 (64 : Nat)) m] (AV.s (SV.ilit IntKind.i64 (42 : Int)))) (Tree.ret [AObj.own [AV.vec (1 : Nat), AV.mapv (2 : Nat), AV.s (SV.int IntKind.i64 n)] (145 : Nat), AObj.vec (Con.typ [CK.arr IntKind.u8 (64 : Nat)] th) (169 : Nat), AObj.map (CK.arr IntKind.u8 (64 : Nat)) m] (AV.s (SV.ilit IntKind.i64 (0 : Int))))) := by kernel_rfl
theorem treeSectors (th : Th) (m : As) (fu : Int) : run P tab0.sum Try.f73 [] (start Try.f73 [.ptr 0 0] (hD th m fu)) =
  Tree.ret [AObj.own [AV.vec (1 : Nat), AV.mapv (2 : Nat), AV.s (SV.int IntKind.i64 fu)] (145 : Nat), AObj.vec (Con.typ [CK.arr IntKind.u8 (64 : Nat)] th) (169 : Nat), AObj.map (CK.arr IntKind.u8 (64 : Nat)) m] (AV.s (SV.int IntKind.i64 (↑(List.length th) : Int))) := by kernel_rfl
def nsFl : List (Nat × Norm) := [(6, ⟨[], [0], 3, []⟩), (7, ⟨[], [0, 17], 3, []⟩)]
abbrev ki (l : Nat) : Stk := ⟨none, false, 0, [], l⟩
noncomputable def cF6 (th : Th) (m : As) (fu : Int) : Cfg := ⟨sl 34 [(0, .ptr 0 0)], hD th m fu, hr Try.f65 6, {}⟩
noncomputable def cF6b (th : Th) (m : As) (fu : Int) : Cfg := ⟨sl 34 [(0, .ptr 0 0), (13, .ptr 0 0), (14, .ptr 0 0), (15, .ptr 0 1), (16, .mapv 2), (17, .ptr 4 0)], [obD 1 2 fu, .vec (.typ cS th) eS, .mapb kS m 3, .dead, .iter 2 3 kS m none], cal Try.f65 6 5, ki 6⟩
noncomputable def cF7 (th : Th) (m left : As) (cur : Option (Int × kS.V)) (fu : Int) : Cfg := ⟨sl 34 [(0, .ptr 0 0), (17, .ptr 3 0)], [obD 1 2 fu, .vec (.typ cS th) eS, .mapb kS m 4, .iter 2 4 kS left cur, .dead], hd Try.f65 7, {}⟩
noncomputable def cF7o (th : Th) (m : As) (fu : Int) : Cfg := ⟨sl 34 [(0, .ptr 0 0), (17, .ptr 3 0), (18, .tup [.s (.blit false)])], [obD 1 2 fu, .vec (.typ cS th) eS, .map kS m, .dead, .dead], cal Try.f65 7 1, ki 7⟩
noncomputable def cF7e (th : Th) (m left : As) (p : Int × kS.V) (fu : Int) : Cfg := ⟨sl 34 [(0, .ptr 0 0), (17, .ptr 3 0), (18, .tup [.s (.blit true), .s (.int .i64 p.1), kS.av p.2])], [obD 1 2 fu, .vec (.typ cS th) eS, .mapb kS m 4, .iter 2 4 kS left (some p), .dead], cal Try.f65 7 1, ki 7⟩
theorem treeFlush (th : Th) (m : As) (fu : Int) : run P tab0.sum Try.f65 nsFl (start Try.f65 [.ptr 0 0] (hD th m fu)) inD =
  Tree.ite (fu == (0 : Int)) (Tree.ret [AObj.own [AV.vec (1 : Nat), AV.mapv (2 : Nat), AV.s (SV.int IntKind.i64 fu)] (145 : Nat), AObj.vec (Con.typ [CK.arr IntKind.u8 (64 : Nat)] th) (169 : Nat), AObj.map (CK.arr IntKind.u8 (64 : Nat)) m] (AV.s (SV.ilit IntKind.i64 (42 : Int)))) (Tree.need (inI64 (fu - (1 : Int))) (Tree.at (Cfg.mk (sl (34 : Nat) [((0 : Nat), AV.ptr (0 : Nat) (0 : Nat))]) [AObj.own [AV.vec (1 : Nat), AV.mapv (2 : Nat), AV.s (SV.int IntKind.i64 (imax (fu - (1 : Int)) (-1 : Int)))] (145 : Nat), AObj.vec (Con.typ [CK.arr IntKind.u8 (64 : Nat)] th) (169 : Nat), AObj.map (CK.arr IntKind.u8 (64 : Nat)) m] (hr Try.f65 (6 : Nat)) (Stk.mk none false (0 : Nat) [] (0 : Nat))))) := by kernel_rfl
theorem treeF6 (th : Th) (m : As) (fu : Int) : run P tab0.sum Try.f65 nsFl (cF6 th m fu) inD =
  Tree.at (Cfg.mk (sl (34 : Nat) [((0 : Nat), AV.ptr (0 : Nat) (0 : Nat)), ((13 : Nat), AV.ptr (0 : Nat) (0 : Nat)), ((14 : Nat), AV.ptr (0 : Nat) (0 : Nat)), ((15 : Nat), AV.ptr (0 : Nat) (1 : Nat)), ((16 : Nat), AV.mapv (2 : Nat))]) [AObj.own [AV.vec (1 : Nat), AV.mapv (2 : Nat), AV.s (SV.int IntKind.i64 fu)] (145 : Nat), AObj.vec (Con.typ [CK.arr IntKind.u8 (64 : Nat)] th) (169 : Nat), AObj.map (CK.arr IntKind.u8 (64 : Nat)) m] (cal Try.f65 (6 : Nat) (4 : Nat)) (Stk.mk none false (0 : Nat) [] (6 : Nat))) := by kernel_rfl
theorem treeF6b (th : Th) (m : As) (fu : Int) : run P tab0.sum Try.f65 nsFl (cF6b th m fu) inD =
  Tree.at (Cfg.mk (sl (34 : Nat) [((0 : Nat), AV.ptr (0 : Nat) (0 : Nat)), ((17 : Nat), AV.ptr (3 : Nat) (0 : Nat))]) [AObj.own [AV.vec (1 : Nat), AV.mapv (2 : Nat), AV.s (SV.int IntKind.i64 fu)] (145 : Nat), AObj.vec (Con.typ [CK.arr IntKind.u8 (64 : Nat)] th) (169 : Nat), AObj.mapb (CK.arr IntKind.u8 (64 : Nat)) m (4 : Nat), AObj.iter (2 : Nat) (4 : Nat) (CK.arr IntKind.u8 (64 : Nat)) m none, AObj.dead] (hd Try.f65 (7 : Nat)) (Stk.mk none false (0 : Nat) [] (0 : Nat))) := by kernel_rfl
theorem treeF7 (th : Th) (m left : As) (cur : Option (Int × kS.V)) (fu : Int) : run P tab0.sum Try.f65 nsFl (cF7 th m left cur fu) inD =
  Tree.at (Cfg.mk (sl (34 : Nat) [((0 : Nat), AV.ptr (0 : Nat) (0 : Nat)), ((17 : Nat), AV.ptr (3 : Nat) (0 : Nat))]) [AObj.own [AV.vec (1 : Nat), AV.mapv (2 : Nat), AV.s (SV.int IntKind.i64 fu)] (145 : Nat), AObj.vec (Con.typ [CK.arr IntKind.u8 (64 : Nat)] th) (169 : Nat), AObj.mapb (CK.arr IntKind.u8 (64 : Nat)) m (4 : Nat), AObj.iter (2 : Nat) (4 : Nat) (CK.arr IntKind.u8 (64 : Nat)) left cur, AObj.dead] (cal Try.f65 (7 : Nat) (0 : Nat)) (Stk.mk none false (0 : Nat) [] (7 : Nat))) := by kernel_rfl
theorem treeF7o (th : Th) (m : As) (fu : Int) : run P tab0.sum Try.f65 nsFl (cF7o th m fu) inD =
  Tree.ret [AObj.own [AV.vec (1 : Nat), AV.mapv (2 : Nat), AV.s (SV.int IntKind.i64 fu)] (145 : Nat), AObj.vec (Con.typ [CK.arr IntKind.u8 (64 : Nat)] th) (169 : Nat), AObj.map (CK.arr IntKind.u8 (64 : Nat)) [], AObj.dead, AObj.dead] (AV.s (SV.ilit IntKind.i64 (0 : Int))) := by kernel_rfl
theorem treeF7e (th : Th) (m left : As) (p : Int × kS.V) (fu : Int) : run P tab0.sum Try.f65 nsFl (cF7e th m left p fu) inD =
  Tree.need ((0 : Int) ≤ p.fst) (Tree.need (p.fst < (↑(List.length th) : Int)) (Tree.at (Cfg.mk (sl (34 : Nat) [((0 : Nat), AV.ptr (0 : Nat) (0 : Nat)), ((17 : Nat), AV.ptr (3 : Nat) (0 : Nat))]) [AObj.own [AV.vec (1 : Nat), AV.mapv (2 : Nat), AV.s (SV.int IntKind.i64 fu)] (145 : Nat), AObj.vec (Con.typ [CK.arr IntKind.u8 (64 : Nat)] (List.set th p.fst.toNat (p.snd, (List.getD th p.fst.toNat (CL.d [CK.arr IntKind.u8 (64 : Nat)])).snd))) (169 : Nat), AObj.mapb (CK.arr IntKind.u8 (64 : Nat)) m (4 : Nat), AObj.iter (2 : Nat) (4 : Nat) (CK.arr IntKind.u8 (64 : Nat)) left (some p), AObj.dead] (hd Try.f65 (7 : Nat)) (Stk.mk none false (0 : Nat) [] (0 : Nat))))) := by kernel_rfl

/-! ### what a disk is -/
def okT (th : Th) : Prop := th.length ≤ 4096 ∧ ∀ i, i < th.length → (arrOf (th.getD i (CL.d cS))).length = 64
def okM (n : Nat) (m : As) : Prop := (m.map (·.1)).Nodup ∧ ∀ p ∈ m, 0 ≤ p.1 ∧ p.1 < (n : Int) ∧ List.length (α := Int) p.2 = 64
def okF (fu : Int) : Prop := -1 ≤ fu ∧ fu ≤ 9223372036854775807
structure okD (th : Th) (m : As) (fu : Int) : Prop where
  t : okT th
  m : okM th.length m
  f : okF fu
def inTh (th : Th) (n : Int) : Bool := decide (0 ≤ n) && decide (n < (th.length : Int))
def nowS (th : Th) (m : As) (n : Int) : List Int := match mget m n with
  | some v => v
  | none => arrOf (th.getD n.toNat (CL.d cS))
def rdS (th : Th) (m : As) (n : Int) : ByteArray := if inTh th n = true then bytesStr (nowS th m n) else ByteArray.empty
def rdE (th : Th) (n : Int) : Int := if inTh th n = true then 0 else 5
def burnF (fu : Int) : Int := if fu = 0 then 0 else imax (fu - 1) (-1)
def wrE (th : Th) (fu n : Int) (s : ByteArray) : Int := if inTh th n = true then (if s.size = 64 then (if fu = 0 then 42 else 0) else 1) else 5
def wrM (th : Th) (m : As) (fu n : Int) (s : ByteArray) : As := if wrE th fu n s = 0 then mput m n (strInts s) else m
def wrF (th : Th) (fu n : Int) (s : ByteArray) : Int := if inTh th n = true ∧ s.size = 64 then burnF fu else fu
def flE (fu : Int) : Int := if fu = 0 then 42 else 0
def ovl (th : Th) (m : As) : Th := (List.range th.length).map fun (i : Nat) => (toArr (nowS th m (i : Int)) : CL cS)
def flT (th : Th) (m : As) (fu : Int) : Th := if fu = 0 then th else ovl th m
def flM (m : As) (fu : Int) : As := if fu = 0 then m else []
def fuE (fu n : Int) : Int := if n < 0 then 1 else if fu = 0 then 42 else 0
def fuF (fu n : Int) : Int := if n < 0 then fu else if fu = 0 then 0 else n
abbrev sRd : Spec (Th × As × Int × Int) := ⟨fun (_, _, _, n) => [.ptr 0 0, .s (.int .i64 n)], fun (th, m, fu, _) => hD th m fu, fun (th, m, fu, _) => [okD th m fu], fun (th, m, fu, _) => hD th m fu, fun (th, m, _, n) => .tup [.s (.str (rdS th m n)), .s (.int .i64 (rdE th n))]⟩
abbrev sWr : Spec (Th × As × Int × Int × ByteArray) := ⟨fun (_, _, _, n, s) => [.ptr 0 0, .s (.int .i64 n), .s (.str s)], fun (th, m, fu, _) => hD th m fu, fun (th, m, fu, _) => [okD th m fu],
  fun (th, m, fu, n, s) => hD th (wrM th m fu n s) (wrF th fu n s), fun (th, _, fu, n, s) => .s (.int .i64 (wrE th fu n s))⟩
abbrev sFl : Spec (Th × As × Int) := ⟨fun _ => [.ptr 0 0], fun (th, m, fu) => hD th m fu, fun (th, m, fu) => [okD th m fu], fun (th, m, fu) => hD (flT th m fu) (flM m fu) (burnF fu), fun (_, _, fu) => .s (.int .i64 (flE fu))⟩
abbrev sDe : Spec (Th × As × Int) := ⟨fun _ => [.ptr 0 0], fun (th, m, fu) => hD th m fu, fun _ => [], fun (th, m, fu) => hD th m fu, fun (_, _, fu) => .s (.bool (fu == 0))⟩
abbrev sSe : Spec (Th × As × Int) := ⟨fun _ => [.ptr 0 0], fun (th, m, fu) => hD th m fu, fun _ => [], fun (th, m, fu) => hD th m fu, fun (th, _, _) => .s (.int .i64 (th.length : Int))⟩
abbrev sFu : Spec (Th × As × Int × Int) := ⟨fun (_, _, _, n) => [.ptr 0 0, .s (.int .i64 n)], fun (th, m, fu, _) => hD th m fu, fun _ => [], fun (th, m, fu, n) => hD th m (fuF fu n), fun (_, _, fu, n) => .s (.int .i64 (fuE fu n))⟩
theorem inTh_iff {th : Th} {n : Int} : inTh th n = true ↔ 0 ≤ n ∧ n < (th.length : Int) := by simp [inTh]
theorem inTh_not {th : Th} {n : Int} : inTh th n = false ↔ n < 0 ∨ (th.length : Int) ≤ n := by
  rw [← Bool.not_eq_true, inTh_iff]; omega
theorem mget_has {m : As} {n : Int} : mhas m n = (mget m n).isSome := by
  rw [Bool.eq_iff_iff]
  simp only [mhas, mget, Option.isSome_map, List.find?_isSome, List.any_eq_true]
theorem mget_mem {m : As} {n : Int} {v : kS.V} (h : mget m n = some v) : (n, v) ∈ m := by
  simp only [mget, Option.map_eq_some_iff] at h
  obtain ⟨p, hp, rfl⟩ := h
  have h1 := List.mem_of_find?_eq_some hp
  have h2 := List.find?_some hp
  simp only [beq_iff_eq] at h2
  obtain ⟨a, b⟩ := p
  simp only at h2
  subst h2
  exact h1
theorem nowS_len {th : Th} {m : As} {fu n : Int} (h : okD th m fu) (hn : inTh th n = true) : (nowS th m n).length = 64 := by
  obtain ⟨h0, h1⟩ := inTh_iff.1 hn
  unfold nowS
  split
  · rename_i v hv
    exact (h.m.2 _ (mget_mem hv)).2.2
  · exact h.t.2 _ (by omega)
theorem take_all {l : List Int} (h : l.length = 64) : List.take 64 (List.drop 0 l) = l := by rw [List.drop_zero, List.take_of_length_le (by omega)]
theorem read_ok {Z : Glob} : FnS P Z 58 sRd := by
  refine fnS_of_safe Try.func58 (by kernel_rfl) (fun x => Nat.le_of_ble_eq_true (by kernel_rfl)) ?_
  rintro ⟨(th : Th), (m : As), (fu : Int), (n : Int)⟩ ⟨(hd : okD th m fu), _⟩ X hX hz
  have bad : inTh th n = false → rdS th m n = ByteArray.empty ∧ rdE th n = 5 := fun h => by simp [rdS, rdE, h]
  refine goS hz hX (by simp) Tab.Ok.nil Try.func58 (treeRead th m fu n) ⟨fun h => ?_, fun h => ⟨fun h2 => ?_, fun h2 => ?_⟩⟩
  · obtain ⟨e1, e2⟩ := bad (inTh_not.2 (.inl (of_decide_eq_true h)))
    exact endS 3 (by kernel_rfl) (Nat.le_refl _) (by show AV.tup [.s (.str (rdS th m n)), .s (.int .i64 (rdE th n))] = _; rw [e1, e2]) rfl
  · obtain ⟨e1, e2⟩ := bad (inTh_not.2 (.inr (of_decide_eq_true h2)))
    exact endS 3 (by kernel_rfl) (Nat.le_refl _) (by show AV.tup [.s (.str (rdS th m n)), .s (.int .i64 (rdE th n))] = _; rw [e1, e2]) rfl
  have h := of_decide_eq_false h
  have h2 := of_decide_eq_false h2
  have hin : inTh th n = true := inTh_iff.2 ⟨by omega, by omega⟩
  have hl := nowS_len hd hin
  have e1 : rdS th m n = bytesStr (nowS th m n) := by simp [rdS, hin]
  have e2 : rdE th n = 0 := by simp [rdE, hin]
  refine ⟨fun hh => ⟨by omega, by omega, by omega, by omega, ?_⟩, fun hh => ⟨by omega, by omega, ?_, by omega, by omega, by omega, by omega, ?_⟩⟩
  · rw [mget_has] at hh
    obtain ⟨v, hv⟩ := Option.isSome_iff_exists.1 hh
    have e3 : nowS th m n = v := by unfold nowS; rw [hv]
    rw [e3] at e1 hl
    refine endS (o := .tup [.s (.str (bytesStr (List.take 64 (List.drop 0 (((mget m n).getD (CK.arr .u8 64).d) : List Int))))), .s (.int .i64 0)]) 3 (by kernel_rfl) (Nat.le_refl _) ?_ rfl
    show AV.tup [.s (.str (rdS th m n)), .s (.int .i64 (rdE th n))] = _
    rw [e1, e2, hv, Option.getD_some, take_all hl]
  · rw [mget_has] at hh
    have hv : mget m n = none := by simpa using hh
    have e3 : nowS th m n = arrOf (th.getD n.toNat (CL.d cS)) := by simp [nowS, hv]
    rw [e3] at hl
    exact hl
  · rw [mget_has] at hh
    have hv : mget m n = none := by simpa using hh
    have e3 : nowS th m n = arrOf (th.getD n.toNat (CL.d cS)) := by simp [nowS, hv]
    rw [e3] at e1 hl
    refine endS (o := .tup [.s (.str (bytesStr (List.take 64 (List.drop 0 (arrOf (th.getD n.toNat (CL.d cS))))))), .s (.int .i64 0)]) 3 (by kernel_rfl) (Nat.le_refl _) ?_ rfl
    show AV.tup [.s (.str (rdS th m n)), .s (.int .i64 (rdE th n))] = _
    rw [e1, e2, take_all hl]
theorem write_ok {Z : Glob} : FnS P Z 66 sWr := by
  refine fnS_of_safe Try.func66 (by kernel_rfl) (fun x => Nat.le_of_ble_eq_true (by kernel_rfl)) ?_
  rintro ⟨(th : Th), (m : As), (fu : Int), (n : Int), (s : ByteArray)⟩ ⟨(hd : okD th m fu), _⟩ X hX hz
  obtain ⟨f1, f2⟩ := hd.f
  have fin : ∀ (e : Int) (m' : As) (fu' : Int), wrE th fu n s = e → wrM th m fu n s = m' → wrF th fu n s = fu' →
      (sWr.out (th, m, fu, n, s) = .s (.int .i64 e)) ∧ sWr.outH (th, m, fu, n, s) = hD th m' fu' := fun e m' fu' h1 h2 h3 =>
    ⟨by show AV.s (.int .i64 (wrE th fu n s)) = _; rw [h1], by show hD th (wrM th m fu n s) (wrF th fu n s) = _; rw [h2, h3]⟩
  have bad : inTh th n = false → wrE th fu n s = 5 ∧ wrM th m fu n s = m ∧ wrF th fu n s = fu := fun h => by simp [wrE, wrM, wrF, h]
  refine goS hz hX (by simp) Tab.Ok.nil Try.func66 (treeWrite th m fu n s) ⟨fun h => ?_, fun h => ⟨fun h2 => ?_, fun h2 => ⟨fun h3 => ?_, fun h3 => ⟨fun h4 => ?_, fun h4 => ⟨⟨by omega, by omega⟩, ?_, ?_, ?_, ?_⟩⟩⟩⟩⟩
  · obtain ⟨e1, e2, e3⟩ := bad (inTh_not.2 (.inl (of_decide_eq_true h)))
    exact endS 3 (by kernel_rfl) (Nat.le_refl _) (fin _ _ _ e1 e2 e3).1 (fin _ _ _ e1 e2 e3).2
  · obtain ⟨e1, e2, e3⟩ := bad (inTh_not.2 (.inr (of_decide_eq_true h2)))
    exact endS 3 (by kernel_rfl) (Nat.le_refl _) (fin _ _ _ e1 e2 e3).1 (fin _ _ _ e1 e2 e3).2
  all_goals
    have h := of_decide_eq_false h
    have h2 := of_decide_eq_false h2
    have hin : inTh th n = true := inTh_iff.2 ⟨by omega, by omega⟩
  · have h3 : s.size ≠ 64 := by intro e; rw [e] at h3; simp at h3
    have e1 : wrE th fu n s = 1 := by simp [wrE, hin, h3]
    exact endS 3 (by kernel_rfl) (Nat.le_refl _) (fin 1 m fu e1 (by simp [wrM, e1]) (by simp [wrF, h3])).1 (fin 1 m fu e1 (by simp [wrM, e1]) (by simp [wrF, h3])).2
  all_goals
    have h3 : s.size = 64 := by have : (s.size : Int) = 64 := by simpa using h3
                                omega
  · have h4 : fu = 0 := by simpa using h4
    have e1 : wrE th fu n s = 42 := by simp [wrE, hin, h3, h4]
    exact endS 3 (by kernel_rfl) (Nat.le_refl _) (fin 42 m fu e1 (by simp [wrM, e1]) (by simp [wrF, hin, h3, h4, burnF])).1 (fin 42 m fu e1 (by simp [wrM, e1]) (by simp [wrF, hin, h3, h4, burnF])).2
  · omega
  · rw [strInts_len]; omega
  · show (List.take 64 (strInts s)).length = 64
    rw [List.length_take, strInts_len]; omega
  · have h4 : fu ≠ 0 := by simpa using h4
    have e1 : wrE th fu n s = 0 := by simp [wrE, hin, h3, h4]
    have e2 : wrM th m fu n s = mput m n (List.take 64 (strInts s)) := by
      rw [List.take_of_length_le (by rw [strInts_len]; omega)]; simp [wrM, e1]
    have e3 : wrF th fu n s = imax (fu - 1) (-1) := by simp [wrF, hin, h3, burnF, h4]
    exact endS 3 (by kernel_rfl) (Nat.le_refl _) (fin _ _ _ e1 e2 e3).1 (fin _ _ _ e1 e2 e3).2
theorem dead_ok {Z : Glob} : FnS P Z 64 sDe := by
  refine fnS_of_safe Try.func64 (by kernel_rfl) (fun x => Nat.le_of_ble_eq_true (by kernel_rfl)) ?_
  rintro ⟨(th : Th), (m : As), (fu : Int)⟩ _ X hX hz
  exact goS hz hX (by simp) Tab.Ok.nil Try.func64 (treeDead th m fu) (endS 3 (by kernel_rfl) (Nat.le_refl _) rfl rfl)
theorem sectors_ok {Z : Glob} : FnS P Z 73 sSe := by
  refine fnS_of_safe Try.func73 (by kernel_rfl) (fun x => Nat.le_of_ble_eq_true (by kernel_rfl)) ?_
  rintro ⟨(th : Th), (m : As), (fu : Int)⟩ _ X hX hz
  exact goS hz hX (by simp) Tab.Ok.nil Try.func73 (treeSectors th m fu) (endS 3 (by kernel_rfl) (Nat.le_refl _) rfl rfl)
theorem fuse_ok {Z : Glob} : FnS P Z 69 sFu := by
  refine fnS_of_safe Try.func69 (by kernel_rfl) (fun x => Nat.le_of_ble_eq_true (by kernel_rfl)) ?_
  rintro ⟨(th : Th), (m : As), (fu : Int), (n : Int)⟩ _ X hX hz
  have fin : ∀ (e fu' : Int), fuE fu n = e → fuF fu n = fu' → (sFu.out (th, m, fu, n) = .s (.int .i64 e)) ∧ sFu.outH (th, m, fu, n) = hD th m fu' := fun e fu' h1 h3 =>
    ⟨by show AV.s (.int .i64 (fuE fu n)) = _; rw [h1], by show hD th m (fuF fu n) = _; rw [h3]⟩
  refine goS hz hX (by simp) Tab.Ok.nil Try.func69 (treeFuse th m fu n) ⟨fun h => ?_, fun h => ⟨fun h2 => ?_, fun h2 => ?_⟩⟩
  · have h := of_decide_eq_true h
    have f := fin 1 fu (by simp [fuE, h]) (by simp [fuF, h])
    exact endS 3 (by kernel_rfl) (Nat.le_refl _) f.1 f.2
  · have h := of_decide_eq_false h
    have h2 : fu = 0 := by simpa using h2
    have f := fin 42 fu (by simp [fuE, h, h2]) (by simp [fuF, h, h2])
    exact endS 3 (by kernel_rfl) (Nat.le_refl _) f.1 f.2
  · have h := of_decide_eq_false h
    have h2 : fu ≠ 0 := by simpa using h2
    have f := fin 0 n (by simp [fuE, h, h2]) (by simp [fuF, h, h2])
    exact endS 3 (by kernel_rfl) (Nat.le_refl _) f.1 f.2

/-! ### Flush -/
theorem mput_key {m : As} {n : Int} {v : kS.V} (p : Int × kS.V) : p ∈ mput m n v → p ∈ m ∨ p = (n, v) := by
  unfold mput
  split
  · intro h
    obtain ⟨q, hq, rfl⟩ := List.mem_map.1 h
    split
    · exact .inr rfl
    · exact .inl hq
  · intro h
    rcases List.mem_append.1 h with h | h
    · exact .inl h
    · exact .inr (List.mem_singleton.1 h)
theorem ovl_len (th : Th) (m : As) : (ovl th m).length = th.length := by simp [ovl]
theorem ovl_get {th : Th} {m : As} {i : Nat} (h : i < th.length) : arrOf ((ovl th m).getD i (CL.d cS)) = nowS th m (i : Int) := by
  rw [getD_lt (by rw [ovl_len]; exact h)]
  simp only [ovl, List.getElem_map, List.getElem_range]
  rfl
theorem th_ext {a b : Th} (h : a.length = b.length) (hg : ∀ i, i < a.length → arrOf (a.getD i (CL.d cS)) = arrOf (b.getD i (CL.d cS))) : a = b := by
  refine List.ext_getElem h fun i h1 h2 => ?_
  have := hg i h1
  rw [getD_lt h1, getD_lt h2] at this
  exact Prod.ext this rfl
theorem ovl_nil (th : Th) : ovl th [] = th := th_ext (ovl_len _ _) fun i hi => by
  rw [ovl_len] at hi
  rw [ovl_get hi]
  show arrOf (th.getD (i : Int).toNat (CL.d cS)) = _
  rw [Int.toNat_natCast]
theorem mget_none {m : As} {n : Int} (h : ∀ p ∈ m, p.1 ≠ n) : mget m n = none := by
  simp only [mget, Option.map_eq_none_iff, List.find?_eq_none, beq_iff_eq]
  exact h
theorem mget_of {m : As} (hk : (m.map (·.1)).Nodup) {p : Int × kS.V} (hp : p ∈ m) : mget m p.1 = some p.2 := by
  obtain ⟨j, hj⟩ := List.getElem?_of_mem hp
  simp only [mget, find_nodup hk hj, Option.map_some]
theorem erase_keys {m : As} (hk : (m.map (·.1)).Nodup) {j : Nat} (hj : j < m.length) : ((m.eraseIdx j).map (·.1)).Nodup ∧ (∀ p ∈ m.eraseIdx j, p ∈ m ∧ p.1 ≠ m[j].1) ∧ ∀ p ∈ m, p.1 ≠ m[j].1 → p ∈ m.eraseIdx j := by
  refine ⟨(List.Sublist.map _ (List.eraseIdx_sublist _ _)).nodup hk, fun p hp => ⟨List.mem_of_mem_eraseIdx hp, fun e => ?_⟩, fun p hp e => ?_⟩
  · obtain ⟨i, hi, hij⟩ := List.mem_eraseIdx_iff_getElem?.1 hp
    obtain ⟨hlt, rfl⟩ := List.getElem?_eq_some_iff.1 hij
    have := (List.getElem_inj (h₀ := by simpa using hlt) (h₁ := by simpa using hj) hk).1 (by simpa using e)
    exact hi this
  · obtain ⟨i, hi⟩ := List.getElem?_of_mem hp
    refine List.mem_eraseIdx_iff_getElem?.2 ⟨i, fun h => ?_, hi⟩
    subst h
    obtain ⟨_, rfl⟩ := List.getElem?_eq_some_iff.1 hi
    exact e rfl
theorem mget_erase {m : As} (hk : (m.map (·.1)).Nodup) {j : Nat} (hj : j < m.length) (n : Int) : mget (m.eraseIdx j) n = if n = m[j].1 then none else mget m n := by
  obtain ⟨k1, k2, k3⟩ := erase_keys hk hj
  split
  · rename_i e
    exact mget_none fun p hp => by rw [e]; exact (k2 p hp).2
  · rename_i e
    cases h : mget m n with
    | none =>
      refine mget_none fun p hp he => ?_
      have := mget_of hk (k2 p hp).1
      rw [he, h] at this
      cases this
    | some v =>
      have h1 := mget_mem h
      exact mget_of k1 (k3 _ h1 e)
theorem ovl_step {th : Th} {left : As} (hk : (left.map (·.1)).Nodup) {j : Nat} (hj : j < left.length) (h0 : 0 ≤ left[j].1) (h1 : left[j].1 < (th.length : Int)) :
    ovl (th.set left[j].1.toNat (toArr left[j].2)) (left.eraseIdx j) = ovl th left := by
  refine th_ext (by rw [ovl_len, ovl_len, List.length_set]) fun i hi => ?_
  rw [ovl_len, List.length_set] at hi
  rw [ovl_get (by rw [List.length_set]; exact hi), ovl_get hi]
  unfold nowS
  rw [mget_erase hk hj]
  by_cases e : (i : Int) = left[j].1
  · have hm := mget_of hk (List.getElem_mem hj)
    rw [if_pos e, e, hm]
    simp only []
    rw [arr_set_self (by omega)]
    rfl
  · rw [if_neg e]
    cases mget left (i : Int) with
    | some v => rfl
    | none =>
      simp only [Int.toNat_natCast]
      rw [arr_set_ne (by omega)]
theorem flush_ok {Z : Glob} : FnS P Z 65 sFl := by
  refine fnS_of_safe Try.func65 (by kernel_rfl) (fun x => Nat.le_of_ble_eq_true (by kernel_rfl)) ?_
  rintro ⟨(th : Th), (m : As), (fu : Int)⟩ ⟨(hd : okD th m fu), _⟩ X hX hz
  obtain ⟨f1, f2⟩ := hd.f
  have hns : ∀ x ∈ nsFl, (hD th m fu).length ≤ x.2.m := by intro y hy; simp [nsFl] at hy; rcases hy with rfl | rfl <;> exact Nat.le_refl _
  have fin : ∀ (e : Int) (th' : Th) (m' : As) (fu' : Int), flE fu = e → flT th m fu = th' → flM m fu = m' → burnF fu = fu' →
      (sFl.out (th, m, fu) = .s (.int .i64 e)) ∧ sFl.outH (th, m, fu) = hD th' m' fu' := fun e th' m' fu' h1 h2 h3 h4 =>
    ⟨by show AV.s (.int .i64 (flE fu)) = _; rw [h1], by show hD (flT th m fu) (flM m fu) (burnF fu) = _; rw [h2, h3, h4]⟩
  refine goS hz hX hns Tab.Ok.nil Try.func65 (treeFlush th m fu) ⟨fun h => ?_, fun h => ⟨⟨by omega, by omega⟩, ?_⟩⟩
  · have h : fu = 0 := by simpa using h
    have f := fin 42 th m 0 (by simp [flE, h]) (by simp [flT, h]) (by simp [flM, h]) (by simp [burnF, h])
    subst h
    exact endS 3 (by kernel_rfl) (Nat.le_refl _) f.1 f.2
  have h : fu ≠ 0 := by simpa using h
  generalize hfu : imax (fu - 1) (-1) = fu'
  have f := fin 0 (ovl th m) [] fu' (by simp [flE, h]) (by simp [flT, h]) (by simp [flM, h]) (by simp [burnF, h, hfu])
  have loop : ∀ (k : Nat) (th' : Th) (left : As) (cur : Option (Int × kS.V)), left.length = k → th'.length = th.length → ovl th' left = ovl th m → (left.map (·.1)).Nodup → (∀ p ∈ left, 0 ≤ p.1 ∧ p.1 < (th.length : Int)) →
      Safe P 65 X (EndS sFl (th, m, fu)) (cF7 th' m left cur fu') := by
    intro k
    induction k with
    | zero =>
      intro th' left cur hl hlen hov hk hr
      obtain rfl := List.eq_nil_of_length_eq_zero hl
      refine goS hz hX hns Tab.Ok.nil Try.func65 (treeF7 th' m [] cur fu') ?_
      refine next_safe (x := 17) (d := 18) (by kernel_rfl) (by kernel_rfl) (id := 3) (mid := 2) (gid := 4) (ck := kS) (ck' := kS) rfl rfl rfl rfl (fun _ => ?_) (fun j hj => absurd hj (Nat.not_lt_zero _))
      refine goS hz hX hns Tab.Ok.nil Try.func65 (treeF7o th' m fu') ?_
      rw [ovl_nil] at hov
      subst hov
      exact endS 3 (by kernel_rfl) (Nat.le_refl _) f.1 f.2
    | succ k ih =>
      intro th' left cur hl hlen hov hk hr
      refine goS hz hX hns Tab.Ok.nil Try.func65 (treeF7 th' m left cur fu') ?_
      refine next_safe (x := 17) (d := 18) (by kernel_rfl) (by kernel_rfl) (id := 3) (mid := 2) (gid := 4) (ck := kS) (ck' := kS) rfl rfl rfl rfl (fun h0 => ?_) (fun j hj => ?_)
      · subst h0; simp at hl
      · have hgj : left.getD j (0, kS.d) = left[j] := getD_lt hj
        obtain ⟨r1, r2⟩ := hr _ (List.getElem_mem hj)
        obtain ⟨k1, k2, _⟩ := erase_keys hk hj
        refine goS hz hX hns Tab.Ok.nil Try.func65 (treeF7e th' m (left.eraseIdx j) (left.getD j (0, kS.d)) fu') ⟨by rw [hgj]; exact r1, by rw [hgj, hlen]; exact r2, ?_⟩
        have := ih (th'.set left[j].1.toNat (toArr left[j].2)) (left.eraseIdx j) (some left[j]) (by rw [List.length_eraseIdx, if_pos hj]; omega) (by rw [List.length_set]; exact hlen) (by rw [ovl_step hk hj r1 (by rw [hlen]; exact r2)]; exact hov) k1
          (fun p hp => hr p (k2 p hp).1)
        rw [hgj]
        exact this
  refine goS hz hX hns Tab.Ok.nil Try.func65 (treeF6 th m fu') ?_
  refine range_safe (t := 143) (x := 16) (d := 17) (by kernel_rfl) (by kernel_rfl) (by kernel_rfl) (id := 2) (ck := kS) rfl rfl ?_
  refine goS hz hX hns Tab.Ok.nil Try.func65 (treeF6b th m fu') ?_
  exact loop m.length th m none rfl rfl rfl hd.m.1 fun p hp => ⟨(hd.m.2 p hp).1, (hd.m.2 p hp).2.1⟩
end Ds

namespace Go.Proofs
open Go.RowKit Go.Maps Go.Sort Go.Shelf
def Try.sortA_ren : Go.Shelf.Ren := ⟨fun | 5 => 130 | 8 => 137 | 7 => 136 | 19 => 148 | 20 => 149 | 10 => 139 | 11 => 140 | 12 => 141 | 13 => 142 | 14 => 143 | 15 => 144 | 16 => 145 | 17 => 146 | 18 => 147 | 30 => 150 | 31 => 151 | 32 => 152 | 33 => 153 | 34 => 154 | 35 => 155 | 40 => 156 | n => n, fun | 23 => 96 | 25 => 3 | 3 => 3 | 32 => 100 | 22 => 96 | 0 => 0 | 44 => 207 | 46 => 148 | 4 => 4 | 36 => 201 | 35 => 200 | 41 => 138 | 5 => 5 | 9 => 9 | 53 => 209 | 57 => 213 | 63 => 215 | 64 => 216 | n => n, fun | n => n⟩
theorem Try.sortA : Go.Proofs.SlLaysM.n5 Try.prog Try.sortA_ren := {
  mixed := by kernel_rfl
  f5 := ⟨Try.f130.name, by decide, Try.func130.trans (congrArg some (by kernel_rfl))⟩
  f7 := ⟨Try.f136.name, by decide, Try.func136.trans (congrArg some (by kernel_rfl))⟩
  f8 := Try.func137.trans (congrArg some (by kernel_rfl))
  f10 := ⟨Try.f139.name, by decide, Try.func139.trans (congrArg some (by kernel_rfl))⟩
  f11 := ⟨Try.f140.name, by decide, Try.func140.trans (congrArg some (by kernel_rfl))⟩
  f12 := ⟨Try.f141.name, by decide, Try.func141.trans (congrArg some (by kernel_rfl))⟩
  f13 := ⟨Try.f142.name, by decide, Try.func142.trans (congrArg some (by kernel_rfl))⟩
  f14 := ⟨Try.f143.name, by decide, Try.func143.trans (congrArg some (by kernel_rfl))⟩
  f15 := ⟨Try.f144.name, by decide, Try.func144.trans (congrArg some (by kernel_rfl))⟩
  f16 := ⟨Try.f145.name, by decide, Try.func145.trans (congrArg some (by kernel_rfl))⟩
  f17 := ⟨Try.f146.name, by decide, Try.func146.trans (congrArg some (by kernel_rfl))⟩
  f18 := ⟨Try.f147.name, by decide, Try.func147.trans (congrArg some (by kernel_rfl))⟩
  f19 := Try.func148.trans (congrArg some (by kernel_rfl))
  f20 := Try.func149.trans (congrArg some (by kernel_rfl))
  f30 := ⟨Try.f150.name, by decide, Try.func150.trans (congrArg some (by kernel_rfl))⟩
  f31 := Try.func151.trans (congrArg some (by kernel_rfl))
  f32 := Try.func152.trans (congrArg some (by kernel_rfl))
  f33 := ⟨Try.f153.name, by decide, Try.func153.trans (congrArg some (by kernel_rfl))⟩
  f34 := ⟨Try.f154.name, by decide, Try.func154.trans (congrArg some (by kernel_rfl))⟩
  f35 := ⟨Try.f155.name, by decide, Try.func155.trans (congrArg some (by kernel_rfl))⟩
  f40 := ⟨Try.f156.name, by decide, Try.func156.trans (congrArg some (by kernel_rfl))⟩
  t0 := Try.underlying0
  a0 := Try.isAgg0
  z0 := Try.sizeOf0
  v0 := Try.zeroValue0
  t3 := Try.underlying3
  a3 := Try.isAgg3
  z3 := Try.sizeOf3
  v3 := Try.zeroValue3
  t4 := Try.underlying4
  a4 := Try.isAgg4
  z4 := Try.sizeOf4
  v4 := Try.zeroValue4
  t5 := Try.underlying5
  a5 := Try.isAgg5
  z5 := Try.sizeOf5
  v5 := Try.zeroValue5
  t9 := Try.underlying9
  a9 := Try.isAgg9
  z9 := Try.sizeOf9
  v9 := Try.zeroValue9
  t22 := Try.underlying96
  a22 := Try.isAgg96
  z22 := Try.sizeOf96
  v22 := Try.zeroValue96
  t23 := Try.underlying96
  a23 := Try.isAgg96
  z23 := Try.sizeOf96
  v23 := Try.zeroValue96
  t25 := Try.underlying3
  a25 := Try.isAgg3
  z25 := Try.sizeOf3
  v25 := Try.zeroValue3
  t32 := Try.underlying100
  a32 := Try.isAgg100
  z32 := Try.sizeOf100
  v32 := Try.zeroValue100
  t35 := Try.underlying200
  a35 := Try.isAgg200
  z35 := Try.sizeOf200
  v35 := Try.zeroValue200
  t36 := Try.underlying201
  a36 := Try.isAgg201
  z36 := Try.sizeOf201
  v36 := Try.zeroValue201
  t41 := Try.underlying138
  a41 := Try.isAgg138
  z41 := Try.sizeOf138
  v41 := Try.zeroValue138
  t44 := Try.underlying207
  a44 := Try.isAgg207
  z44 := Try.sizeOf207
  v44 := Try.zeroValue207
  t46 := Try.underlying148
  a46 := Try.isAgg148
  z46 := Try.sizeOf148
  v46 := Try.zeroValue148
  t53 := Try.underlying209
  a53 := Try.isAgg209
  z53 := Try.sizeOf209
  v53 := Try.zeroValue209
  t57 := Try.underlying213
  a57 := Try.isAgg213
  z57 := Try.sizeOf213
  v57 := Try.zeroValue213
  t63 := Try.underlying215
  a63 := Try.isAgg215
  z63 := Try.sizeOf215
  v63 := Try.zeroValue215
  t64 := Try.underlying216
  a64 := Try.isAgg216
  z64 := Try.sizeOf216
  v64 := Try.zeroValue216 }


end Go.Proofs
namespace Ds
open Go Go.Sx Go.Proofs Lf
section
variable {ρ : Nat → Value} {H H' : AHeap} {G : Nat → Prop} {w w1 w2 : World}
/-- More blocks, that nobody owns. -/
theorem good_grow {r : AV} {v : Value} (h : Good ρ H G w H' r v w1) (os : Array Obj) (hh : w2.heap = w1.heap ++ os) (ht : w2.tape = w1.tape) (ho : w2.os = w1.os) (hu : w2.output = w1.output) : Good ρ H G w H' r v w2 := by
  obtain ⟨ρ', s, d, t, f⟩ := h
  have hsz : w1.heap.size ≤ w2.heap.size := by rw [hh, Array.size_append]; omega
  have hold : ∀ i, i < w1.heap.size → w2.heap[i]? = w1.heap[i]? := fun i hi => by rw [hh, Array.getElem?_append_left hi]
  have st : Step ρ' H' (Hot ρ' H' G) w1 ρ' H' (Hot ρ' H' G) w2 :=
    ⟨fun _ _ _ => rfl, fun _ o ho => ⟨o, ho, fun c' e' e => ⟨c', e', e, rfl, rfl⟩⟩, fun b hb => .inl hb, fun b hb _ => hold b hb, hsz⟩
  exact ⟨ρ', ⟨fun j x hx => (s.obj j x hx).step st (fun b ha hb => hold b (own_lt s ⟨j, x, hx, ha, hb⟩)), s.inj, s.apart, fun b hb => Nat.lt_of_lt_of_le (s.low b hb) hsz⟩, DenV.step st _ _ d, t.trans st,
    ⟨ho.trans f.os, ht.trans f.tape, hu.trans f.output, fun b hb hO => by rw [hold b (Nat.lt_of_lt_of_le hb t.size), f.heap b hb hO]⟩⟩
end
def srtZ (zs : List Int) : List Int := zs.mergeSort fun x y => decide (x ≤ y)
abbrev sSort : Spec (List Int) := ⟨fun _ => [.vec 0], fun zs => [.vec (.ints .i64 zs) 3], fun zs => [zs.length ≤ 1000000], fun zs => [.vec (.ints .i64 (srtZ zs)) 3], fun _ => .tup []⟩
theorem srtZ_len (zs : List Int) : (srtZ zs).length = zs.length := List.length_mergeSort _
theorem sort_ok {Z : Glob} : FnS P Z 130 sSort := by
  rintro (zs : List Int) ⟨(hl : zs.length ≤ 1000000), _⟩ ρ G w vs hz hs hd
  obtain ⟨v, rest, rfl, hv, h0⟩ := DenL_cons.1 hd
  obtain rfl := DenL_nil.1 h0
  obtain ⟨a, cap, rfl, hroot, hle, hmax⟩ := vec_val hs (show lk [.vec (.ints .i64 zs) 3] 0 = some _ from rfl) hv
  have hobj := hs.obj 0 _ (show lk [.vec (.ints .i64 zs) 3] 0 = some _ from rfl)
  rw [hroot] at hobj
  obtain ⟨a2, cap2, g1, g2, g3, g4⟩ := hobj
  cases g1
  have hn : (Con.ints .i64 zs).n = zs.length := rfl
  have hH : lk (sSort.outH zs) = updH (lk [.vec (.ints .i64 zs) 3]) 0 (.vec (.ints .i64 (srtZ zs)) 3) := by
    funext j
    cases j with
    | zero => rfl
    | succ j => rfl
  by_cases hc0 : cap = 0
  · have hz0 : zs = [] := List.eq_nil_of_length_eq_zero (by rw [hn] at g2; omega)
    subst hz0
    refine (AnyM.slices_Sort_int_none Try.sortA a cap w).mono ?_
    rintro e w' ⟨rfl, rfl⟩
    have e0 : srtZ [] = [] := by simp [srtZ]
    refine ⟨_, rfl, ?_⟩
    show Sx.Good ρ (lk [.vec (.ints .i64 []) 3]) G w' (lk [.vec (.ints .i64 (srtZ [])) 3]) (.tup []) undef w'
    rw [e0]
    exact Good.val hs den_undef
  · obtain ⟨b, o, cells, fr, us, rfl, g5, g6, g7, g8⟩ := g4.resolve_left hc0
    have hcell : ∀ j, j < zs.length → cells[o + j]? = some (Value.int .i64 (zs.getD j 0)) := fun j hj => by
      obtain ⟨k1, k2⟩ := g8 j 0 hj Nat.one_pos
      simp only [Con.size, Nat.mul_one, Nat.add_zero, Con.cell] at k1 k2
      rw [k1]
      generalize us j 0 = u at k2 ⊢
      cases k2
      rfl
    have hroom : o + zs.length ≤ cells.length := by
      simp only [Con.size, Nat.mul_one] at g7
      rw [hn] at g2
      omega
    have hholds : Sort.Holds (Value.int .i64) w b o zs.toArray := fun j hj => by
      have hj : j < zs.length := by simpa using hj
      refine ⟨?_, unm_frozen g5 (by simpa using g6.unm) (by simp; omega)⟩
      rw [cell_of_blk g5, hcell j hj]
      simp [getD_lt hj, hj]
    refine (AnyM.slices_Sort_int Try.sortA b o cap zs w hholds (Array.getElem?_eq_some_iff.1 g5).1 (by omega)).mono ?_
    rintro e w' ⟨rfl, n, os, rfl⟩
    refine ⟨_, rfl, ?_⟩
    rw [hH]
    have hput : (Sort.putCells (Value.int .i64) o (srtZ zs).toArray cells.toArray).toList.toArray = Sort.putCells (Value.int .i64) o (srtZ zs).toArray cells.toArray := by simp
    have hheap : (Sort.putRow (Value.int .i64) (Sort.ahead w n) b o (srtZ zs).toArray).heap = (World.setBlk w b (.cells (Sort.putCells (Value.int .i64) o (srtZ zs).toArray cells.toArray).toList.toArray 3 fr)).heap := by
      rw [hput]
      show w.heap.modify b _ = w.heap.setIfInBounds b _
      apply Array.ext_getElem?
      intro i
      rw [Array.getElem?_modify, Array.getElem?_setIfInBounds]
      by_cases hi : b = i
      · subst hi
        have hlt := (Array.getElem?_eq_some_iff.1 g5).1
        rw [if_pos rfl, if_pos rfl, if_pos hlt, g5]
        rfl
      · rw [if_neg hi, if_neg hi]
    have hbk : blk (ρ 0) = some b := by
      rw [hroot]
      simp only [blk]
      rw [if_neg hc0]
    refine good_grow (w1 := World.setBlk w b (.cells (Sort.putCells (Value.int .i64) o (srtZ zs).toArray cells.toArray).toList.toArray 3 fr)) (Good.write hs (show lk [.vec (.ints .i64 zs) 3] 0 = some _ from rfl) rfl rfl hbk (fun c' e' hc => by cases hc; exact ⟨_, _, rfl, srtZ_len zs, rfl⟩) ?_ den_undef) os (by rw [← hheap]; rfl) rfl rfl rfl
    refine ⟨some ⟨b, o, none⟩, cap, by rw [hroot]; show Value.slice _ zs.length cap = .slice _ (srtZ zs).length cap; rw [srtZ_len], by show (srtZ zs).length ≤ cap; rw [srtZ_len]; exact g2, g3, .inr ⟨b, o, _, fr, fun i _ => .int .i64 ((srtZ zs).getD i 0), rfl, setBlk_get g5, ?_, ?_, ?_⟩⟩
    · refine ⟨fun off ho => g6.1 off (by simpa [Sort.putCells] using ho), fun u hu => ?_⟩
      simp only [Sort.putCells, List.mem_iff_getElem?, Array.toList_mapIdx, List.getElem?_mapIdx] at hu
      obtain ⟨k, hk⟩ := hu
      rw [Option.map_eq_some_iff] at hk
      obtain ⟨x, hx, rfl⟩ := hk
      split
      · rfl
      · exact g6.2 _ (List.mem_of_getElem? hx)
    · show o + cap * 1 ≤ _
      simp only [Sort.putCells, Array.length_toList, Array.size_mapIdx, List.size_toArray]
      exact g7
    · intro i j hi hj
      have hi : i < zs.length := by have hi : i < (srtZ zs).length := hi; rwa [srtZ_len] at hi
      simp only [Con.size] at hj
      obtain rfl : j = 0 := by omega
      refine ⟨?_, .int _ _⟩
      have hlt : o + i < cells.length := by omega
      have hi2 : i < (srtZ zs).length := by rw [srtZ_len]; exact hi
      simp [Sort.putCells, Con.size, hlt, srtZ_len, hi, getD_lt hi2, hi2]
end Ds

namespace Ds
open Go Go.Sx Go.Proofs Lf
def mSort : List AV → RM (List Int × List Nat)
  | [.vec id] => .look id fun o => match o with
    | some (.vec (.ints .i64 zs) _) => .ret (zs, [id])
    | _ => .fail "no row"
  | _ => .fail "no row"
abbrev sumSort := sumS sSort mSort
abbrev inA : List FuncId := [111, 110, 129, 135, 131]
def tabAs : Tab := [(130, sumSort)]
abbrev fK : FuncId := 131
def kK (i : Nat) : Nat := (fK + 1) * 100000 + i
def nsAs : List (Nat × Norm) := [(kK 0, ⟨[], [0, 1, 16, 27, 28], 3, []⟩), (kK 1, ⟨[], [0, 5, 16, 27, 28], 3, [(5, 0, false, .ints .i64 [], 3)]⟩)]
noncomputable abbrev frA : List FrD := [inRange Try.f135 (some 135) 3 1, inCall Try.f129 (some 129) 1 1 false 0, inCall Try.f110 (some 110) 1 1 false 0, inCall Try.f61 none 3 5 false 0]
noncomputable def cA0 (th : Th) (m : As) (fu : Int) : Cfg := ⟨sl 54 [(0, .tag 3), (1, .ptr 4 0), (16, .ptr 5 0), (27, .tag 6), (28, .tag 3)], [obD 1 2 fu, .vec (.typ cS th) eS, .map kS m, .dead, .own [.mapv 2] 143, .own [.emp] 96, .dead], hr Try.f131 0, ⟨some fK, false, 0, frA, 0⟩⟩
noncomputable def cA0b (th : Th) (m : As) (fu : Int) : Cfg := ⟨sl 54 [(0, .tag 3), (1, .ptr 4 0), (4, .mapv 2), (5, .ptr 8 0), (16, .ptr 5 0), (27, .tag 6), (28, .tag 3)], [obD 1 2 fu, .vec (.typ cS th) eS, .mapb kS m 7, .dead, .own [.mapv 2] 143, .own [.emp] 96, .dead, .dead, .iter 2 7 kS m none],
  cal Try.f131 0 2, ⟨some fK, false, 0, frA, 0⟩⟩
noncomputable def cA1 (th : Th) (m left : As) (cur : Option (Int × kS.V)) (zs : List Int) (fu : Int) : Cfg := ⟨sl 54 [(0, .tag 3), (5, .ptr 4 0), (16, .ptr 5 0), (27, .tag 6), (28, .tag 3)], [obD 1 2 fu, .vec (.typ cS th) eS, .mapb kS m 7, .dead, .iter 2 7 kS left cur, .own [.vec 8] 96, .dead, .dead, .vec (.ints .i64 zs) 3],
  hd Try.f131 1, ⟨some fK, false, 0, frA, 0⟩⟩
noncomputable def cA1o (th : Th) (m : As) (zs : List Int) (fu : Int) : Cfg := ⟨sl 54 [(0, .tag 3), (5, .ptr 4 0), (6, .tup [.s (.blit false)]), (16, .ptr 5 0), (27, .tag 6), (28, .tag 3)], [obD 1 2 fu, .vec (.typ cS th) eS, .map kS m, .dead, .dead, .own [.vec 8] 96, .dead, .dead, .vec (.ints .i64 zs) 3],
  cal Try.f131 1 1, ⟨some fK, false, 0, frA, 1⟩⟩
noncomputable def cA1e (th : Th) (m left : As) (p : Int × kS.V) (zs : List Int) (fu : Int) : Cfg := ⟨sl 54 [(0, .tag 3), (5, .ptr 4 0), (6, .tup [.s (.blit true), .s (.int .i64 p.1), kS.av p.2]), (16, .ptr 5 0), (27, .tag 6), (28, .tag 3)], [obD 1 2 fu, .vec (.typ cS th) eS, .mapb kS m 7, .dead, .iter 2 7 kS left (some p), .own [.vec 8] 96, .dead, .dead, .vec (.ints .i64 zs) 3],
  cal Try.f131 1 1, ⟨some fK, false, 0, frA, 1⟩⟩
theorem treeAside (th : Th) (m : As) (fu : Int) : run P tabAs.sum Try.f61 nsAs (start Try.f61 [.ptr 0 0] (hD th m fu)) inA =
  Tree.at (Cfg.mk (sl (54 : Nat) [((0 : Nat), AV.tag (3 : Nat)), ((1 : Nat), AV.ptr (4 : Nat) (0 : Nat)), ((16 : Nat), AV.ptr (5 : Nat) (0 : Nat)), ((27 : Nat), AV.tag (6 : Nat)), ((28 : Nat), AV.tag (3 : Nat))]) [AObj.own [AV.vec (1 : Nat), AV.mapv (2 : Nat), AV.s (SV.int IntKind.i64 fu)] (145 : Nat), AObj.vec (Con.typ [CK.arr IntKind.u8 (64 : Nat)] th) (169 : Nat), AObj.map (CK.arr IntKind.u8 (64 : Nat)) m, AObj.dead, AObj.own [AV.mapv (2 : Nat)] (143 : Nat), AObj.own [AV.emp] (96 : Nat), AObj.dead] (hr Try.f131 (0 : Nat)) (Stk.mk (some (131 : Nat)) false (0 : Nat) [inRange Try.f135 (some (135 : Nat)) (3 : Nat) (1 : Nat), inCall Try.f129 (some (129 : Nat)) (1 : Nat) (1 : Nat) false (0 : Nat), inCall Try.f110 (some (110 : Nat)) (1 : Nat) (1 : Nat) false (0 : Nat), inCall Try.f61 none (3 : Nat) (5 : Nat) false (0 : Nat)] (0 : Nat))) := by kernel_rfl
theorem treeA0 (th : Th) (m : As) (fu : Int) : run P tabAs.sum Try.f61 nsAs (cA0 th m fu) inA =
  Tree.at (Cfg.mk (sl (54 : Nat) [((0 : Nat), AV.tag (3 : Nat)), ((1 : Nat), AV.ptr (4 : Nat) (0 : Nat)), ((4 : Nat), AV.mapv (2 : Nat)), ((16 : Nat), AV.ptr (5 : Nat) (0 : Nat)), ((27 : Nat), AV.tag (6 : Nat)), ((28 : Nat), AV.tag (3 : Nat))]) [AObj.own [AV.vec (1 : Nat), AV.mapv (2 : Nat), AV.s (SV.int IntKind.i64 fu)] (145 : Nat), AObj.vec (Con.typ [CK.arr IntKind.u8 (64 : Nat)] th) (169 : Nat), AObj.map (CK.arr IntKind.u8 (64 : Nat)) m, AObj.dead, AObj.own [AV.mapv (2 : Nat)] (143 : Nat), AObj.own [AV.emp] (96 : Nat), AObj.dead] (cal Try.f131 (0 : Nat) (1 : Nat)) (Stk.mk (some (131 : Nat)) false (0 : Nat) [inRange Try.f135 (some (135 : Nat)) (3 : Nat) (1 : Nat), inCall Try.f129 (some (129 : Nat)) (1 : Nat) (1 : Nat) false (0 : Nat), inCall Try.f110 (some (110 : Nat)) (1 : Nat) (1 : Nat) false (0 : Nat), inCall Try.f61 none (3 : Nat) (5 : Nat) false (0 : Nat)] (0 : Nat))) := by kernel_rfl
theorem treeA0b (th : Th) (m : As) (fu : Int) : run P tabAs.sum Try.f61 nsAs (cA0b th m fu) inA =
  Tree.at (Cfg.mk (sl (54 : Nat) [((0 : Nat), AV.tag (3 : Nat)), ((5 : Nat), AV.ptr (4 : Nat) (0 : Nat)), ((16 : Nat), AV.ptr (5 : Nat) (0 : Nat)), ((27 : Nat), AV.tag (6 : Nat)), ((28 : Nat), AV.tag (3 : Nat))]) [AObj.own [AV.vec (1 : Nat), AV.mapv (2 : Nat), AV.s (SV.int IntKind.i64 fu)] (145 : Nat), AObj.vec (Con.typ [CK.arr IntKind.u8 (64 : Nat)] th) (169 : Nat), AObj.mapb (CK.arr IntKind.u8 (64 : Nat)) m (7 : Nat), AObj.dead, AObj.iter (2 : Nat) (7 : Nat) (CK.arr IntKind.u8 (64 : Nat)) m none, AObj.own [AV.vec (8 : Nat)] (96 : Nat), AObj.dead, AObj.dead, AObj.vec (Con.ints IntKind.i64 []) (3 : Nat)] (hd Try.f131 (1 : Nat)) (Stk.mk (some (131 : Nat)) false (0 : Nat) [inRange Try.f135 (some (135 : Nat)) (3 : Nat) (1 : Nat), inCall Try.f129 (some (129 : Nat)) (1 : Nat) (1 : Nat) false (0 : Nat), inCall Try.f110 (some (110 : Nat)) (1 : Nat) (1 : Nat) false (0 : Nat), inCall Try.f61 none (3 : Nat) (5 : Nat) false (0 : Nat)] (0 : Nat))) := by kernel_rfl
theorem treeA1 (th : Th) (m left : As) (cur : Option (Int × kS.V)) (zs : List Int) (fu : Int) : run P tabAs.sum Try.f61 nsAs (cA1 th m left cur zs fu) inA =
  Tree.at (Cfg.mk (sl (54 : Nat) [((0 : Nat), AV.tag (3 : Nat)), ((5 : Nat), AV.ptr (4 : Nat) (0 : Nat)), ((16 : Nat), AV.ptr (5 : Nat) (0 : Nat)), ((27 : Nat), AV.tag (6 : Nat)), ((28 : Nat), AV.tag (3 : Nat))]) [AObj.own [AV.vec (1 : Nat), AV.mapv (2 : Nat), AV.s (SV.int IntKind.i64 fu)] (145 : Nat), AObj.vec (Con.typ [CK.arr IntKind.u8 (64 : Nat)] th) (169 : Nat), AObj.mapb (CK.arr IntKind.u8 (64 : Nat)) m (7 : Nat), AObj.dead, AObj.iter (2 : Nat) (7 : Nat) (CK.arr IntKind.u8 (64 : Nat)) left cur, AObj.own [AV.vec (8 : Nat)] (96 : Nat), AObj.dead, AObj.dead, AObj.vec (Con.ints IntKind.i64 zs) (3 : Nat)] (cal Try.f131 (1 : Nat) (0 : Nat)) (Stk.mk (some (131 : Nat)) false (0 : Nat) [inRange Try.f135 (some (135 : Nat)) (3 : Nat) (1 : Nat), inCall Try.f129 (some (129 : Nat)) (1 : Nat) (1 : Nat) false (0 : Nat), inCall Try.f110 (some (110 : Nat)) (1 : Nat) (1 : Nat) false (0 : Nat), inCall Try.f61 none (3 : Nat) (5 : Nat) false (0 : Nat)] (1 : Nat))) := by kernel_rfl
theorem treeA1o (th : Th) (m : As) (zs : List Int) (fu : Int) : run P tabAs.sum Try.f61 nsAs (cA1o th m zs fu) inA =
  Tree.need (@Slf (Option (List AV)) (some [AV.vec (0 : Nat)])) (Tree.need (@Slf (Option (List AObj)) (some [AObj.vec (Con.ints IntKind.i64 zs) (3 : Nat)])) (Tree.need (zs.length ≤ (1000000 : Nat)) (Tree.ret [AObj.own [AV.vec (1 : Nat), AV.mapv (2 : Nat), AV.s (SV.int IntKind.i64 fu)] (145 : Nat), AObj.vec (Con.typ [CK.arr IntKind.u8 (64 : Nat)] th) (169 : Nat), AObj.map (CK.arr IntKind.u8 (64 : Nat)) m, AObj.dead, AObj.dead, AObj.own [AV.vec (8 : Nat)] (96 : Nat), AObj.dead, AObj.dead, AObj.vec (Con.ints IntKind.i64 (srtZ zs)) (3 : Nat)] (AV.vec (8 : Nat))))) := by kernel_rfl
theorem treeA1e (th : Th) (m left : As) (p : Int × kS.V) (zs : List Int) (fu : Int) : run P tabAs.sum Try.f61 nsAs (cA1e th m left p zs fu) inA =
  Tree.need (zs.length + (1 : Nat) ≤ (4294967296 : Nat)) (Tree.at (Cfg.mk (sl (54 : Nat) [((0 : Nat), AV.tag (3 : Nat)), ((5 : Nat), AV.ptr (4 : Nat) (0 : Nat)), ((16 : Nat), AV.ptr (5 : Nat) (0 : Nat)), ((27 : Nat), AV.tag (6 : Nat)), ((28 : Nat), AV.tag (3 : Nat))]) [AObj.own [AV.vec (1 : Nat), AV.mapv (2 : Nat), AV.s (SV.int IntKind.i64 fu)] (145 : Nat), AObj.vec (Con.typ [CK.arr IntKind.u8 (64 : Nat)] th) (169 : Nat), AObj.mapb (CK.arr IntKind.u8 (64 : Nat)) m (7 : Nat), AObj.dead, AObj.iter (2 : Nat) (7 : Nat) (CK.arr IntKind.u8 (64 : Nat)) left (some p), AObj.own [AV.vec (8 : Nat)] (96 : Nat), AObj.dead, AObj.dead, AObj.vec (Con.ints IntKind.i64 (zs ++ [p.fst])) (3 : Nat)] (hd Try.f131 (1 : Nat)) (Stk.mk (some (131 : Nat)) false (0 : Nat) [inRange Try.f135 (some (135 : Nat)) (3 : Nat) (1 : Nat), inCall Try.f129 (some (129 : Nat)) (1 : Nat) (1 : Nat) false (0 : Nat), inCall Try.f110 (some (110 : Nat)) (1 : Nat) (1 : Nat) false (0 : Nat), inCall Try.f61 none (3 : Nat) (5 : Nat) false (0 : Nat)] (0 : Nat)))) := by kernel_rfl
def insZ (x : Int) : List Int → List Int
  | [] => [x]
  | y :: l => bif decide (x ≤ y) then x :: y :: l else y :: insZ x l
def srtI : List Int → List Int
  | [] => []
  | x :: l => insZ x (srtI l)
def asK (m : As) : List Int := srtI (m.map (·.1))
abbrev sAs : Spec (Th × As × Int) := ⟨fun _ => [.ptr 0 0], fun (th, m, fu) => hD th m fu, fun (th, m, fu) => [okD th m fu], fun (th, m, fu) => hD th m fu ++ [.vec (.ints .i64 (asK m)) 3], fun _ => .vec 3⟩
theorem sorted_eq : ∀ {a b : List Int}, a.Pairwise (fun x y => decide (x ≤ y) = true) → b.Pairwise (fun x y => decide (x ≤ y) = true) → a.Perm b → a = b
  | [], b, _, _, h => (List.Perm.nil_eq h)
  | x :: a, [], _, _, h => absurd (List.Perm.length_eq h) (by simp)
  | x :: a, y :: b, ha, hb, h => by
    have hx : x = y := by
      have h1 : x ∈ y :: b := h.mem_iff.1 List.mem_cons_self
      have h2 : y ∈ x :: a := h.mem_iff.2 List.mem_cons_self
      rcases List.mem_cons.1 h1 with e | e
      · exact e
      · rcases List.mem_cons.1 h2 with e2 | e2
        · exact e2.symm
        · have g1 := of_decide_eq_true ((List.pairwise_cons.1 hb).1 x e)
          have g2 := of_decide_eq_true ((List.pairwise_cons.1 ha).1 y e2)
          omega
    subst hx
    rw [sorted_eq (List.pairwise_cons.1 ha).2 (List.pairwise_cons.1 hb).2 (List.Perm.cons_inv h)]
theorem srtZ_sorted (zs : List Int) : (srtZ zs).Pairwise (fun x y => decide (x ≤ y) = true) :=
  List.pairwise_mergeSort (fun a b c h1 h2 => by simp at *; omega) (fun a b => by simp; omega) zs
theorem srtZ_perm (zs : List Int) : (srtZ zs).Perm zs := List.mergeSort_perm _ _
theorem srtZ_of {a b : List Int} (h : a.Perm b) : srtZ a = srtZ b := sorted_eq (srtZ_sorted a) (srtZ_sorted b) ((srtZ_perm a).trans (h.trans (srtZ_perm b).symm))
theorem insZ_perm (x : Int) : ∀ l, (insZ x l).Perm (x :: l)
  | [] => List.Perm.refl _
  | y :: l => by
    unfold insZ
    cases decide (x ≤ y)
    · exact (List.Perm.cons y (insZ_perm x l)).trans (List.Perm.swap _ _ _)
    · exact List.Perm.refl _
theorem insZ_sorted (x : Int) : ∀ l : List Int, l.Pairwise (fun x y => decide (x ≤ y) = true) → (insZ x l).Pairwise (fun x y => decide (x ≤ y) = true)
  | [], _ => by simp [insZ]
  | y :: l, h => by
    obtain ⟨h1, h2⟩ := List.pairwise_cons.1 h
    unfold insZ
    cases hxy : decide (x ≤ y)
    · have hyx : y ≤ x := by have := of_decide_eq_false hxy; omega
      refine List.pairwise_cons.2 ⟨fun z hz => ?_, insZ_sorted x l h2⟩
      rcases List.mem_cons.1 ((insZ_perm x l).mem_iff.1 hz) with rfl | hz
      · exact decide_eq_true hyx
      · exact h1 z hz
    · refine List.pairwise_cons.2 ⟨fun z hz => ?_, h⟩
      rcases List.mem_cons.1 hz with rfl | hz
      · exact hxy
      · have := of_decide_eq_true hxy
        have := of_decide_eq_true (h1 z hz)
        exact decide_eq_true (by omega)
theorem srtI_eq (l : List Int) : srtI l = srtZ l := by
  have hp : (srtI l).Perm l ∧ (srtI l).Pairwise (fun x y => decide (x ≤ y) = true) := by
    induction l with
    | nil => exact ⟨List.Perm.refl _, List.Pairwise.nil⟩
    | cons x l ih => exact ⟨(insZ_perm x _).trans (List.Perm.cons x ih.1), insZ_sorted x _ ih.2⟩
  exact sorted_eq hp.2 (srtZ_sorted l) (hp.1.trans (srtZ_perm l).symm)
theorem tabAs_ok {Z : Glob} : tabAs.Ok P Z := Tab.Ok.cons (sort_ok.sum mSort) Tab.Ok.nil
theorem erase_perm {α : Type} : ∀ {l : List α} {j : Nat} (h : j < l.length), (l[j] :: l.eraseIdx j).Perm l
  | [], j, h => absurd h (Nat.not_lt_zero _)
  | x :: l, 0, _ => List.Perm.refl _
  | x :: l, j + 1, h => by
    simp only [List.getElem_cons_succ, List.eraseIdx_cons_succ]
    exact (List.Perm.swap _ _ _).trans (List.Perm.cons x (erase_perm (by simpa using h)))
theorem nodup_le : ∀ (n : Nat) (l : List Nat), l.Nodup → (∀ x ∈ l, x < n) → l.length ≤ n
  | 0, l, _, h => by
    cases l with
    | nil => exact Nat.le_refl _
    | cons x l => exact absurd (h x List.mem_cons_self) (Nat.not_lt_zero _)
  | n + 1, l, hn, h => by
    have h1 := nodup_le n (l.erase n) (hn.erase n) fun x hx => by
      have := (hn.mem_erase_iff).1 hx
      have := h x this.2
      omega
    by_cases hm : n ∈ l
    · rw [List.length_erase_of_mem hm] at h1; omega
    · rw [List.erase_of_not_mem hm] at h1; omega
theorem keys_len {n : Nat} {m : As} (h : okM n m) (hn : n ≤ 4096) : m.length ≤ 4096 := by
  have h1 : ((m.map (·.1)).map Int.toNat).Nodup := by
    refine List.Pairwise.map _ (S := fun a b => a ≠ b) (R := fun a b => a ≠ b ∧ 0 ≤ a ∧ 0 ≤ b) (fun a b hab => by omega) ?_
    refine List.Pairwise.imp_of_mem ?_ h.1
    intro a b ha hb hab
    obtain ⟨p, hp, rfl⟩ := List.mem_map.1 ha
    obtain ⟨q, hq, rfl⟩ := List.mem_map.1 hb
    exact ⟨hab, (h.2 p hp).1, (h.2 q hq).1⟩
  have h3 := nodup_le n _ h1 fun x hx => by
    obtain ⟨y, hy, rfl⟩ := List.mem_map.1 hx
    obtain ⟨p, hp, rfl⟩ := List.mem_map.1 hy
    have := h.2 p hp
    omega
  simp only [List.length_map] at h3
  omega
theorem aside_ok {Z : Glob} : FnS P Z 61 sAs := by
  refine fnS_of_safe Try.func61 (by kernel_rfl) (fun x => Nat.le_of_ble_eq_true (by kernel_rfl)) ?_
  rintro ⟨(th : Th), (m : As), (fu : Int)⟩ ⟨(hd : okD th m fu), _⟩ X hX hz
  have hns : ∀ x ∈ nsAs, (hD th m fu).length ≤ x.2.m := by intro y hy; simp [nsAs] at hy; rcases hy with rfl | rfl <;> exact Nat.le_refl _
  have hml := keys_len hd.m hd.t.1
  have loop : ∀ (k : Nat) (left : As) (cur : Option (Int × kS.V)) (zs : List Int), left.length = k → (zs ++ left.map (·.1)).Perm (m.map (·.1)) →
      Safe P 61 X (EndS sAs (th, m, fu)) (cA1 th m left cur zs fu) := by
    intro k
    induction k with
    | zero =>
      intro left cur zs hl hp
      obtain rfl := List.eq_nil_of_length_eq_zero hl
      refine goS hz hX hns tabAs_ok Try.func61 (treeA1 th m [] cur zs fu) ?_
      refine next_safe (x := 5) (d := 6) (by kernel_rfl) (by kernel_rfl) (id := 4) (mid := 2) (gid := 7) (ck := kS) (ck' := kS) rfl rfl rfl rfl (fun _ => ?_) (fun j hj => absurd hj (Nat.not_lt_zero _))
      have hp : zs.Perm (m.map (·.1)) := by simpa using hp
      have hlen := hp.length_eq
      rw [List.length_map] at hlen
      refine goS hz hX hns tabAs_ok Try.func61 (treeA1o th m zs fu) ⟨rfl, rfl, by omega, ?_⟩
      refine endS 3 (h := hD th m fu ++ [.vec (.ints .i64 (srtZ zs)) 3]) (by kernel_rfl) (Nat.le_refl _) rfl ?_
      show hD th m fu ++ [.vec (.ints .i64 (srtI (m.map (·.1)))) 3] = _
      rw [srtI_eq, srtZ_of hp]
    | succ k ih =>
      intro left cur zs hl hp
      have hlen := hp.length_eq
      rw [List.length_append, List.length_map, List.length_map] at hlen
      refine goS hz hX hns tabAs_ok Try.func61 (treeA1 th m left cur zs fu) ?_
      refine next_safe (x := 5) (d := 6) (by kernel_rfl) (by kernel_rfl) (id := 4) (mid := 2) (gid := 7) (ck := kS) (ck' := kS) rfl rfl rfl rfl (fun h0 => ?_) (fun j hj => ?_)
      · subst h0; simp at hl
      · refine goS hz hX hns tabAs_ok Try.func61 (treeA1e th m (left.eraseIdx j) (left.getD j (0, kS.d)) zs fu) ⟨by omega, ?_⟩
        refine ih (left.eraseIdx j) (some (left.getD j (0, kS.d))) (zs ++ [(left.getD j (0, kS.d)).1]) (by rw [List.length_eraseIdx, if_pos hj]; omega) ?_
        rw [getD_lt hj, List.append_assoc]
        refine List.Perm.trans (List.Perm.append_left zs ?_) hp
        show ((left[j] :: left.eraseIdx j).map (·.1)).Perm (left.map (·.1))
        exact List.Perm.map _ (erase_perm hj)
  refine goS hz hX hns tabAs_ok Try.func61 (treeAside th m fu) ?_
  refine goS hz hX hns tabAs_ok Try.func61 (treeA0 th m fu) ?_
  refine range_safe (t := 143) (x := 4) (d := 5) (by kernel_rfl) (by kernel_rfl) (by kernel_rfl) (id := 2) (ck := kS) rfl rfl ?_
  refine goS hz hX hns tabAs_ok Try.func61 (treeA0b th m fu) ?_
  exact loop m.length m none [] rfl (by simp)
end Ds

namespace Ds
open Go Go.Sx Go.Proofs Lf
def mAs : List AV → RM ((Th × As × Int) × List Nat)
  | [.ptr id 0] => .look id fun o => match o with
    | some (.own [.vec i, .mapv j, f] _) => .look i fun o => match o with
      | some (.vec (.typ [.arr .u8 64] th) _) => .look j fun o => match o, f.num? with
        | some (.map (.arr .u8 64) m), some (_, _, fu) => .ret ((th, m, fu), [id, i, j])
        | _, _ => .fail "no map"
      | _ => .fail "no row"
    | _ => .fail "no disk's cells"
  | _ => .fail "no disk"
abbrev sumAs := sumS sAs mAs
def tabCr : Tab := [(61, sumAs)]
def nsCr : List (Nat × Norm) := [(6, ⟨[], [0, 1, 2, 3, 23, 24, 25], 3, []⟩), (9, ⟨[], [0, 1, 2, 3, 9, 10, 11, 23, 24, 25], 3, []⟩), (13, ⟨[], [0, 1, 2, 3, 23, 24, 25], 3, []⟩)]
noncomputable def cCr (th : Th) (m : As) (fu : Int) (keep : List Bool) (torn cut : Int) (l : List Int) (k : Int) : Cfg := ⟨sl 77 [(0, .ptr 0 0), (1, .s (.ro (.bools keep))), (2, .s (.int .i64 torn)), (3, .s (.int .i64 cut)), (23, .vec 3), (24, .s (.int .i64 (l.length : Int))), (25, .s (.int .i64 k))], hD th m fu ++ [.vec (.ints .i64 l) 3], hd Try.f63 6, {}⟩
noncomputable def cCr9 (th : Th) (m : As) (fu : Int) (keep : List Bool) (torn cut : Int) (l : List Int) (k n : Int) (s : List Int) : Cfg := ⟨sl 77 [(0, .ptr 0 0), (1, .s (.ro (.bools keep))), (2, .s (.int .i64 torn)), (3, .s (.int .i64 cut)), (9, .s (.int .i64 k)), (10, .s (.int .i64 n)), (11, .ptr 3 0), (23, .vec 4), (24, .s (.int .i64 (l.length : Int))), (25, .s (.int .i64 k))], hD th m fu ++ [.own [.ints .u8 64 s] eS, .vec (.ints .i64 l) 3], hr Try.f63 9, {}⟩
noncomputable def cCr13 (th : Th) (m : As) (fu : Int) (keep : List Bool) (torn cut : Int) (l : List Int) (k : Int) : Cfg := ⟨sl 77 [(0, .ptr 0 0), (1, .s (.ro (.bools keep))), (2, .s (.int .i64 torn)), (3, .s (.int .i64 cut)), (23, .vec 3), (24, .s (.int .i64 (l.length : Int))), (25, .s (.int .i64 k))], hD th m fu ++ [.vec (.ints .i64 l) 3], hr Try.f63 13, {}⟩
theorem treeCr (th : Th) (m : As) (fu : Int) (keep : List Bool) (torn cut : Int) : run P tabCr.sum Try.f63 nsCr (start Try.f63 [.ptr 0 0, .s (.ro (.bools keep)), .s (.int .i64 torn), .s (.int .i64 cut)] (hD th m fu)) =
  Tree.ite (decide (cut < (0 : Int))) (Tree.ret [AObj.own [AV.vec (1 : Nat), AV.mapv (2 : Nat), AV.s (SV.int IntKind.i64 fu)] (145 : Nat), AObj.vec (Con.typ [CK.arr IntKind.u8 (64 : Nat)] th) (169 : Nat), AObj.map (CK.arr IntKind.u8 (64 : Nat)) m] (AV.s (SV.ilit IntKind.i64 (1 : Int)))) (Tree.ite (decide (cut > (64 : Int))) (Tree.ret [AObj.own [AV.vec (1 : Nat), AV.mapv (2 : Nat), AV.s (SV.int IntKind.i64 fu)] (145 : Nat), AObj.vec (Con.typ [CK.arr IntKind.u8 (64 : Nat)] th) (169 : Nat), AObj.map (CK.arr IntKind.u8 (64 : Nat)) m] (AV.s (SV.ilit IntKind.i64 (1 : Int)))) (Tree.need (@Slf (Option (List AV)) (some [AV.ptr (0 : Nat) (0 : Nat)])) (Tree.need (@Slf (Option (List AObj)) (some [AObj.own [AV.vec (1 : Nat), AV.mapv (2 : Nat), AV.s (SV.int IntKind.i64 fu)] (145 : Nat), AObj.vec (Con.typ [CK.arr IntKind.u8 (64 : Nat)] th) (169 : Nat), AObj.map (CK.arr IntKind.u8 (64 : Nat)) m])) (Tree.need (okD th m fu) (Tree.at (Cfg.mk (sl (77 : Nat) [((0 : Nat), AV.ptr (0 : Nat) (0 : Nat)), ((1 : Nat), AV.s (SV.ro (Con.bools keep))), ((2 : Nat), AV.s (SV.int IntKind.i64 torn)), ((3 : Nat), AV.s (SV.int IntKind.i64 cut)), ((23 : Nat), AV.vec (3 : Nat)), ((24 : Nat), AV.s (SV.int IntKind.i64 (↑(asK m).length : Int))), ((25 : Nat), AV.s (SV.int IntKind.i64 (0 : Int)))]) [AObj.own [AV.vec (1 : Nat), AV.mapv (2 : Nat), AV.s (SV.int IntKind.i64 fu)] (145 : Nat), AObj.vec (Con.typ [CK.arr IntKind.u8 (64 : Nat)] th) (169 : Nat), AObj.map (CK.arr IntKind.u8 (64 : Nat)) m, AObj.vec (Con.ints IntKind.i64 (asK m)) (3 : Nat)] (hd Try.f63 (6 : Nat)) (Stk.mk none false (0 : Nat) [] (0 : Nat)))))))) := by kernel_rfl
theorem loopCr (th : Th) (m : As) (fu : Int) (keep : List Bool) (torn cut : Int) (l : List Int) (k : Int) : run P tabCr.sum Try.f63 nsCr (cCr th m fu keep torn cut l k) =
  Tree.ite (decide (k < (↑l.length : Int))) (Tree.need ((0 : Int) ≤ k) (Tree.need (k < (↑l.length : Int)) (Tree.at (Cfg.mk (sl (77 : Nat) [((0 : Nat), AV.ptr (0 : Nat) (0 : Nat)), ((1 : Nat), AV.s (SV.ro (Con.bools keep))), ((2 : Nat), AV.s (SV.int IntKind.i64 torn)), ((3 : Nat), AV.s (SV.int IntKind.i64 cut)), ((9 : Nat), AV.s (SV.int IntKind.i64 k)), ((10 : Nat), AV.s (SV.int IntKind.i64 (l.getD k.toNat (0 : Int)))), ((11 : Nat), AV.ptr (3 : Nat) (0 : Nat)), ((23 : Nat), AV.vec (4 : Nat)), ((24 : Nat), AV.s (SV.int IntKind.i64 (↑l.length : Int))), ((25 : Nat), AV.s (SV.int IntKind.i64 k))]) [AObj.own [AV.vec (1 : Nat), AV.mapv (2 : Nat), AV.s (SV.int IntKind.i64 fu)] (145 : Nat), AObj.vec (Con.typ [CK.arr IntKind.u8 (64 : Nat)] th) (169 : Nat), AObj.map (CK.arr IntKind.u8 (64 : Nat)) m, AObj.own [AV.ints IntKind.u8 (64 : Nat) ((mget m (l.getD k.toNat (0 : Int))).getD (CK.arr IntKind.u8 (64 : Nat)).d)] (169 : Nat), AObj.vec (Con.ints IntKind.i64 l) (3 : Nat)] (hr Try.f63 (9 : Nat)) (Stk.mk none false (0 : Nat) [] (0 : Nat)))))) (Tree.ret [AObj.own [AV.vec (1 : Nat), AV.mapv (2 : Nat), AV.s (SV.ilit IntKind.i64 (-1 : Int))] (145 : Nat), AObj.vec (Con.typ [CK.arr IntKind.u8 (64 : Nat)] th) (169 : Nat), AObj.map (CK.arr IntKind.u8 (64 : Nat)) [], AObj.vec (Con.ints IntKind.i64 l) (3 : Nat)] (AV.s (SV.ilit IntKind.i64 (0 : Int)))) := by kernel_rfl
theorem loopCr9 (th : Th) (m : As) (fu : Int) (keep : List Bool) (torn cut : Int) (l : List Int) (k n : Int) (s : List Int) : run P tabCr.sum Try.f63 nsCr (cCr9 th m fu keep torn cut l k n s) =
  Tree.ite (k == torn) (Tree.need ((0 : Int) ≤ n) (Tree.need (n < (↑(List.length th) : Int)) (Tree.need ((0 : Int) ≤ (0 : Int)) (Tree.need ((0 : Int) ≤ cut) (Tree.need (cut ≤ (↑(64 : Nat) : Int)) (Tree.need ((0 : Int) ≤ (0 : Int)) (Tree.need ((0 : Int) ≤ cut) (Tree.need (cut ≤ (↑(64 : Nat) : Int)) (Tree.need ((0 : Nat) + (cut.toNat - Int.toNat (0 : Int)) ≤ (64 : Nat)) (Tree.need ((arrOf (List.getD th n.toNat (CL.d [CK.arr IntKind.u8 (64 : Nat)]))).length = (64 : Nat)) (Tree.at (Cfg.mk (sl (77 : Nat) [((0 : Nat), AV.ptr (0 : Nat) (0 : Nat)), ((1 : Nat), AV.s (SV.ro (Con.bools keep))), ((2 : Nat), AV.s (SV.int IntKind.i64 torn)), ((3 : Nat), AV.s (SV.int IntKind.i64 cut)), ((23 : Nat), AV.vec (3 : Nat)), ((24 : Nat), AV.s (SV.int IntKind.i64 (↑l.length : Int))), ((25 : Nat), AV.s (SV.int IntKind.i64 k))]) [AObj.own [AV.vec (1 : Nat), AV.mapv (2 : Nat), AV.s (SV.int IntKind.i64 fu)] (145 : Nat), AObj.vec (Con.typ [CK.arr IntKind.u8 (64 : Nat)] (List.set th n.toNat (toArr (over (arrOf (List.getD th n.toNat (CL.d [CK.arr IntKind.u8 (64 : Nat)]))) (0 : Nat) (min (List.take (cut.toNat - Int.toNat (0 : Int)) (List.drop (0 : Nat) s)).length (cut.toNat - Int.toNat (0 : Int))) (List.take (cut.toNat - Int.toNat (0 : Int)) (List.drop (0 : Nat) s)))))) (169 : Nat), AObj.map (CK.arr IntKind.u8 (64 : Nat)) m, AObj.vec (Con.ints IntKind.i64 l) (3 : Nat)] (hr Try.f63 (13 : Nat)) (Stk.mk none false (0 : Nat) [] (0 : Nat)))))))))))))) (Tree.ite (decide (k < (↑keep.length : Int))) (Tree.need ((0 : Int) ≤ k) (Tree.need (k < (↑keep.length : Int)) (Tree.ite (keep.getD k.toNat false) (Tree.need ((0 : Int) ≤ n) (Tree.need (n < (↑(List.length th) : Int)) (Tree.at (Cfg.mk (sl (77 : Nat) [((0 : Nat), AV.ptr (0 : Nat) (0 : Nat)), ((1 : Nat), AV.s (SV.ro (Con.bools keep))), ((2 : Nat), AV.s (SV.int IntKind.i64 torn)), ((3 : Nat), AV.s (SV.int IntKind.i64 cut)), ((23 : Nat), AV.vec (3 : Nat)), ((24 : Nat), AV.s (SV.int IntKind.i64 (↑l.length : Int))), ((25 : Nat), AV.s (SV.int IntKind.i64 k))]) [AObj.own [AV.vec (1 : Nat), AV.mapv (2 : Nat), AV.s (SV.int IntKind.i64 fu)] (145 : Nat), AObj.vec (Con.typ [CK.arr IntKind.u8 (64 : Nat)] (List.set th n.toNat (s, (List.getD th n.toNat (CL.d [CK.arr IntKind.u8 (64 : Nat)])).snd))) (169 : Nat), AObj.map (CK.arr IntKind.u8 (64 : Nat)) m, AObj.vec (Con.ints IntKind.i64 l) (3 : Nat)] (hr Try.f63 (13 : Nat)) (Stk.mk none false (0 : Nat) [] (0 : Nat)))))) (Tree.at (Cfg.mk (sl (77 : Nat) [((0 : Nat), AV.ptr (0 : Nat) (0 : Nat)), ((1 : Nat), AV.s (SV.ro (Con.bools keep))), ((2 : Nat), AV.s (SV.int IntKind.i64 torn)), ((3 : Nat), AV.s (SV.int IntKind.i64 cut)), ((23 : Nat), AV.vec (3 : Nat)), ((24 : Nat), AV.s (SV.int IntKind.i64 (↑l.length : Int))), ((25 : Nat), AV.s (SV.int IntKind.i64 k))]) [AObj.own [AV.vec (1 : Nat), AV.mapv (2 : Nat), AV.s (SV.int IntKind.i64 fu)] (145 : Nat), AObj.vec (Con.typ [CK.arr IntKind.u8 (64 : Nat)] th) (169 : Nat), AObj.map (CK.arr IntKind.u8 (64 : Nat)) m, AObj.vec (Con.ints IntKind.i64 l) (3 : Nat)] (hr Try.f63 (13 : Nat)) (Stk.mk none false (0 : Nat) [] (0 : Nat))))))) (Tree.at (Cfg.mk (sl (77 : Nat) [((0 : Nat), AV.ptr (0 : Nat) (0 : Nat)), ((1 : Nat), AV.s (SV.ro (Con.bools keep))), ((2 : Nat), AV.s (SV.int IntKind.i64 torn)), ((3 : Nat), AV.s (SV.int IntKind.i64 cut)), ((23 : Nat), AV.vec (3 : Nat)), ((24 : Nat), AV.s (SV.int IntKind.i64 (↑l.length : Int))), ((25 : Nat), AV.s (SV.int IntKind.i64 k))]) [AObj.own [AV.vec (1 : Nat), AV.mapv (2 : Nat), AV.s (SV.int IntKind.i64 fu)] (145 : Nat), AObj.vec (Con.typ [CK.arr IntKind.u8 (64 : Nat)] th) (169 : Nat), AObj.map (CK.arr IntKind.u8 (64 : Nat)) m, AObj.vec (Con.ints IntKind.i64 l) (3 : Nat)] (hr Try.f63 (13 : Nat)) (Stk.mk none false (0 : Nat) [] (0 : Nat))))) := by kernel_rfl
theorem loopCr13 (th : Th) (m : As) (fu : Int) (keep : List Bool) (torn cut : Int) (l : List Int) (k : Int) : run P tabCr.sum Try.f63 nsCr (cCr13 th m fu keep torn cut l k) =
  Tree.need (inI64 (k + (1 : Int))) (Tree.at (Cfg.mk (sl (77 : Nat) [((0 : Nat), AV.ptr (0 : Nat) (0 : Nat)), ((1 : Nat), AV.s (SV.ro (Con.bools keep))), ((2 : Nat), AV.s (SV.int IntKind.i64 torn)), ((3 : Nat), AV.s (SV.int IntKind.i64 cut)), ((23 : Nat), AV.vec (3 : Nat)), ((24 : Nat), AV.s (SV.int IntKind.i64 (↑l.length : Int))), ((25 : Nat), AV.s (SV.int IntKind.i64 (k + (1 : Int))))]) [AObj.own [AV.vec (1 : Nat), AV.mapv (2 : Nat), AV.s (SV.int IntKind.i64 fu)] (145 : Nat), AObj.vec (Con.typ [CK.arr IntKind.u8 (64 : Nat)] th) (169 : Nat), AObj.map (CK.arr IntKind.u8 (64 : Nat)) m, AObj.vec (Con.ints IntKind.i64 l) (3 : Nat)] (hd Try.f63 (6 : Nat)) (Stk.mk none false (0 : Nat) [] (0 : Nat)))) := by kernel_rfl

/-! ### Crash -/
def nowA (m : As) (n : Int) : List Int := (mget m n).getD kS.d
def crStep (keep : List Bool) (torn cut : Int) (m : As) (th : Th) (k : Nat) (n : Int) : Th :=
  if (k : Int) = torn then th.set n.toNat (toArr (over (arrOf (th.getD n.toNat (CL.d cS))) 0 cut.toNat (nowA m n))) else if keep.getD k false = true then th.set n.toNat (toArr (nowA m n)) else th
def crT (keep : List Bool) (torn cut : Int) (m : As) : List Int → Nat → Th → Th
  | [], _, th => th
  | n :: l, k, th => crT keep torn cut m l (k + 1) (crStep keep torn cut m th k n)
def okC (cut : Int) : Bool := decide (0 ≤ cut) && decide (cut ≤ 64)
def crH (th : Th) (m : As) (keep : List Bool) (torn cut : Int) : Th := if okC cut = true then crT keep torn cut m (asK m) 0 th else th
def crM (m : As) (cut : Int) : As := if okC cut = true then [] else m
def crF (fu cut : Int) : Int := if okC cut = true then -1 else fu
def crE (cut : Int) : Int := if okC cut = true then 0 else 1
abbrev sCr : Spec (Th × As × Int × List Bool × Int × Int) := ⟨fun (_, _, _, keep, torn, cut) => [.ptr 0 0, .s (.ro (.bools keep)), .s (.int .i64 torn), .s (.int .i64 cut)], fun (th, m, fu, _) => hD th m fu, fun (th, m, fu, _) => [okD th m fu],
  fun (th, m, fu, keep, torn, cut) => hD (crH th m keep torn cut) (crM m cut) (crF fu cut), fun (_, _, _, _, _, cut) => .s (.int .i64 (crE cut))⟩
theorem tabCr_ok {Z : Glob} : tabCr.Ok P Z := Tab.Ok.cons (aside_ok.sum mAs) Tab.Ok.nil
theorem crStep_len {keep : List Bool} {torn cut : Int} {m : As} {th : Th} {k : Nat} {n : Int} : (crStep keep torn cut m th k n).length = th.length := by
  unfold crStep
  split
  · exact List.length_set
  · split
    · exact List.length_set
    · rfl
theorem asK_mem {m : As} {n : Int} (h : n ∈ asK m) : ∃ p ∈ m, p.1 = n := by
  have := (srtZ_perm (m.map (·.1))).mem_iff.1 (by rw [← srtI_eq]; exact h)
  exact List.mem_map.1 this
theorem nowA_len {n : Nat} {m : As} (h : okM n m) {x : Int} (hx : x ∈ asK m) : (nowA m x).length = 64 ∧ 0 ≤ x ∧ x < (n : Int) := by
  obtain ⟨p, hp, rfl⟩ := asK_mem hx
  obtain ⟨h1, h2, h3⟩ := h.2 p hp
  refine ⟨?_, h1, h2⟩
  unfold nowA
  rw [mget_of h.1 hp]
  exact h3
theorem okT_set {th : Th} (h : okT th) {i : Nat} {ws : List Int} (hw : ws.length = 64) : okT (th.set i (toArr ws)) := by
  refine ⟨by rw [List.length_set]; exact h.1, fun j hj => ?_⟩
  rw [List.length_set] at hj
  by_cases e : j = i
  · subst e
    rw [arr_set_self hj]
    exact hw
  · rw [arr_set_ne e]
    exact h.2 j hj
theorem crStep_ok {keep : List Bool} {torn cut : Int} {m : As} {th : Th} {k : Nat} {n : Int} (h : okT th) (hn : 0 ≤ n) (hn2 : n < (th.length : Int)) (hc : 0 ≤ cut) (hc2 : cut ≤ 64) (hl : (nowA m n).length = 64) : okT (crStep keep torn cut m th k n) := by
  unfold crStep
  split
  · refine okT_set h ?_
    rw [over_length _ _ (by rw [h.2 _ (by omega)]; omega) (by omega)]
    exact h.2 _ (by omega)
  · split
    · exact okT_set h hl
    · exact h
theorem crash_ok {Z : Glob} : FnS P Z 63 sCr := by
  refine fnS_of_safe Try.func63 (by kernel_rfl) (fun x => Nat.le_of_ble_eq_true (by kernel_rfl)) ?_
  rintro ⟨(th : Th), (m : As), (fu : Int), (keep : List Bool), (torn : Int), (cut : Int)⟩ ⟨(hd : okD th m fu), _⟩ X hX hz
  have hns : ∀ x ∈ nsCr, (hD th m fu).length ≤ x.2.m := by intro y hy; simp [nsCr] at hy; rcases hy with rfl | rfl | rfl <;> exact Nat.le_refl _
  have bad : okC cut = false → (sCr.out (th, m, fu, keep, torn, cut) = .s (.int .i64 1)) ∧ sCr.outH (th, m, fu, keep, torn, cut) = hD th m fu := fun h =>
    ⟨by show AV.s (.int .i64 (crE cut)) = _; simp [crE, h], by show hD (crH th m keep torn cut) (crM m cut) (crF fu cut) = _; simp [crH, crM, crF, h]⟩
  have good : ∀ th', okC cut = true → crT keep torn cut m (asK m) 0 th = th' → (sCr.out (th, m, fu, keep, torn, cut) = .s (.int .i64 0)) ∧ sCr.outH (th, m, fu, keep, torn, cut) = hD th' [] (-1) := fun th' h e =>
    ⟨by show AV.s (.int .i64 (crE cut)) = _; simp [crE, h], by show hD (crH th m keep torn cut) (crM m cut) (crF fu cut) = _; simp [crH, crM, crF, h, e]⟩
  have hml := keys_len hd.m hd.t.1
  have hkl : (asK m).length = m.length := by rw [asK, srtI_eq, srtZ_len, List.length_map]
  have loop : 0 ≤ cut → cut ≤ 64 → ∀ (j k : Nat) (th' : Th), k + j = (asK m).length → th'.length = th.length → okT th' → crT keep torn cut m ((asK m).drop k) k th' = crT keep torn cut m (asK m) 0 th →
      Safe P 63 X (EndS sCr (th, m, fu, keep, torn, cut)) (cCr th' m fu keep torn cut (asK m) (k : Int)) := by
    intro hc0 hc1 j
    have hok : okC cut = true := by simp [okC, hc0, hc1]
    induction j with
    | zero =>
      intro k th' hk hlen hT hcr
      refine goS hz hX hns tabCr_ok Try.func63 (loopCr th' m fu keep torn cut (asK m) k) ⟨fun h => absurd (of_decide_eq_true h) (by omega), fun _ => ?_⟩
      rw [List.drop_of_length_le (by omega)] at hcr
      obtain ⟨e1, e2⟩ := good th' hok hcr.symm
      exact endS 3 (by kernel_rfl) (Nat.le_refl _) e1 e2
    | succ j ih =>
      intro k th' hk hlen hT hcr
      have hlt : k < (asK m).length := by omega
      obtain ⟨nl, n0, n1⟩ := nowA_len hd.m (List.getElem_mem hlt)
      have hgd : (asK m).getD (k : Int).toNat 0 = (asK m)[k] := by rw [Int.toNat_natCast]; exact getD_lt hlt
      refine goS hz hX hns tabCr_ok Try.func63 (loopCr th' m fu keep torn cut (asK m) k) ⟨fun _ => ⟨by omega, by omega, ?_⟩, fun h => absurd (of_decide_eq_false h) (by omega)⟩
      rw [hgd]
      show Safe P 63 X _ (cCr9 th' m fu keep torn cut (asK m) (k : Int) (asK m)[k] (nowA m (asK m)[k]))
      generalize hn : (asK m)[k] = n at *
      generalize hs : nowA m n = s at *
      rw [List.drop_eq_getElem_cons hlt, hn] at hcr
      have next : ∀ th'', crStep keep torn cut m th' k n = th'' → Safe P 63 X (EndS sCr (th, m, fu, keep, torn, cut)) (cCr13 th'' m fu keep torn cut (asK m) (k : Int)) := fun th'' e => by
        refine goS hz hX hns tabCr_ok Try.func63 (loopCr13 th'' m fu keep torn cut (asK m) k) ⟨⟨by omega, by omega⟩, ?_⟩
        have := ih (k + 1) th'' (by omega) (by rw [← e, crStep_len, hlen]) (by rw [← e]; exact crStep_ok hT n0 (by omega) hc0 hc1 (by rw [hs]; exact nl)) (by rw [← e]; exact hcr)
        exact this
      have hT64 := hT.2 n.toNat (by omega)
      refine goS hz hX hns tabCr_ok Try.func63 (loopCr9 th' m fu keep torn cut (asK m) k n s) ⟨fun h => ⟨n0, by omega, by omega, hc0, hc1, by omega, hc0, hc1, by omega, hT64, ?_⟩, fun h => ⟨fun h2 => ⟨by omega, of_decide_eq_true h2, fun h3 => ⟨n0, by omega, ?_⟩, fun h3 => ?_⟩, fun h2 => ?_⟩⟩
      · have h : (k : Int) = torn := by simpa using h
        refine next _ ?_
        unfold crStep
        rw [if_pos h, hs]
        have e1 : cut.toNat - Int.toNat 0 = cut.toNat := by omega
        have e2 : (List.take cut.toNat (List.drop 0 s)).length = cut.toNat := by rw [List.drop_zero, List.length_take]; omega
        rw [e1, e2, Nat.min_self, List.drop_zero]
        congr 2
        unfold over
        rw [List.take_take, Nat.min_self]
      · have h : ¬ (k : Int) = torn := by simpa using h
        refine next _ ?_
        unfold crStep
        rw [Int.toNat_natCast] at h3
        rw [if_neg h, if_pos h3, hs]
        rfl
      · have h : ¬ (k : Int) = torn := by simpa using h
        refine next _ ?_
        unfold crStep
        rw [Int.toNat_natCast] at h3
        rw [if_neg h, if_neg (by rw [h3]; simp)]
      · have h : ¬ (k : Int) = torn := by simpa using h
        have h2 := of_decide_eq_false h2
        refine next _ ?_
        unfold crStep
        rw [if_neg h, if_neg (by simp [List.getD, List.getElem?_eq_none (show keep.length ≤ k by omega)])]
  refine goS hz hX hns tabCr_ok Try.func63 (treeCr th m fu keep torn cut) ⟨fun h => ?_, fun h => ⟨fun h2 => ?_, fun h2 => ⟨rfl, rfl, hd, ?_⟩⟩⟩
  · have h := of_decide_eq_true h
    obtain ⟨e1, e2⟩ := bad (by simp [okC]; omega)
    exact endS 3 (by kernel_rfl) (Nat.le_refl _) e1 e2
  · have h2 := of_decide_eq_true h2
    obtain ⟨e1, e2⟩ := bad (by simp [okC]; omega)
    exact endS 3 (by kernel_rfl) (Nat.le_refl _) e1 e2
  · have h := of_decide_eq_false h
    have h2 := of_decide_eq_false h2
    exact loop (by omega) (by omega) (asK m).length 0 th (by omega) rfl hd.t rfl
end Ds

namespace Go.Proofs
open Go.RowKit Go.Maps Go.Sort Go.Shelf
def Try.cloneA_ren : Go.Shelf.Ren := ⟨fun | 5 => 113 | 7 => 132 | n => n, fun | 23 => 143 | 25 => 3 | 3 => 169 | 4 => 4 | 20 => 20 | n => n, fun | n => n⟩
theorem Try.cloneA : Go.Proofs.SlLaysW.n5 Try.prog Try.cloneA_ren := {
  mixed := by kernel_rfl
  f5 := ⟨Try.f113.name, by decide, Try.func113.trans (congrArg some (by kernel_rfl))⟩
  f7 := Try.func132.trans (congrArg some (by kernel_rfl))
  t4 := Try.underlying4
  a4 := Try.isAgg4
  z4 := Try.sizeOf4
  v4 := Try.zeroValue4
  t20 := Try.underlying20
  a20 := Try.isAgg20
  z20 := Try.sizeOf20
  v20 := Try.zeroValue20
  t23 := Try.underlying143
  a23 := Try.isAgg143
  z23 := Try.sizeOf143
  v23 := Try.zeroValue143 }


end Go.Proofs
namespace Ds
open Go Go.Sx Go.Proofs Lf
abbrev sMc : Spec As := ⟨fun _ => [.mapv 0], fun m => [.map kS m], fun _ => [], fun m => [.map kS m, .map kS m], fun _ => .mapv 1⟩
abbrev sTc : Spec Th := ⟨fun _ => [.vec 0], fun th => [.vec (.typ cS th) eS], fun th => [okT th], fun th => [.vec (.typ cS th) eS, .vec (.typ cS th) eS], fun _ => .vec 1⟩
theorem treeTc (th : Th) : run P tab0.sum Try.f112 [] (start Try.f112 [.vec 0] [.vec (.typ cS th) eS]) =
  Tree.both (List.length th = (0 : Nat)) True (Tree.ret [AObj.vec (Con.typ [CK.arr IntKind.u8 (64 : Nat)] th) (169 : Nat)] AV.emp) (Tree.need ((0 : Nat) + List.length th ≤ (4294967296 : Nat)) (Tree.ret [AObj.vec (Con.typ [CK.arr IntKind.u8 (64 : Nat)] th) (169 : Nat), AObj.dead, AObj.vec (Con.typ [CK.arr IntKind.u8 (64 : Nat)] ([] ++ th)) (169 : Nat)] (AV.vec (2 : Nat)))) := by kernel_rfl
def mMc : List AV → RM (As × List Nat)
  | [.mapv id] => .look id fun o => match o with
    | some (.map (.arr .u8 64) m) => .ret (m, [id])
    | _ => .fail "no map"
  | _ => .fail "no map"
def mTc : List AV → RM (Th × List Nat)
  | [.vec id] => .look id fun o => match o with
    | some (.vec (.typ [.arr .u8 64] th) _) => .ret (th, [id])
    | _ => .fail "no row"
  | _ => .fail "no row"
abbrev sumMc := sumS sMc mMc
abbrev sumTc := sumS sTc mTc
def tabCo : Tab := [(113, sumMc), (112, sumTc)]
theorem treeCo (th : Th) (m : As) (fu : Int) : run P tabCo.sum Try.f62 [] (start Try.f62 [.ptr 0 0] (hD th m fu)) =
  Tree.need (@Slf (Option (List AV)) (some [AV.vec (0 : Nat)])) (Tree.need (@Slf (Option (List AObj)) (some [AObj.vec (Con.typ [CK.arr IntKind.u8 (64 : Nat)] th) (169 : Nat)])) (Tree.need (okT th) (Tree.need (@Slf (Option (List AV)) (some [AV.mapv (0 : Nat)])) (Tree.need (@Slf (Option (List AObj)) (some [AObj.map (CK.arr IntKind.u8 (64 : Nat)) m])) (Tree.ret [AObj.own [AV.vec (1 : Nat), AV.mapv (2 : Nat), AV.s (SV.int IntKind.i64 fu)] (145 : Nat), AObj.vec (Con.typ [CK.arr IntKind.u8 (64 : Nat)] th) (169 : Nat), AObj.map (CK.arr IntKind.u8 (64 : Nat)) m, AObj.vec (Con.typ [CK.arr IntKind.u8 (64 : Nat)] th) (169 : Nat), AObj.map (CK.arr IntKind.u8 (64 : Nat)) m, AObj.own [AV.vec (3 : Nat), AV.mapv (4 : Nat), AV.s (SV.int IntKind.i64 fu)] (145 : Nat)] (AV.ptr (5 : Nat) (0 : Nat))))))) := by kernel_rfl
abbrev sCo : Spec (Th × As × Int) := ⟨fun _ => [.ptr 0 0], fun (th, m, fu) => hD th m fu, fun (th, m, fu) => [okD th m fu], fun (th, m, fu) => hD th m fu ++ [obD 4 5 fu, .vec (.typ cS th) eS, .map kS m], fun _ => .ptr 3 0⟩
theorem mclone_ok {Z : Glob} : FnS P Z 113 sMc := by
  rintro (m : As) _ ρ G w vs hz hs hd
  obtain ⟨v, rest, rfl, hv, h0⟩ := DenL_cons.1 hd
  obtain rfl := DenL_nil.1 h0
  unfold DenV Den1 at hv
  obtain ⟨b, hb, rfl, _⟩ := hv
  have ho : lk [AObj.map kS m] 0 = some (.map kS m) := rfl
  obtain ⟨es, clock, h1, h2⟩ := map_obj hs ho hb
  refine (AnyW.maps_Clone Try.cloneA b es clock w h1).mono ?_
  rintro e w' ⟨rfl, rfl⟩
  refine ⟨_, rfl, ?_⟩
  have hH : lk (sMc.outH m) = updH (lk [AObj.map kS m]) 1 (.map kS m) := by
    funext j
    match j with
    | 0 => rfl
    | 1 => rfl
    | j + 2 => rfl
  rw [hH]
  refine Good.fresh (root := .map (some w.heap.size)) hs rfl rfl rfl rfl rfl (fun b' hb' => by simpa [blk] using hb'.symm) ⟨w.heap.size, es, clock, rfl, alloc_get, h2⟩ ?_
  show DenV _ _ _ _ (.mapv 1) _
  unfold DenV Den1
  exact ⟨w.heap.size, rfl, rfl, rfl⟩
theorem tclone_ok {Z : Glob} : FnS P Z 112 sTc := by
  refine fnS_of_safe Try.func112 (by kernel_rfl) (fun x => Nat.le_of_ble_eq_true (by kernel_rfl)) ?_
  rintro (th : Th) ⟨(ht : okT th), _⟩ X hX hz
  have h1 := ht.1
  refine goS hz hX (by simp) Tab.Ok.nil Try.func112 (treeTc th) ⟨fun h => ?_, fun _ => ⟨by omega, ?_⟩⟩
  · obtain rfl := List.eq_nil_of_length_eq_zero h
    exact ⟨⟨[(0, .typ cS [], eS)], [0], 1, []⟩, Nat.le_refl _, by kernel_rfl⟩
  · exact ⟨⟨[], [0], 1, []⟩, Nat.le_refl _, by kernel_rfl⟩
theorem tabCo_ok {Z : Glob} : tabCo.Ok P Z := Tab.Ok.cons (mclone_ok.sum mMc) (Tab.Ok.cons (tclone_ok.sum mTc) Tab.Ok.nil)
theorem copy_ok {Z : Glob} : FnS P Z 62 sCo := by
  refine fnS_of_safe Try.func62 (by kernel_rfl) (fun x => Nat.le_of_ble_eq_true (by kernel_rfl)) ?_
  rintro ⟨(th : Th), (m : As), (fu : Int)⟩ ⟨(hd : okD th m fu), _⟩ X hX hz
  exact goS hz hX (by simp) tabCo_ok Try.func62 (treeCo th m fu) ⟨rfl, rfl, hd.t, rfl, rfl, endS 3 (by kernel_rfl) (Nat.le_refl _) rfl rfl⟩
end Ds

/-! Arguments that stand still from the call on: own rows handed over for good, and nil rows. -/
namespace Go.Sx
open Go

/-- The same, with one object gone. -/
def RM.hide {α : Type} (id : Nat) : RM α → RM α
  | .ret a => .ret a
  | .look j k => bif j.beq id then (k (some .dead)).hide id else .look j fun o => (k o).hide id
  | .fail w => .fail w

/-- A summary whose argument number i may be an own row, or nil: the row is given up. -/
def sumFrz (i : Nat) (c0 : Con) (s : Nat → List AV → RM Res) : Nat → List AV → RM Res := fun base args =>
  match args[i]? with
  | some (.vec id) => .look id fun o => match o with
    | some (.vec c _) => ((s base (args.set i (.s (.ro c)))).hide id).bind fun q => .ret ⟨q.need, (id, .dead) :: q.up, q.new, q.r⟩
    | _ => .fail "frz: no row"
  | some .emp => bif c0.n.beq 0 then s base (args.set i (.s (.ro c0))) else .fail "frz: nil"
  | _ => s base args

section
variable {ρ ρ' : Nat → Value} {H H' : AHeap} {G O O' : Nat → Prop} {w w' : World} {P : Program} {Z : Glob}

theorem RM.hide_eval {α : Type} {id : Nat} : ∀ (m : RM α), (m.hide id).eval H = m.eval (updH H id .dead)
  | .ret a => rfl
  | .look j k => by
    simp only [RM.hide, RM.eval, Bool.cond_eq_ite, updH]
    by_cases h : j = id
    · subst h
      rw [if_pos (Nat.beq_refl _), if_pos rfl]
      exact RM.hide_eval _
    · rw [if_neg (by simpa using h), if_neg h]
      simp only [RM.eval]
      exact RM.hide_eval _
  | .fail w => rfl

theorem DenL_set {azs : List AV} : ∀ {vs : List Value} {i : Nat} {a b : AV}, DenL ρ H O w azs vs → azs[i]? = some a → (∀ v, DenV ρ H O w a v → DenV ρ H O w b v) → DenL ρ H O w (azs.set i b) vs := by
  induction azs with
  | nil => intro vs i a b h hi; simp at hi
  | cons x azs ih =>
    intro vs i a b h hi hab
    obtain ⟨v, rest, rfl, h1, h2⟩ := DenL_cons.1 h
    cases i with
    | zero =>
      simp only [List.getElem?_cons_zero, Option.some.injEq] at hi
      subst hi
      exact DenL_cons.2 ⟨v, rest, rfl, hab v h1, h2⟩
    | succ i => exact DenL_cons.2 ⟨v, rest, rfl, h1, ih h2 (by simpa using hi) hab⟩

/-- An own row that is given up stands still. -/
theorem given_up (hs : Sat ρ H G w) {id : Nat} {c : Con} {e : TypeId} (ho : H id = some (.vec c e)) : DenS (Hot ρ (updH H id .dead) G) w (.ro c) (ρ id) := by
  have hobj := hs.obj id _ ho
  obtain ⟨a, cap, hr, h2, h3, h4⟩ := hobj
  have hless : ∀ b, Hot ρ (updH H id .dead) G b → Hot ρ H G b := fun b hb => hb.imp own_kill (fun x => x)
  rw [hr]
  by_cases hc : cap = 0
  · have h0 : c.n = 0 := by omega
    have := DenS.ro (O := Hot ρ (updH H id .dead) G) (w := w) c a cap (fun _ _ => undef) 0 0 h2 h3 (fun h => by omega) (fun i j hi hj => by omega) (fun i j hi hj => by omega)
    exact this
  · obtain ⟨b, o, cells, fr, us, rfl, g1, g2, g3, g4⟩ := h4.resolve_left hc
    have hbk : blk (ρ id) = some b := by rw [hr]; simp only [blk]; rw [if_neg hc]
    refine DenS.ro c _ cap us b o h2 h3 (fun _ => ⟨rfl, fun hb => ?_, (Array.getElem?_eq_some_iff.1 g1).1⟩) (fun i j hi hj => ?_) (fun i j hi hj => ?_)
    · rcases hb with ⟨j, x, hx, ha, hb⟩ | hb
      · by_cases hj : j = id
        · subst hj
          simp only [updH, if_true, Option.some.injEq] at hx
          subst hx
          cases ha
        · simp only [updH, hj, if_false] at hx
          exact hj (hs.inj j id x _ b hx ho ha rfl hb hbk)
      · exact hs.apart b ⟨id, _, ho, rfl, hbk⟩ hb
    · rw [cell_of_blk g1]; exact (g4 i j hi hj).1
    · exact (g4 i j hi hj).2.less hless

theorem sumFrz_ok {f : FuncId} {s : Nat → List AV → RM Res} (h : SOk1 P Z f s) (i : Nat) (c0 : Con) : SOk1 P Z f (sumFrz i c0 s) := by
  intro base args H q hq hn ρ G w vs hfresh hz hs hd
  unfold sumFrz at hq
  split at hq
  · rename_i id hi
    simp only [RM.eval] at hq
    split at hq
    · rename_i c e ho
      obtain ⟨q', h1, h2⟩ := RM.bind_eval hq
      simp only [RM.eval, Option.some.injEq] at h2
      subst h2
      rw [RM.hide_eval] at h1
      have st := kill_step (ρ := ρ) (G := G) (w := w) ho
      have hd1 := DenL.step st _ _ hd
      have hd2 : DenL ρ (updH H id .dead) (Hot ρ (updH H id .dead) G) w (args.set i (.s (.ro c))) vs := by
        have key : ∀ (azs : List AV) (vs : List Value) (i : Nat), DenL ρ H (Hot ρ H G) w azs vs → DenL ρ (updH H id .dead) (Hot ρ (updH H id .dead) G) w azs vs → azs[i]? = some (.vec id) → DenL ρ (updH H id .dead) (Hot ρ (updH H id .dead) G) w (azs.set i (.s (.ro c))) vs := by
          intro azs
          induction azs with
          | nil => intro vs i h1 h2 hi; simp at hi
          | cons x azs ih =>
            intro vs i h1 h2 hi
            obtain ⟨v, rest, rfl, h3, h4⟩ := DenL_cons.1 h1
            obtain ⟨v', rest', e1, h5, h6⟩ := DenL_cons.1 h2
            cases e1
            cases i with
            | zero =>
              simp only [List.getElem?_cons_zero, Option.some.injEq] at hi
              subst hi
              obtain ⟨a, cap, rfl, hr, _⟩ := vec_val hs ho h3
              have := given_up hs ho
              rw [hr] at this
              exact DenL_cons.2 ⟨_, rest, rfl, DenV_s this, h6⟩
            | succ i => exact DenL_cons.2 ⟨v, rest, rfl, h5, ih rest i h4 h6 (by simpa using hi)⟩
        exact key args vs i hd hd1 hi
      have hz1 : ZAt Z ρ (updH H id .dead) w := ⟨hz.1, fun b hb hO => hz.2 b hb (own_kill hO)⟩
      have hfresh1 : ∀ j, j < q'.new.length → updH H id .dead (base + j) = none := fun j hj => by
        have := hfresh j hj
        simp only [updH]
        split
        · rename_i e1; rw [e1, ho] at this; cases this
        · exact this
      refine (h base _ _ q' h1 hn ρ G w vs hfresh1 hz1 (hs.kill ho) hd2).mono ?_
      rintro en w' ⟨v, he, hg⟩
      refine ⟨v, he, ?_⟩
      have hres : resH H ((id, .dead) :: q'.up) base q'.new = resH (updH H id .dead) q'.up base q'.new := by
        funext j
        simp only [resH, findUp, updH]
        cases findUp q'.up j with
        | some x => rfl
        | none =>
          simp only []
          by_cases hj : j = id
          · subst hj
            have hno : ¬ (base ≤ j ∧ j < base + q'.new.length) := by
              rintro ⟨k1, k2⟩
              have := hfresh (j - base) (by simp only []; omega)
              rw [show base + (j - base) = j from by omega, ho] at this
              cases this
            simp [hno]
          · simp [hj]
      simp only []
      rw [hres]
      exact Good.after st (fun b hb => own_kill hb) hg
    · cases hq
  · rename_i hi
    rw [Bool.cond_eq_ite] at hq
    split at hq
    · rename_i hc
      have hc : c0.n = 0 := by simpa using hc
      refine h base _ H q hq hn ρ G w vs hfresh hz hs (DenL_set hd hi fun v hv => ?_)
      unfold DenV at hv
      obtain ⟨a, rfl⟩ := hv
      exact DenV_s (emp_ro' hc a)
    · cases hq
  · exact h base _ H q hq hn ρ G w vs hfresh hz hs hd

/-- The run's end, seen by a Norm, and told less of. -/
def EndW {X : Type} (S : Spec X) (x : X) (L : List AObj) (r : AV) : Prop :=
  ∃ (N : Norm) (o : AV), (S.heap x).length ≤ N.m ∧ N.run ⟨[r], L, [], {}⟩ = some ⟨[o], S.outH x, [], {}⟩ ∧ ∀ (ρ : Nat → Value) (H : AHeap) (O : Nat → Prop) (w : World) (v : Value), DenV ρ H O w o v → DenV ρ H O w (S.out x) v

variable {X : Type} {S : Spec X}
/-- The same, with an answer that says less than the run's end. -/
theorem fnS_of_safeW {f : FuncId} {fn : Func} (hf : P.funcs[f]? = some fn) (hb : fn.body.isSome = true) (hn : ∀ x, (S.args x).length ≤ fn.ntmps)
    (h : ∀ x, Needs (S.pre x) → ∀ X : Ctx, X.H = lk (S.heap x) → ZCtx Z X → Safe P f X (EndW S x) (start fn (S.args x) (S.heap x))) : FnS P Z f S := by
  intro x hpre ρ G w vs hz hs hd
  obtain ⟨c, hb⟩ := Option.isSome_iff_exists.1 hb
  have hlenV : vs.length = (S.args x).length := by
    have : ∀ {azs : List AV} {vs : List Value}, DenL ρ (lk (S.heap x)) (Hot ρ (lk (S.heap x)) G) w azs vs → vs.length = azs.length := by
      intro azs
      induction azs with
      | nil => intro vs h; rw [DenL_nil.1 h]; rfl
      | cons a azs ih => intro vs h; obtain ⟨v, rest, rfl, _, h2⟩ := DenL_cons.1 h; simp [ih h2]
    exact this hd
  refine (calls_of_goes (R := Post ⟨ρ, lk (S.heap x), G, w, []⟩ (EndW S x)) hf hb ?_).mono ?_
  · have := (h x hpre ⟨ρ, lk (S.heap x), G, w, []⟩ rfl hz).goes rfl rfl (ρ := ρ) (a := { tmps := vs.toArray ++ Array.replicate (fn.ntmps - vs.toArray.size) undef, defers := [] }) (w := w)
    simp only [start, hb, Option.getD_some] at this
    refine this ⟨hs, ?_, fun t => ?_, rfl, Step.refl _ _ _ _, ⟨rfl, rfl, rfl, fun _ _ _ => rfl⟩, fun x hx => by cases hx⟩
    · simp [hlenV]
    · have e1 : ∀ (azs : List AV) (vs : List Value), DenL ρ (lk (S.heap x)) (Hot ρ (lk (S.heap x)) G) w azs vs → ∀ t, DenV ρ (lk (S.heap x)) (Hot ρ (lk (S.heap x)) G) w (azs.getD t (.tup [])) (vs.getD t undef) := by
        intro azs
        induction azs with
        | nil => intro vs h t; rw [DenL_nil.1 h]; simp only [List.getD, List.getElem?_nil, Option.getD_none]; exact den_undef
        | cons a azs ih =>
          intro vs h t
          obtain ⟨v, rest, rfl, h1, h2⟩ := DenL_cons.1 h
          cases t with
          | zero => simpa using h1
          | succ t => simpa using ih rest h2 t
      have h1 := e1 _ _ hd t
      simp only [List.getD_eq_getElem?_getD, List.getElem?_append, List.getElem?_replicate, Array.getD_eq_getD_getElem?, Array.getElem?_append, List.getElem?_toArray, Array.getElem?_replicate, List.size_toArray] at h1 ⊢
      rw [hlenV]
      split
      · rename_i ht
        have hv : vs[t]? = some vs[t] := List.getElem?_eq_getElem (by omega)
        have ha : (S.args x)[t]? = some (S.args x)[t] := List.getElem?_eq_getElem ht
        rw [hv, ha] at h1 ⊢
        exact h1
      · split
        · exact den_undef
        · unfold DenV; trivial
  · rintro e w' ⟨v, rfl, L, r, ⟨N, o, hm, hN, hwk⟩, ρ1, g1, g2, g3, g4⟩
    refine ⟨v, rfl, ?_⟩
    have r0 : Rep ⟨ρ, lk (S.heap x), G, w, []⟩ ρ1 ⟨[r], L⟩ { tmps := #[v], defers := [] } w' := by
      refine ⟨g1, rfl, fun t => ?_, rfl, g3, g4, fun x hx => by cases hx⟩
      cases t with
      | zero => exact g2
      | succ t => simp only [List.getD, Array.getD]; simp; unfold DenV; trivial
    have h0 : ∀ id, N.m ≤ id → (⟨ρ, lk (S.heap x), G, w, []⟩ : Ctx).H id = none := fun id hid => by simp [lk]; omega
    unfold Norm.run at hN
    split at hN
    · rename_i t1 L1 h1
      simp only [] at hN
      split at hN
      · rename_i t2 L2 h2
        simp only [Option.some.injEq, Cfg.mk.injEq, and_true] at hN
        obtain ⟨rfl, rfl⟩ := hN
        obtain ⟨ρ1, r1⟩ := Rep.compact h0 h1 (Rep.keepOnly N.keep r0)
        obtain ⟨ρ2, r2⟩ := Rep.nilSlots N.nils r1
        obtain ⟨ρ3, r3⟩ := Rep.nilCells N.cells r2
        obtain ⟨ρ4, r4⟩ := Rep.compact h0 h2 r3
        exact ⟨ρ4, r4.sat, (hwk _ _ _ _ _ (by have h := r4.den 0; exact h)), r4.from_, r4.frm⟩
      · cases hN
    · cases hN

end
end Go.Sx

namespace Ds
open Go Go.Sx Go.Proofs Lf
abbrev cSt : List CK := [.int .u8, .int .i64, .str, .bools, .int .i64]
abbrev tU8 : Ty := .b (.int .u8)
abbrev tSteps : Ty := .b (.row (.typ cSt) 91)
/-! of -/
def nsOf : List (Nat × Norm) := [(3, ⟨[], [0, 3, 4], 0, []⟩)]
noncomputable def cOf (b : Int) (zs : List Int) (i : Int) : Cfg := ⟨sl 16 [(0, .s (.int .u8 b)), (3, .vec 0), (4, .s (.int .i64 i))], [.vec (.ints .u8 zs) 5], hd Try.f67 3, {}⟩
theorem treeOf (b : Int) : run P tab0.sum Try.f67 nsOf (start Try.f67 [.s (.int .u8 b)] []) =
  Tree.need ((0 : Int) ≤ (64 : Int)) (Tree.need ((64 : Int) ≤ (64 : Int)) (Tree.need ((64 : Int) ≤ (1073741824 : Int)) (Tree.at (Cfg.mk (sl (16 : Nat) [((0 : Nat), AV.s (SV.int IntKind.u8 b)), ((3 : Nat), AV.vec (0 : Nat)), ((4 : Nat), AV.s (SV.int IntKind.i64 (0 : Int)))]) [AObj.vec (Con.ints IntKind.u8 (List.replicate (Int.toNat (64 : Int)) (0 : Int))) (5 : Nat)] (hd Try.f67 (3 : Nat)) (Stk.mk none false (0 : Nat) [] (0 : Nat)))))) := by kernel_rfl
theorem loopOf (b : Int) (zs : List Int) (i : Int) : run P tab0.sum Try.f67 nsOf (cOf b zs i) =
  Tree.ite (decide (i < (64 : Int))) (Tree.need ((0 : Int) ≤ i) (Tree.need (i < (↑zs.length : Int)) (Tree.need (inI64 (i + (1 : Int))) (Tree.at (Cfg.mk (sl (16 : Nat) [((0 : Nat), AV.s (SV.int IntKind.u8 b)), ((3 : Nat), AV.vec (0 : Nat)), ((4 : Nat), AV.s (SV.int IntKind.i64 (i + (1 : Int))))]) [AObj.vec (Con.ints IntKind.u8 (zs.set i.toNat b)) (5 : Nat)] (hd Try.f67 (3 : Nat)) (Stk.mk none false (0 : Nat) [] (0 : Nat))))))) (Tree.ret [AObj.vec (Con.ints IntKind.u8 zs) (5 : Nat)] (AV.s (SV.str (bytesStr zs)))) := by kernel_rfl
/-! whole -/
theorem treeWh (s : ByteArray) (n : Int) : run P tab0.sum Try.f60 [] (start Try.f60 [.s (.str s), .s (.int .i64 n)] []) =
  Tree.need ((4 : Int) ≠ (0 : Int)) (Tree.ite (n.tmod (4 : Int) == (3 : Int)) (Tree.ret [] (AV.s (SV.str s))) (Tree.ite (decide ((↑s.size : Int) > (64 : Int))) (Tree.need ((0 : Int) ≤ (0 : Int)) (Tree.need ((0 : Int) ≤ (64 : Int)) (Tree.need ((64 : Int) ≤ (↑s.size : Int)) (Tree.ret [] (AV.s (SV.str (s.extract (Int.toNat (0 : Int)) (Int.toNat (64 : Int))))))))) (Tree.need (inI64 ((64 : Int) - (↑s.size : Int))) (Tree.need ((0 : Int) ≤ (64 : Int) - (↑s.size : Int)) (Tree.need ((64 : Int) - (↑s.size : Int) ≤ (64 : Int) - (↑s.size : Int)) (Tree.need ((64 : Int) - (↑s.size : Int) ≤ (1073741824 : Int)) (Tree.need (s.size + (bytesStr (List.replicate ((64 : Int) - (↑s.size : Int)).toNat (0 : Int))).size ≤ (4611686018427387904 : Nat)) (Tree.ret [AObj.vec (Con.ints IntKind.u8 (List.replicate ((64 : Int) - (↑s.size : Int)).toNat (0 : Int))) (5 : Nat)] (AV.s (SV.str (s ++ bytesStr (List.replicate ((64 : Int) - (↑s.size : Int)).toNat (0 : Int))))))))))))) := by kernel_rfl
/-! reads -/
def mRd : List AV → RM ((Th × As × Int × Int) × List Nat)
  | [.ptr id 0, n] => (mAs [.ptr id 0]).bind fun ((th, m, fu), σ) => match n.num? with
    | some (_, _, n) => .ret ((th, m, fu, n), σ)
    | none => .fail "no number"
  | _ => .fail "no disk"
abbrev sumRd := sumS sRd mRd
def tabRs : Tab := [(58, sumRd)]
theorem treeRs (th : Th) (m : As) (fu n : Int) (s : ByteArray) : run P tabRs.sum Try.f74 [] (start Try.f74 [.ptr 0 0, .s (.int .i64 n), .s (.str s)] (hD th m fu)) =
  Tree.need (@Slf (Option (List AV)) (some [AV.ptr (0 : Nat) (0 : Nat), AV.s (SV.int IntKind.i64 n)])) (Tree.need (@Slf (Option (List AObj)) (some [AObj.own [AV.vec (1 : Nat), AV.mapv (2 : Nat), AV.s (SV.int IntKind.i64 fu)] (145 : Nat), AObj.vec (Con.typ [CK.arr IntKind.u8 (64 : Nat)] th) (169 : Nat), AObj.map (CK.arr IntKind.u8 (64 : Nat)) m])) (Tree.need (okD th m fu) (Tree.ite (rdE th n == (0 : Int)) (Tree.ret [AObj.own [AV.vec (1 : Nat), AV.mapv (2 : Nat), AV.s (SV.int IntKind.i64 fu)] (145 : Nat), AObj.vec (Con.typ [CK.arr IntKind.u8 (64 : Nat)] th) (169 : Nat), AObj.map (CK.arr IntKind.u8 (64 : Nat)) m] (AV.s (SV.bool (decide (rdS th m n = s))))) (Tree.ret [AObj.own [AV.vec (1 : Nat), AV.mapv (2 : Nat), AV.s (SV.int IntKind.i64 fu)] (145 : Nat), AObj.vec (Con.typ [CK.arr IntKind.u8 (64 : Nat)] th) (169 : Nat), AObj.map (CK.arr IntKind.u8 (64 : Nat)) m] (AV.s (SV.blit false)))))) := by kernel_rfl
def ofS (b : Int) : ByteArray := bytesStr (List.replicate 64 b)
def whS (s : ByteArray) (n : Int) : ByteArray := if n.tmod 4 = 3 then s else if (s.size : Int) > 64 then s.extract 0 64 else s ++ bytesStr (List.replicate (64 - s.size) 0)
def rsB (th : Th) (m : As) (n : Int) (s : ByteArray) : Bool := inTh th n && decide (rdS th m n = s)
abbrev sumOfF := sumOf [tU8] [tStr] (fun _ => []) (fun (b, ()) => (ofS b, ()))
abbrev sumWh := sumOf [tStr, tInt] [tStr] (fun _ => []) (fun (s, n, ()) => (whS s n, ()))
abbrev sRs : Spec (Th × As × Int × Int × ByteArray) := ⟨fun (_, _, _, n, s) => [.ptr 0 0, .s (.int .i64 n), .s (.str s)], fun (th, m, fu, _) => hD th m fu, fun (th, m, fu, _) => [okD th m fu], fun (th, m, fu, _) => hD th m fu, fun (th, m, _, n, s) => .s (.bool (rsB th m n s))⟩
theorem set_rep {b : Int} : ∀ {k : Nat}, k < 64 → (List.replicate k b ++ List.replicate (64 - k) (0 : Int)).set k b = List.replicate (k + 1) b ++ List.replicate (64 - (k + 1)) 0 := by
  intro k hk
  rw [List.set_append_right _ _ (by simp), List.length_replicate, Nat.sub_self, show 64 - k = (64 - (k + 1)) + 1 from by omega, List.replicate_succ, List.set_cons_zero, List.replicate_succ' (n := k), List.append_assoc]
  rfl
theorem of_ok {Z : Glob} : FnOk P Z 67 [tU8] [tStr] (fun _ => []) (fun (b, ()) => (ofS b, ())) := by
  refine fnOk_of_safe Try.func67 (by kernel_rfl) (by kernel_rfl) ?_
  rintro ⟨(b : Int), ⟨⟩⟩ _ _ X hX hz
  show Safe P 67 X (Ends [tStr] (ofS b, ())) _
  have loop : ∀ (j k : Nat), k + j = 64 → Safe P 67 X (Ends [tStr] (ofS b, ())) (cOf b (List.replicate k b ++ List.replicate (64 - k) 0) (k : Int)) := by
    intro j
    induction j with
    | zero =>
      intro k hk
      obtain rfl : k = 64 := by omega
      refine go hz hX Tab.Ok.nil Try.func67 (loopOf b _ _) ⟨fun h => absurd (of_decide_eq_true h) (by omega), fun _ => ?_⟩
      have e : List.replicate 64 b ++ List.replicate (64 - 64) (0 : Int) = List.replicate 64 b := by simp
      rw [e]
      exact ends_s
    | succ j ih =>
      intro k hk
      refine go hz hX Tab.Ok.nil Try.func67 (loopOf b _ _) ⟨fun _ => ⟨by omega, by simp; omega, ⟨by omega, by omega⟩, ?_⟩, fun h => absurd (of_decide_eq_false h) (by omega)⟩
      have := ih (k + 1) (by omega)
      rw [Int.toNat_natCast, set_rep (by omega)]
      exact this
  refine go hz hX Tab.Ok.nil Try.func67 (treeOf b) ⟨by omega, by omega, by omega, ?_⟩
  exact loop 64 0 rfl
theorem wh_ok {Z : Glob} : FnOk P Z 60 [tStr, tInt] [tStr] (fun _ => []) (fun (s, n, ()) => (whS s n, ())) := by
  refine fnOk_of_safe Try.func60 (by kernel_rfl) (by kernel_rfl) ?_
  rintro ⟨(s : ByteArray), (n : Int), ⟨⟩⟩ _ _ X hX hz
  show Safe P 60 X (Ends [tStr] (whS s n, ())) _
  have fin : ∀ t, whS s n = t → ∀ L, Ends [tStr] (whS s n, ()) L (.s (.str t)) := fun t e L => by rw [e]; exact ends_s
  refine go hz hX Tab.Ok.nil Try.func60 (treeWh s n) ⟨by decide, fun h => fin _ ?_ _, fun h => ⟨fun h2 => ⟨by omega, by omega, ?_, fin _ ?_ _⟩, fun h2 => ?_⟩⟩
  · have h : n.tmod 4 = 3 := by simpa using h
    simp [whS, h]
  · have := of_decide_eq_true h2; omega
  · have h : ¬ n.tmod 4 = 3 := by simpa using h
    have h2 := of_decide_eq_true h2
    rw [whS, if_neg h, if_pos h2]; rfl
  · have h : ¬ n.tmod 4 = 3 := by simpa using h
    have h2 := of_decide_eq_false h2
    have hs : s.size ≤ 64 := by omega
    have e : (64 - (s.size : Int)).toNat = 64 - s.size := by omega
    rw [e]
    refine ⟨⟨by omega, by omega⟩, by omega, by omega, by omega, ?_, fin _ ?_ _⟩
    · have : (bytesStr (List.replicate (64 - s.size) 0)).size = 64 - s.size := by
        show (List.map _ (List.replicate (64 - s.size) (0 : Int))).toArray.size = _
        simp
      omega
    · rw [whS, if_neg h, if_neg h2]
theorem rs_ok {Z : Glob} : FnS P Z 74 sRs := by
  refine fnS_of_safe Try.func74 (by kernel_rfl) (fun x => Nat.le_of_ble_eq_true (by kernel_rfl)) ?_
  rintro ⟨(th : Th), (m : As), (fu : Int), (n : Int), (s : ByteArray)⟩ ⟨(hd : okD th m fu), _⟩ X hX hz
  have hT : tabRs.Ok P Z := Tab.Ok.cons (read_ok.sum mRd) Tab.Ok.nil
  refine goS hz hX (by simp) hT Try.func74 (treeRs th m fu n s) ⟨rfl, rfl, hd, fun h => ?_, fun h => ?_⟩
  · have hin : inTh th n = true := by
      unfold rdE at h
      split at h
      · assumption
      · cases h
    exact endS 3 (by kernel_rfl) (Nat.le_refl _) (by show AV.s (.bool (rsB th m n s)) = .s (.bool (decide (rdS th m n = s))); rw [rsB, hin, Bool.true_and]) rfl
  · have hin : inTh th n = false := by
      unfold rdE at h
      split at h
      · cases h
      · rename_i hh; simpa using hh
    exact endS 3 (by kernel_rfl) (Nat.le_refl _) (by show AV.s (.bool (rsB th m n s)) = .s (.bool false); rw [rsB, hin, Bool.false_and]) rfl
end Ds

namespace Ds
open Go Go.Sx Go.Proofs Lf
def nsLg : List (Nat × Norm) := [(3, ⟨[], [0, 3, 4], 0, []⟩), (6, ⟨[], [0, 3], 0, []⟩)]
noncomputable def cLg (l : List (CL cSt)) (i : Int) : Cfg := ⟨sl 38 [(0, .s (.ro (.typ cSt l))), (3, .s (.anyi .i64)), (4, .s (.int .i64 i))], [], hd Try.f57 3, {}⟩
noncomputable def cLg6 (l : List (CL cSt)) : Cfg := ⟨sl 38 [(0, .s (.ro (.typ cSt l))), (3, .s (.anyi .i64))], [], hr Try.f57 6, {}⟩
theorem treeLg (l : List (CL cSt)) : run P tab0.sum Try.f57 nsLg (start Try.f57 [.s (.ro (.typ cSt l))] []) =
  Tree.at (Cfg.mk (sl (38 : Nat) [((0 : Nat), AV.s (SV.ro (Con.typ [CK.int IntKind.u8, CK.int IntKind.i64, CK.str, CK.bools, CK.int IntKind.i64] l))), ((3 : Nat), AV.s (SV.int IntKind.i64 (0 : Int))), ((4 : Nat), AV.s (SV.int IntKind.i64 (0 : Int)))]) [] (hd Try.f57 (3 : Nat)) (Stk.mk none false (0 : Nat) [] (0 : Nat))) := by kernel_rfl
theorem loopLg (l : List (CL cSt)) (i : Int) : run P tab0.sum Try.f57 nsLg (cLg l i) =
  Tree.ite (decide (i < (↑l.length : Int))) (Tree.both ((0 : Nat) = (0 : Nat)) True (Tree.need ((0 : Int) ≤ i) (Tree.need (i < (↑l.length : Int)) (Tree.need ((0 : Int) ≤ i) (Tree.need (i < (↑l.length : Int)) (Tree.need (inI64 (i + (1 : Int))) (Tree.at (Cfg.mk (sl (38 : Nat) [((0 : Nat), AV.s (SV.ro (Con.typ [CK.int IntKind.u8, CK.int IntKind.i64, CK.str, CK.bools, CK.int IntKind.i64] l))), ((3 : Nat), AV.s (SV.anyi IntKind.i64)), ((4 : Nat), AV.s (SV.int IntKind.i64 (i + (1 : Int))))]) [] (hd Try.f57 (3 : Nat)) (Stk.mk none false (0 : Nat) [] (0 : Nat))))))))) (Tree.at (Cfg.mk (sl (38 : Nat) [((0 : Nat), AV.s (SV.ro (Con.typ [CK.int IntKind.u8, CK.int IntKind.i64, CK.str, CK.bools, CK.int IntKind.i64] l))), ((3 : Nat), AV.s (SV.anyi IntKind.i64))]) [] (hr Try.f57 (6 : Nat)) (Stk.mk none false (0 : Nat) [] (0 : Nat))))) (Tree.at (Cfg.mk (sl (38 : Nat) [((0 : Nat), AV.s (SV.ro (Con.typ [CK.int IntKind.u8, CK.int IntKind.i64, CK.str, CK.bools, CK.int IntKind.i64] l))), ((3 : Nat), AV.s (SV.anyi IntKind.i64))]) [] (hr Try.f57 (6 : Nat)) (Stk.mk none false (0 : Nat) [] (0 : Nat)))) := by kernel_rfl
theorem loopLg6 (l : List (CL cSt)) : run P tab0.sum Try.f57 nsLg (cLg6 l) =
  Tree.both ((0 : Nat) = (0 : Nat)) True (Tree.ret [] (AV.s (SV.blit true))) (Tree.ret [] (AV.s (SV.bool (decide ((↑l.length : Int) > (300 : Int)))))) := by kernel_rfl
abbrev sLg : Spec (List (CL cSt)) := ⟨fun l => [.s (.ro (.typ cSt l))], fun _ => [], fun l => [l.length ≤ 9223372036854775807], fun _ => [], fun l => .s (.anyb (l.length - 300) false)⟩
theorem lg_ok {Z : Glob} : FnS P Z 57 sLg := by
  refine fnS_of_safeW Try.func57 (by kernel_rfl) (fun x => Nat.le_of_ble_eq_true (by kernel_rfl)) ?_
  rintro (l : List (CL cSt)) ⟨(hl : l.length ≤ 9223372036854775807), _⟩ X hX hz
  have hns : ∀ x ∈ nsLg, (sLg.heap l).length ≤ x.2.m := by intro y hy; simp [nsLg] at hy; rcases hy with rfl | rfl <;> exact Nat.le_refl _
  have fin : Safe P 57 X (EndW sLg l) (cLg6 l) := by
    refine goS hz hX hns Tab.Ok.nil Try.func57 (loopLg6 l) ⟨fun _ => ?_, fun _ => ?_⟩
    · exact ⟨⟨[], [0], 0, []⟩, .s (.bool true), Nat.le_refl _, by kernel_rfl, fun ρ H O w v hv => by
        have := DenS_of_V (by simp) hv
        cases this
        exact DenV_s (.anyb _ _ _ (fun h => by cases h))⟩
    · exact ⟨⟨[], [0], 0, []⟩, .s (.bool (decide ((l.length : Int) > 300))), Nat.le_refl _, by kernel_rfl, fun ρ H O w v hv => by
        have := DenS_of_V (by simp) hv
        cases this
        exact DenV_s (.anyb _ _ _ (fun h => by have := of_decide_eq_false h; omega))⟩
  have loop : ∀ (j k : Nat), k + j = l.length → Safe P 57 X (EndW sLg l) (cLg l (k : Int)) := by
    intro j
    induction j with
    | zero =>
      intro k hk
      exact goS hz hX hns Tab.Ok.nil Try.func57 (loopLg l k) ⟨fun h => absurd (of_decide_eq_true h) (by omega), fun _ => fin⟩
    | succ j ih =>
      intro k hk
      exact goS hz hX hns Tab.Ok.nil Try.func57 (loopLg l k) ⟨fun _ => ⟨fun _ => ⟨by omega, by omega, by omega, by omega, ⟨by omega, by omega⟩, ih (k + 1) (by omega)⟩, fun _ => fin⟩, fun _ => fin⟩
  refine goS hz hX hns Tab.Ok.nil Try.func57 (treeLg l) ?_
  exact forget_safe (t := 3) (k := .i64) (n := 0) rfl (loop l.length 0 (by omega))
end Ds

namespace Ds
open Go Go.Sx Go.Proofs Lf
def mWr : List AV → RM ((Th × As × Int × Int × ByteArray) × List Nat)
  | [.ptr id 0, n, .s (.str s)] => (mAs [.ptr id 0]).bind fun ((th, m, fu), σ) => match n.num? with
    | some (_, _, n) => .ret ((th, m, fu, n, s), σ)
    | none => .fail "no number"
  | _ => .fail "no disk"
def mFu : List AV → RM ((Th × As × Int × Int) × List Nat) := mRd
def mCr : List AV → RM ((Th × As × Int × List Bool × Int × Int) × List Nat)
  | [.ptr id 0, .s (.ro (.bools ks)), t, c] => (mAs [.ptr id 0]).bind fun ((th, m, fu), σ) => match t.num?, c.num? with
    | some (_, _, t), some (_, _, c) => .ret ((th, m, fu, ks, t, c), σ)
    | _, _ => .fail "no number"
  | _ => .fail "no disk"
abbrev sumWr := sumS sWr mWr
abbrev sumFl := sumS sFl mAs
abbrev sumFu := sumS sFu mFu
abbrev sumDe := sumS sDe mAs
abbrev sumSe := sumS sSe mAs
abbrev sumCo := sumS sCo mAs
abbrev sumCr := sumFrz 1 (.bools []) (sumS sCr mCr)
def tabDo : Tab := [(60, sumWh), (66, sumWr), (65, sumFl), (69, sumFu), (63, sumCr)]
def stE (fu k n : Int) (th : Th) (s : ByteArray) (c : Int) : Int := if k = 0 then wrE th fu n (whS s c) else if k = 1 then flE fu else if k = 2 then fuE fu n else crE c
def stT (th : Th) (m : As) (fu k n : Int) (ks : List Bool) (c : Int) : Th := if k = 0 then th else if k = 1 then flT th m fu else if k = 2 then th else crH th m ks n c
def stM (th : Th) (m : As) (fu k n : Int) (s : ByteArray) (c : Int) : As := if k = 0 then wrM th m fu n (whS s c) else if k = 1 then flM m fu else if k = 2 then m else crM m c
def stF (th : Th) (fu k n : Int) (s : ByteArray) (c : Int) : Int := if k = 0 then wrF th fu n (whS s c) else if k = 1 then burnF fu else if k = 2 then fuF fu n else crF fu c
abbrev avS (k n : Int) (s : ByteArray) (ks : List Bool) (c : Int) : AV := .agg [.s (.int .u8 k), .s (.int .i64 n), .s (.str s), .s (.ro (.bools ks)), .s (.int .i64 c)]
theorem treeDo (th : Th) (m : As) (fu : Int) (k n : Int) (s : ByteArray) (ks : List Bool) (c : Int) : run P tabDo.sum Try.f59 [] (start Try.f59 [avS k n s ks c, .ptr 0 0] (hD th m fu)) =
  Tree.ite (k == (0 : Int)) (Tree.need (@Slf (Option (List AV)) (some [AV.ptr (0 : Nat) (0 : Nat), AV.s (SV.int IntKind.i64 n), AV.s (SV.str (whS s c))])) (Tree.need (@Slf (Option (List AObj)) (some [AObj.own [AV.vec (1 : Nat), AV.mapv (2 : Nat), AV.s (SV.int IntKind.i64 fu)] (145 : Nat), AObj.vec (Con.typ [CK.arr IntKind.u8 (64 : Nat)] th) (169 : Nat), AObj.map (CK.arr IntKind.u8 (64 : Nat)) m])) (Tree.need (okD th m fu) (Tree.ret [AObj.own [AV.vec (1 : Nat), AV.mapv (2 : Nat), AV.s (SV.int IntKind.i64 (wrF th fu n (whS s c)))] (145 : Nat), AObj.vec (Con.typ [CK.arr IntKind.u8 (64 : Nat)] th) (169 : Nat), AObj.map (CK.arr IntKind.u8 (64 : Nat)) (wrM th m fu n (whS s c)), AObj.own [AV.s (SV.int IntKind.u8 k), AV.s (SV.int IntKind.i64 n), AV.s (SV.str s), AV.s (SV.ro (Con.bools ks)), AV.s (SV.int IntKind.i64 c)] (91 : Nat)] (AV.s (SV.int IntKind.i64 (wrE th fu n (whS s c)))))))) (Tree.ite (k == (1 : Int)) (Tree.need (@Slf (Option (List AV)) (some [AV.ptr (0 : Nat) (0 : Nat)])) (Tree.need (@Slf (Option (List AObj)) (some [AObj.own [AV.vec (1 : Nat), AV.mapv (2 : Nat), AV.s (SV.int IntKind.i64 fu)] (145 : Nat), AObj.vec (Con.typ [CK.arr IntKind.u8 (64 : Nat)] th) (169 : Nat), AObj.map (CK.arr IntKind.u8 (64 : Nat)) m])) (Tree.need (okD th m fu) (Tree.ret [AObj.own [AV.vec (1 : Nat), AV.mapv (2 : Nat), AV.s (SV.int IntKind.i64 (burnF fu))] (145 : Nat), AObj.vec (Con.typ [CK.arr IntKind.u8 (64 : Nat)] (flT th m fu)) (169 : Nat), AObj.map (CK.arr IntKind.u8 (64 : Nat)) (flM m fu), AObj.own [AV.s (SV.int IntKind.u8 k), AV.s (SV.int IntKind.i64 n), AV.s (SV.str s), AV.s (SV.ro (Con.bools ks)), AV.s (SV.int IntKind.i64 c)] (91 : Nat)] (AV.s (SV.int IntKind.i64 (flE fu))))))) (Tree.ite (k == (2 : Int)) (Tree.need (@Slf (Option (List AV)) (some [AV.ptr (0 : Nat) (0 : Nat), AV.s (SV.int IntKind.i64 n)])) (Tree.need (@Slf (Option (List AObj)) (some [AObj.own [AV.vec (1 : Nat), AV.mapv (2 : Nat), AV.s (SV.int IntKind.i64 fu)] (145 : Nat), AObj.vec (Con.typ [CK.arr IntKind.u8 (64 : Nat)] th) (169 : Nat), AObj.map (CK.arr IntKind.u8 (64 : Nat)) m])) (Tree.ret [AObj.own [AV.vec (1 : Nat), AV.mapv (2 : Nat), AV.s (SV.int IntKind.i64 (fuF fu n))] (145 : Nat), AObj.vec (Con.typ [CK.arr IntKind.u8 (64 : Nat)] th) (169 : Nat), AObj.map (CK.arr IntKind.u8 (64 : Nat)) m, AObj.own [AV.s (SV.int IntKind.u8 k), AV.s (SV.int IntKind.i64 n), AV.s (SV.str s), AV.s (SV.ro (Con.bools ks)), AV.s (SV.int IntKind.i64 c)] (91 : Nat)] (AV.s (SV.int IntKind.i64 (fuE fu n)))))) (Tree.need (@Slf (Option (List AV)) (some [AV.ptr (0 : Nat) (0 : Nat), AV.s (SV.ro (Con.bools ks)), AV.s (SV.int IntKind.i64 n), AV.s (SV.int IntKind.i64 c)])) (Tree.need (@Slf (Option (List AObj)) (some [AObj.own [AV.vec (1 : Nat), AV.mapv (2 : Nat), AV.s (SV.int IntKind.i64 fu)] (145 : Nat), AObj.vec (Con.typ [CK.arr IntKind.u8 (64 : Nat)] th) (169 : Nat), AObj.map (CK.arr IntKind.u8 (64 : Nat)) m])) (Tree.need (okD th m fu) (Tree.ret [AObj.own [AV.vec (1 : Nat), AV.mapv (2 : Nat), AV.s (SV.int IntKind.i64 (crF fu c))] (145 : Nat), AObj.vec (Con.typ [CK.arr IntKind.u8 (64 : Nat)] (crH th m ks n c)) (169 : Nat), AObj.map (CK.arr IntKind.u8 (64 : Nat)) (crM m c), AObj.own [AV.s (SV.int IntKind.u8 k), AV.s (SV.int IntKind.i64 n), AV.s (SV.str s), AV.s (SV.ro (Con.bools ks)), AV.s (SV.int IntKind.i64 c)] (91 : Nat)] (AV.s (SV.int IntKind.i64 (crE c))))))))) := by kernel_rfl
abbrev sDo : Spec (Th × As × Int × Int × Int × ByteArray × List Bool × Int) := ⟨fun (_, _, _, k, n, s, ks, c) => [avS k n s ks c, .ptr 0 0], fun (th, m, fu, _) => hD th m fu, fun (th, m, fu, _) => [okD th m fu],
  fun (th, m, fu, k, n, s, ks, c) => hD (stT th m fu k n ks c) (stM th m fu k n s c) (stF th fu k n s c), fun (th, _, fu, k, n, s, _, c) => .s (.int .i64 (stE fu k n th s c))⟩
def mDo : List AV → RM ((Th × As × Int × Int × Int × ByteArray × List Bool × Int) × List Nat)
  | [.agg [.s (.int _ k), .s (.int _ n), .s (.str s), .s (.ro (.bools ks)), .s (.int _ c)], .ptr id 0] => (mAs [.ptr id 0]).bind fun ((th, m, fu), σ) => .ret ((th, m, fu, k, n, s, ks, c), σ)
  | _ => .fail "no step"
abbrev sumDo := sumS sDo mDo
def tabWk : Tab := [(67, sumOfF), (74, sumS sRs fun
  | [.ptr id 0, n, .s (.str s)] => (mAs [.ptr id 0]).bind fun ((th, m, fu), σ) => match n.num? with
    | some (_, _, n) => .ret ((th, m, fu, n, s), σ)
    | none => .fail "no number"
  | _ => .fail "no disk"), (66, sumWr), (65, sumFl), (69, sumFu), (63, sumCr), (64, sumDe), (61, sumAs)]
def nsWk : List (Nat × Norm) := [(midKey + 2005, ⟨[], [0, 1, 9, 10, 11], 0, []⟩), (midKey + 2011, ⟨[], [0, 1, 15, 16, 17], 0, []⟩), (midKey + 2016, ⟨[], [0, 1, 21, 22], 0, []⟩), (midKey + 2023, ⟨[], [0, 1, 27, 28, 29], 0, []⟩), (midKey + 2028, ⟨[], [0, 1, 33, 34], 0, []⟩), (midKey + 2034, ⟨[], [0, 1, 38, 39, 40], 0, []⟩), (midKey + 2039, ⟨[], [0, 1, 44, 45], 0, []⟩), (midKey + 2044, ⟨[], [0, 1, 49, 50], 0, []⟩), (midKey + 2049, ⟨[], [0, 1, 53, 54, 55], 0, []⟩), (midKey + 2054, ⟨[], [0, 1, 59, 60], 0, []⟩), (midKey + 2060, ⟨[], [0, 1, 64, 65, 66], 0, []⟩), (midKey + 2071, ⟨[], [0, 1, 75, 76, 77], 0, []⟩), (midKey + 2076, ⟨[], [0, 1, 81, 82], 0, []⟩), (midKey + 2081, ⟨[], [0, 1, 85, 86, 87], 0, []⟩), (midKey + 4002, ⟨[], [0, 1, 91, 92], 0, []⟩), (midKey + 5002, ⟨[], [0, 1, 94, 95], 0, []⟩)]
noncomputable def wk_c0 : Cfg := Sx.start Try.f56 [] []
theorem wk_t0 : run (P) (tabWk.sum) (Try.f56) (nsWk) wk_c0 ([(28 : FuncId)]) =
  Tree.need ((0 : Int) ≤ (2 : Int)) (Tree.need ((2 : Int) ≤ (2 : Int)) (Tree.need ((2 : Int) ≤ (1073741824 : Int)) (Tree.at (Cfg.mk (sl (115 : Nat) [((0 : Nat), AV.s (SV.bool false)), ((1 : Nat), AV.ptr (0 : Nat) (0 : Nat)), ((9 : Nat), AV.s (SV.bool false)), ((10 : Nat), AV.ptr (0 : Nat) (0 : Nat)), ((11 : Nat), AV.s (SV.str (ofS (0 : Int))))]) [AObj.own [AV.vec (1 : Nat), AV.mapv (2 : Nat), AV.s (SV.int IntKind.i64 (-1 : Int))] (145 : Nat), AObj.vec (Con.typ [CK.arr IntKind.u8 (64 : Nat)] (List.replicate (Int.toNat (2 : Int)) (CL.d [CK.arr IntKind.u8 (64 : Nat)]))) (169 : Nat), AObj.map (CK.arr IntKind.u8 (64 : Nat)) []] (cal Try.f56 (2 : Nat) (5 : Nat)) (Stk.mk none false (0 : Nat) [] (2 : Nat)))))) := by kernel_rfl
noncomputable def wk_d0 : List (CL [CK.arr IntKind.u8 (64 : Nat)]) := List.replicate (Int.toNat (2 : Int)) (CL.d [CK.arr IntKind.u8 (64 : Nat)])
noncomputable def wk_c1 : Cfg := Cfg.mk (sl (115 : Nat) [((0 : Nat), AV.s (SV.bool false)), ((1 : Nat), AV.ptr (0 : Nat) (0 : Nat)), ((9 : Nat), AV.s (SV.bool false)), ((10 : Nat), AV.ptr (0 : Nat) (0 : Nat)), ((11 : Nat), AV.s (SV.str (ofS (0 : Int))))]) [AObj.own [AV.vec (1 : Nat), AV.mapv (2 : Nat), AV.s (SV.int IntKind.i64 (-1 : Int))] (145 : Nat), AObj.vec (Con.typ [CK.arr IntKind.u8 (64 : Nat)] wk_d0) (169 : Nat), AObj.map (CK.arr IntKind.u8 (64 : Nat)) []] (cal Try.f56 (2 : Nat) (5 : Nat)) (Stk.mk none false (0 : Nat) [] (2 : Nat))
theorem wk_t1 : run (P) (tabWk.sum) (Try.f56) (nsWk) wk_c1 ([(28 : FuncId)]) =
  Tree.ite false (Tree.ret [AObj.own [AV.vec (1 : Nat), AV.mapv (2 : Nat), AV.s (SV.int IntKind.i64 (-1 : Int))] (145 : Nat), AObj.vec (Con.typ [CK.arr IntKind.u8 (64 : Nat)] wk_d0) (169 : Nat), AObj.map (CK.arr IntKind.u8 (64 : Nat)) []] (AV.s (SV.blit false))) (Tree.need (@Slf (Option (List AV)) (some [AV.ptr (0 : Nat) (0 : Nat), AV.s (SV.int IntKind.i64 (1 : Int)), AV.s (SV.str (ofS (0 : Int)))])) (Tree.need (@Slf (Option (List AObj)) (some [AObj.own [AV.vec (1 : Nat), AV.mapv (2 : Nat), AV.s (SV.int IntKind.i64 (-1 : Int))] (145 : Nat), AObj.vec (Con.typ [CK.arr IntKind.u8 (64 : Nat)] wk_d0) (169 : Nat), AObj.map (CK.arr IntKind.u8 (64 : Nat)) []])) (Tree.need (okD wk_d0 [] (-1 : Int)) (Tree.ite false (Tree.ret [AObj.own [AV.vec (1 : Nat), AV.mapv (2 : Nat), AV.s (SV.int IntKind.i64 (-1 : Int))] (145 : Nat), AObj.vec (Con.typ [CK.arr IntKind.u8 (64 : Nat)] wk_d0) (169 : Nat), AObj.map (CK.arr IntKind.u8 (64 : Nat)) []] (AV.s (SV.blit false))) (Tree.at (Cfg.mk (sl (115 : Nat) [((0 : Nat), AV.s (SV.bool false)), ((1 : Nat), AV.ptr (0 : Nat) (0 : Nat)), ((15 : Nat), AV.s (SV.bool false)), ((16 : Nat), AV.ptr (0 : Nat) (0 : Nat)), ((17 : Nat), AV.s (SV.str (ofS (7 : Int))))]) [AObj.own [AV.vec (1 : Nat), AV.mapv (2 : Nat), AV.s (SV.int IntKind.i64 (-1 : Int))] (145 : Nat), AObj.vec (Con.typ [CK.arr IntKind.u8 (64 : Nat)] wk_d0) (169 : Nat), AObj.map (CK.arr IntKind.u8 (64 : Nat)) []] (cal Try.f56 (2 : Nat) (11 : Nat)) (Stk.mk none false (0 : Nat) [] (2 : Nat)))))))) := by kernel_rfl
noncomputable def wk_c2 : Cfg := Cfg.mk (sl (115 : Nat) [((0 : Nat), AV.s (SV.bool false)), ((1 : Nat), AV.ptr (0 : Nat) (0 : Nat)), ((15 : Nat), AV.s (SV.bool false)), ((16 : Nat), AV.ptr (0 : Nat) (0 : Nat)), ((17 : Nat), AV.s (SV.str (ofS (7 : Int))))]) [AObj.own [AV.vec (1 : Nat), AV.mapv (2 : Nat), AV.s (SV.int IntKind.i64 (-1 : Int))] (145 : Nat), AObj.vec (Con.typ [CK.arr IntKind.u8 (64 : Nat)] wk_d0) (169 : Nat), AObj.map (CK.arr IntKind.u8 (64 : Nat)) []] (cal Try.f56 (2 : Nat) (11 : Nat)) (Stk.mk none false (0 : Nat) [] (2 : Nat))
theorem wk_t2 : run (P) (tabWk.sum) (Try.f56) (nsWk) wk_c2 ([(28 : FuncId)]) =
  Tree.ite false (Tree.ret [AObj.own [AV.vec (1 : Nat), AV.mapv (2 : Nat), AV.s (SV.int IntKind.i64 (-1 : Int))] (145 : Nat), AObj.vec (Con.typ [CK.arr IntKind.u8 (64 : Nat)] wk_d0) (169 : Nat), AObj.map (CK.arr IntKind.u8 (64 : Nat)) []] (AV.s (SV.blit false))) (Tree.need (@Slf (Option (List AV)) (some [AV.ptr (0 : Nat) (0 : Nat), AV.s (SV.int IntKind.i64 (1 : Int)), AV.s (SV.str (ofS (7 : Int)))])) (Tree.need (@Slf (Option (List AObj)) (some [AObj.own [AV.vec (1 : Nat), AV.mapv (2 : Nat), AV.s (SV.int IntKind.i64 (-1 : Int))] (145 : Nat), AObj.vec (Con.typ [CK.arr IntKind.u8 (64 : Nat)] wk_d0) (169 : Nat), AObj.map (CK.arr IntKind.u8 (64 : Nat)) []])) (Tree.need (okD wk_d0 [] (-1 : Int)) (Tree.ite false (Tree.ret [AObj.own [AV.vec (1 : Nat), AV.mapv (2 : Nat), AV.s (SV.int IntKind.i64 (wrF wk_d0 (-1 : Int) (1 : Int) (ofS (7 : Int))))] (145 : Nat), AObj.vec (Con.typ [CK.arr IntKind.u8 (64 : Nat)] wk_d0) (169 : Nat), AObj.map (CK.arr IntKind.u8 (64 : Nat)) (wrM wk_d0 [] (-1 : Int) (1 : Int) (ofS (7 : Int)))] (AV.s (SV.blit false))) (Tree.at (Cfg.mk (sl (115 : Nat) [((0 : Nat), AV.s (SV.bool false)), ((1 : Nat), AV.ptr (0 : Nat) (0 : Nat)), ((21 : Nat), AV.s (SV.bool false)), ((22 : Nat), AV.ptr (0 : Nat) (0 : Nat))]) [AObj.own [AV.vec (1 : Nat), AV.mapv (2 : Nat), AV.s (SV.int IntKind.i64 (wrF wk_d0 (-1 : Int) (1 : Int) (ofS (7 : Int))))] (145 : Nat), AObj.vec (Con.typ [CK.arr IntKind.u8 (64 : Nat)] wk_d0) (169 : Nat), AObj.map (CK.arr IntKind.u8 (64 : Nat)) (wrM wk_d0 [] (-1 : Int) (1 : Int) (ofS (7 : Int)))] (cal Try.f56 (2 : Nat) (16 : Nat)) (Stk.mk none false (0 : Nat) [] (2 : Nat)))))))) := by kernel_rfl
noncomputable def wk_d1 : Int := wrF wk_d0 (-1 : Int) (1 : Int) (ofS (7 : Int))
noncomputable def wk_d2 : As := wrM wk_d0 [] (-1 : Int) (1 : Int) (ofS (7 : Int))
noncomputable def wk_c3 : Cfg := Cfg.mk (sl (115 : Nat) [((0 : Nat), AV.s (SV.bool false)), ((1 : Nat), AV.ptr (0 : Nat) (0 : Nat)), ((21 : Nat), AV.s (SV.bool false)), ((22 : Nat), AV.ptr (0 : Nat) (0 : Nat))]) [AObj.own [AV.vec (1 : Nat), AV.mapv (2 : Nat), AV.s (SV.int IntKind.i64 wk_d1)] (145 : Nat), AObj.vec (Con.typ [CK.arr IntKind.u8 (64 : Nat)] wk_d0) (169 : Nat), AObj.map (CK.arr IntKind.u8 (64 : Nat)) wk_d2] (cal Try.f56 (2 : Nat) (16 : Nat)) (Stk.mk none false (0 : Nat) [] (2 : Nat))
theorem wk_t3 : run (P) (tabWk.sum) (Try.f56) (nsWk) wk_c3 ([(28 : FuncId)]) =
  Tree.ite false (Tree.ret [AObj.own [AV.vec (1 : Nat), AV.mapv (2 : Nat), AV.s (SV.int IntKind.i64 wk_d1)] (145 : Nat), AObj.vec (Con.typ [CK.arr IntKind.u8 (64 : Nat)] wk_d0) (169 : Nat), AObj.map (CK.arr IntKind.u8 (64 : Nat)) wk_d2] (AV.s (SV.blit false))) (Tree.need (@Slf (Option (List AV)) (some [AV.ptr (0 : Nat) (0 : Nat)])) (Tree.need (@Slf (Option (List AObj)) (some [AObj.own [AV.vec (1 : Nat), AV.mapv (2 : Nat), AV.s (SV.int IntKind.i64 wk_d1)] (145 : Nat), AObj.vec (Con.typ [CK.arr IntKind.u8 (64 : Nat)] wk_d0) (169 : Nat), AObj.map (CK.arr IntKind.u8 (64 : Nat)) wk_d2])) (Tree.need (okD wk_d0 wk_d2 wk_d1) (Tree.ite false (Tree.ret [AObj.own [AV.vec (1 : Nat), AV.mapv (2 : Nat), AV.s (SV.int IntKind.i64 wk_d1)] (145 : Nat), AObj.vec (Con.typ [CK.arr IntKind.u8 (64 : Nat)] wk_d0) (169 : Nat), AObj.map (CK.arr IntKind.u8 (64 : Nat)) wk_d2, AObj.vec (Con.ints IntKind.i64 (asK wk_d2)) (3 : Nat)] (AV.s (SV.blit false))) (Tree.at (Cfg.mk (sl (115 : Nat) [((0 : Nat), AV.s (SV.bool false)), ((1 : Nat), AV.ptr (0 : Nat) (0 : Nat)), ((27 : Nat), AV.s (SV.bool false)), ((28 : Nat), AV.ptr (0 : Nat) (0 : Nat)), ((29 : Nat), AV.s (SV.str (ofS (7 : Int))))]) [AObj.own [AV.vec (1 : Nat), AV.mapv (2 : Nat), AV.s (SV.int IntKind.i64 wk_d1)] (145 : Nat), AObj.vec (Con.typ [CK.arr IntKind.u8 (64 : Nat)] wk_d0) (169 : Nat), AObj.map (CK.arr IntKind.u8 (64 : Nat)) wk_d2] (cal Try.f56 (2 : Nat) (23 : Nat)) (Stk.mk none false (0 : Nat) [] (2 : Nat)))))))) := by kernel_rfl
noncomputable def wk_c4 : Cfg := Cfg.mk (sl (115 : Nat) [((0 : Nat), AV.s (SV.bool false)), ((1 : Nat), AV.ptr (0 : Nat) (0 : Nat)), ((27 : Nat), AV.s (SV.bool false)), ((28 : Nat), AV.ptr (0 : Nat) (0 : Nat)), ((29 : Nat), AV.s (SV.str (ofS (7 : Int))))]) [AObj.own [AV.vec (1 : Nat), AV.mapv (2 : Nat), AV.s (SV.int IntKind.i64 wk_d1)] (145 : Nat), AObj.vec (Con.typ [CK.arr IntKind.u8 (64 : Nat)] wk_d0) (169 : Nat), AObj.map (CK.arr IntKind.u8 (64 : Nat)) wk_d2] (cal Try.f56 (2 : Nat) (23 : Nat)) (Stk.mk none false (0 : Nat) [] (2 : Nat))
theorem wk_t4 : run (P) (tabWk.sum) (Try.f56) (nsWk) wk_c4 ([(28 : FuncId)]) =
  Tree.ite false (Tree.ret [AObj.own [AV.vec (1 : Nat), AV.mapv (2 : Nat), AV.s (SV.int IntKind.i64 wk_d1)] (145 : Nat), AObj.vec (Con.typ [CK.arr IntKind.u8 (64 : Nat)] wk_d0) (169 : Nat), AObj.map (CK.arr IntKind.u8 (64 : Nat)) wk_d2] (AV.s (SV.blit false))) (Tree.need (@Slf (Option (List AV)) (some [AV.ptr (0 : Nat) (0 : Nat), AV.s (SV.int IntKind.i64 (1 : Int)), AV.s (SV.str (ofS (7 : Int)))])) (Tree.need (@Slf (Option (List AObj)) (some [AObj.own [AV.vec (1 : Nat), AV.mapv (2 : Nat), AV.s (SV.int IntKind.i64 wk_d1)] (145 : Nat), AObj.vec (Con.typ [CK.arr IntKind.u8 (64 : Nat)] wk_d0) (169 : Nat), AObj.map (CK.arr IntKind.u8 (64 : Nat)) wk_d2])) (Tree.need (okD wk_d0 wk_d2 wk_d1) (Tree.ite false (Tree.ret [AObj.own [AV.vec (1 : Nat), AV.mapv (2 : Nat), AV.s (SV.int IntKind.i64 wk_d1)] (145 : Nat), AObj.vec (Con.typ [CK.arr IntKind.u8 (64 : Nat)] wk_d0) (169 : Nat), AObj.map (CK.arr IntKind.u8 (64 : Nat)) wk_d2] (AV.s (SV.blit false))) (Tree.at (Cfg.mk (sl (115 : Nat) [((0 : Nat), AV.s (SV.bool false)), ((1 : Nat), AV.ptr (0 : Nat) (0 : Nat)), ((33 : Nat), AV.s (SV.bool false)), ((34 : Nat), AV.ptr (0 : Nat) (0 : Nat))]) [AObj.own [AV.vec (1 : Nat), AV.mapv (2 : Nat), AV.s (SV.int IntKind.i64 wk_d1)] (145 : Nat), AObj.vec (Con.typ [CK.arr IntKind.u8 (64 : Nat)] wk_d0) (169 : Nat), AObj.map (CK.arr IntKind.u8 (64 : Nat)) wk_d2] (cal Try.f56 (2 : Nat) (28 : Nat)) (Stk.mk none false (0 : Nat) [] (2 : Nat)))))))) := by kernel_rfl
noncomputable def wk_c5 : Cfg := Cfg.mk (sl (115 : Nat) [((0 : Nat), AV.s (SV.bool false)), ((1 : Nat), AV.ptr (0 : Nat) (0 : Nat)), ((33 : Nat), AV.s (SV.bool false)), ((34 : Nat), AV.ptr (0 : Nat) (0 : Nat))]) [AObj.own [AV.vec (1 : Nat), AV.mapv (2 : Nat), AV.s (SV.int IntKind.i64 wk_d1)] (145 : Nat), AObj.vec (Con.typ [CK.arr IntKind.u8 (64 : Nat)] wk_d0) (169 : Nat), AObj.map (CK.arr IntKind.u8 (64 : Nat)) wk_d2] (cal Try.f56 (2 : Nat) (28 : Nat)) (Stk.mk none false (0 : Nat) [] (2 : Nat))
theorem wk_t5 : run (P) (tabWk.sum) (Try.f56) (nsWk) wk_c5 ([(28 : FuncId)]) =
  Tree.ite false (Tree.ret [AObj.own [AV.vec (1 : Nat), AV.mapv (2 : Nat), AV.s (SV.int IntKind.i64 wk_d1)] (145 : Nat), AObj.vec (Con.typ [CK.arr IntKind.u8 (64 : Nat)] wk_d0) (169 : Nat), AObj.map (CK.arr IntKind.u8 (64 : Nat)) wk_d2] (AV.s (SV.blit false))) (Tree.need (@Slf (Option (List AV)) (some [AV.ptr (0 : Nat) (0 : Nat), AV.s (SV.ro (Con.bools [])), AV.s (SV.int IntKind.i64 (-1 : Int)), AV.s (SV.int IntKind.i64 (0 : Int))])) (Tree.need (@Slf (Option (List AObj)) (some [AObj.own [AV.vec (1 : Nat), AV.mapv (2 : Nat), AV.s (SV.int IntKind.i64 wk_d1)] (145 : Nat), AObj.vec (Con.typ [CK.arr IntKind.u8 (64 : Nat)] wk_d0) (169 : Nat), AObj.map (CK.arr IntKind.u8 (64 : Nat)) wk_d2])) (Tree.need (okD wk_d0 wk_d2 wk_d1) (Tree.ite false (Tree.ret [AObj.own [AV.vec (1 : Nat), AV.mapv (2 : Nat), AV.s (SV.int IntKind.i64 (crF wk_d1 (0 : Int)))] (145 : Nat), AObj.vec (Con.typ [CK.arr IntKind.u8 (64 : Nat)] (crH wk_d0 wk_d2 [] (-1 : Int) (0 : Int))) (169 : Nat), AObj.map (CK.arr IntKind.u8 (64 : Nat)) (crM wk_d2 (0 : Int))] (AV.s (SV.blit false))) (Tree.at (Cfg.mk (sl (115 : Nat) [((0 : Nat), AV.s (SV.bool false)), ((1 : Nat), AV.ptr (0 : Nat) (0 : Nat)), ((38 : Nat), AV.s (SV.bool false)), ((39 : Nat), AV.ptr (0 : Nat) (0 : Nat)), ((40 : Nat), AV.s (SV.str (ofS (0 : Int))))]) [AObj.own [AV.vec (1 : Nat), AV.mapv (2 : Nat), AV.s (SV.int IntKind.i64 (crF wk_d1 (0 : Int)))] (145 : Nat), AObj.vec (Con.typ [CK.arr IntKind.u8 (64 : Nat)] (crH wk_d0 wk_d2 [] (-1 : Int) (0 : Int))) (169 : Nat), AObj.map (CK.arr IntKind.u8 (64 : Nat)) (crM wk_d2 (0 : Int))] (cal Try.f56 (2 : Nat) (34 : Nat)) (Stk.mk none false (0 : Nat) [] (2 : Nat)))))))) := by kernel_rfl
noncomputable def wk_c6 : Cfg := Cfg.mk (sl (115 : Nat) [((0 : Nat), AV.s (SV.bool false)), ((1 : Nat), AV.ptr (0 : Nat) (0 : Nat)), ((38 : Nat), AV.s (SV.bool false)), ((39 : Nat), AV.ptr (0 : Nat) (0 : Nat)), ((40 : Nat), AV.s (SV.str (ofS (0 : Int))))]) [AObj.own [AV.vec (1 : Nat), AV.mapv (2 : Nat), AV.s (SV.int IntKind.i64 (crF wk_d1 (0 : Int)))] (145 : Nat), AObj.vec (Con.typ [CK.arr IntKind.u8 (64 : Nat)] (crH wk_d0 wk_d2 [] (-1 : Int) (0 : Int))) (169 : Nat), AObj.map (CK.arr IntKind.u8 (64 : Nat)) (crM wk_d2 (0 : Int))] (cal Try.f56 (2 : Nat) (34 : Nat)) (Stk.mk none false (0 : Nat) [] (2 : Nat))
theorem wk_t6 : run (P) (tabWk.sum) (Try.f56) (nsWk) wk_c6 ([(28 : FuncId)]) =
  Tree.ite false (Tree.ret [AObj.own [AV.vec (1 : Nat), AV.mapv (2 : Nat), AV.s (SV.int IntKind.i64 (crF wk_d1 (0 : Int)))] (145 : Nat), AObj.vec (Con.typ [CK.arr IntKind.u8 (64 : Nat)] (crH wk_d0 wk_d2 [] (-1 : Int) (0 : Int))) (169 : Nat), AObj.map (CK.arr IntKind.u8 (64 : Nat)) (crM wk_d2 (0 : Int))] (AV.s (SV.blit false))) (Tree.need (@Slf (Option (List AV)) (some [AV.ptr (0 : Nat) (0 : Nat), AV.s (SV.int IntKind.i64 (1 : Int)), AV.s (SV.str (ofS (0 : Int)))])) (Tree.need (@Slf (Option (List AObj)) (some [AObj.own [AV.vec (1 : Nat), AV.mapv (2 : Nat), AV.s (SV.int IntKind.i64 (crF wk_d1 (0 : Int)))] (145 : Nat), AObj.vec (Con.typ [CK.arr IntKind.u8 (64 : Nat)] (crH wk_d0 wk_d2 [] (-1 : Int) (0 : Int))) (169 : Nat), AObj.map (CK.arr IntKind.u8 (64 : Nat)) (crM wk_d2 (0 : Int))])) (Tree.need (okD (crH wk_d0 wk_d2 [] (-1 : Int) (0 : Int)) (crM wk_d2 (0 : Int)) (crF wk_d1 (0 : Int))) (Tree.ite false (Tree.ret [AObj.own [AV.vec (1 : Nat), AV.mapv (2 : Nat), AV.s (SV.int IntKind.i64 (crF wk_d1 (0 : Int)))] (145 : Nat), AObj.vec (Con.typ [CK.arr IntKind.u8 (64 : Nat)] (crH wk_d0 wk_d2 [] (-1 : Int) (0 : Int))) (169 : Nat), AObj.map (CK.arr IntKind.u8 (64 : Nat)) (crM wk_d2 (0 : Int))] (AV.s (SV.blit false))) (Tree.at (Cfg.mk (sl (115 : Nat) [((0 : Nat), AV.s (SV.bool false)), ((1 : Nat), AV.ptr (0 : Nat) (0 : Nat)), ((44 : Nat), AV.s (SV.bool false)), ((45 : Nat), AV.ptr (0 : Nat) (0 : Nat))]) [AObj.own [AV.vec (1 : Nat), AV.mapv (2 : Nat), AV.s (SV.int IntKind.i64 (crF wk_d1 (0 : Int)))] (145 : Nat), AObj.vec (Con.typ [CK.arr IntKind.u8 (64 : Nat)] (crH wk_d0 wk_d2 [] (-1 : Int) (0 : Int))) (169 : Nat), AObj.map (CK.arr IntKind.u8 (64 : Nat)) (crM wk_d2 (0 : Int))] (cal Try.f56 (2 : Nat) (39 : Nat)) (Stk.mk none false (0 : Nat) [] (2 : Nat)))))))) := by kernel_rfl
noncomputable def wk_c7 : Cfg := Cfg.mk (sl (115 : Nat) [((0 : Nat), AV.s (SV.bool false)), ((1 : Nat), AV.ptr (0 : Nat) (0 : Nat)), ((44 : Nat), AV.s (SV.bool false)), ((45 : Nat), AV.ptr (0 : Nat) (0 : Nat))]) [AObj.own [AV.vec (1 : Nat), AV.mapv (2 : Nat), AV.s (SV.int IntKind.i64 (crF wk_d1 (0 : Int)))] (145 : Nat), AObj.vec (Con.typ [CK.arr IntKind.u8 (64 : Nat)] (crH wk_d0 wk_d2 [] (-1 : Int) (0 : Int))) (169 : Nat), AObj.map (CK.arr IntKind.u8 (64 : Nat)) (crM wk_d2 (0 : Int))] (cal Try.f56 (2 : Nat) (39 : Nat)) (Stk.mk none false (0 : Nat) [] (2 : Nat))
theorem wk_t7 : run (P) (tabWk.sum) (Try.f56) (nsWk) wk_c7 ([(28 : FuncId)]) =
  Tree.ite false (Tree.ret [AObj.own [AV.vec (1 : Nat), AV.mapv (2 : Nat), AV.s (SV.int IntKind.i64 (crF wk_d1 (0 : Int)))] (145 : Nat), AObj.vec (Con.typ [CK.arr IntKind.u8 (64 : Nat)] (crH wk_d0 wk_d2 [] (-1 : Int) (0 : Int))) (169 : Nat), AObj.map (CK.arr IntKind.u8 (64 : Nat)) (crM wk_d2 (0 : Int))] (AV.s (SV.blit false))) (Tree.need (@Slf (Option (List AV)) (some [AV.ptr (0 : Nat) (0 : Nat), AV.s (SV.int IntKind.i64 (1 : Int))])) (Tree.need (@Slf (Option (List AObj)) (some [AObj.own [AV.vec (1 : Nat), AV.mapv (2 : Nat), AV.s (SV.int IntKind.i64 (crF wk_d1 (0 : Int)))] (145 : Nat), AObj.vec (Con.typ [CK.arr IntKind.u8 (64 : Nat)] (crH wk_d0 wk_d2 [] (-1 : Int) (0 : Int))) (169 : Nat), AObj.map (CK.arr IntKind.u8 (64 : Nat)) (crM wk_d2 (0 : Int))])) (Tree.ite false (Tree.ret [AObj.own [AV.vec (1 : Nat), AV.mapv (2 : Nat), AV.s (SV.int IntKind.i64 (1 : Int))] (145 : Nat), AObj.vec (Con.typ [CK.arr IntKind.u8 (64 : Nat)] (crH wk_d0 wk_d2 [] (-1 : Int) (0 : Int))) (169 : Nat), AObj.map (CK.arr IntKind.u8 (64 : Nat)) (crM wk_d2 (0 : Int))] (AV.s (SV.blit false))) (Tree.at (Cfg.mk (sl (115 : Nat) [((0 : Nat), AV.s (SV.bool false)), ((1 : Nat), AV.ptr (0 : Nat) (0 : Nat)), ((49 : Nat), AV.s (SV.bool false)), ((50 : Nat), AV.ptr (0 : Nat) (0 : Nat))]) [AObj.own [AV.vec (1 : Nat), AV.mapv (2 : Nat), AV.s (SV.int IntKind.i64 (1 : Int))] (145 : Nat), AObj.vec (Con.typ [CK.arr IntKind.u8 (64 : Nat)] (crH wk_d0 wk_d2 [] (-1 : Int) (0 : Int))) (169 : Nat), AObj.map (CK.arr IntKind.u8 (64 : Nat)) (crM wk_d2 (0 : Int))] (cal Try.f56 (2 : Nat) (44 : Nat)) (Stk.mk none false (0 : Nat) [] (2 : Nat))))))) := by kernel_rfl
noncomputable def wk_c8 : Cfg := Cfg.mk (sl (115 : Nat) [((0 : Nat), AV.s (SV.bool false)), ((1 : Nat), AV.ptr (0 : Nat) (0 : Nat)), ((49 : Nat), AV.s (SV.bool false)), ((50 : Nat), AV.ptr (0 : Nat) (0 : Nat))]) [AObj.own [AV.vec (1 : Nat), AV.mapv (2 : Nat), AV.s (SV.int IntKind.i64 (1 : Int))] (145 : Nat), AObj.vec (Con.typ [CK.arr IntKind.u8 (64 : Nat)] (crH wk_d0 wk_d2 [] (-1 : Int) (0 : Int))) (169 : Nat), AObj.map (CK.arr IntKind.u8 (64 : Nat)) (crM wk_d2 (0 : Int))] (cal Try.f56 (2 : Nat) (44 : Nat)) (Stk.mk none false (0 : Nat) [] (2 : Nat))
theorem wk_t8 : run (P) (tabWk.sum) (Try.f56) (nsWk) wk_c8 ([(28 : FuncId)]) =
  Tree.ite false (Tree.ret [AObj.own [AV.vec (1 : Nat), AV.mapv (2 : Nat), AV.s (SV.int IntKind.i64 (1 : Int))] (145 : Nat), AObj.vec (Con.typ [CK.arr IntKind.u8 (64 : Nat)] (crH wk_d0 wk_d2 [] (-1 : Int) (0 : Int))) (169 : Nat), AObj.map (CK.arr IntKind.u8 (64 : Nat)) (crM wk_d2 (0 : Int))] (AV.s (SV.blit false))) (Tree.need (@Slf (Option (List AV)) (some [AV.ptr (0 : Nat) (0 : Nat)])) (Tree.need (@Slf (Option (List AObj)) (some [AObj.own [AV.vec (1 : Nat), AV.mapv (2 : Nat), AV.s (SV.int IntKind.i64 (1 : Int))] (145 : Nat), AObj.vec (Con.typ [CK.arr IntKind.u8 (64 : Nat)] (crH wk_d0 wk_d2 [] (-1 : Int) (0 : Int))) (169 : Nat), AObj.map (CK.arr IntKind.u8 (64 : Nat)) (crM wk_d2 (0 : Int))])) (Tree.ite false (Tree.ret [AObj.own [AV.vec (1 : Nat), AV.mapv (2 : Nat), AV.s (SV.int IntKind.i64 (1 : Int))] (145 : Nat), AObj.vec (Con.typ [CK.arr IntKind.u8 (64 : Nat)] (crH wk_d0 wk_d2 [] (-1 : Int) (0 : Int))) (169 : Nat), AObj.map (CK.arr IntKind.u8 (64 : Nat)) (crM wk_d2 (0 : Int))] (AV.s (SV.blit false))) (Tree.at (Cfg.mk (sl (115 : Nat) [((0 : Nat), AV.s (SV.bool false)), ((1 : Nat), AV.ptr (0 : Nat) (0 : Nat)), ((53 : Nat), AV.s (SV.bool false)), ((54 : Nat), AV.ptr (0 : Nat) (0 : Nat)), ((55 : Nat), AV.s (SV.str (ofS (1 : Int))))]) [AObj.own [AV.vec (1 : Nat), AV.mapv (2 : Nat), AV.s (SV.int IntKind.i64 (1 : Int))] (145 : Nat), AObj.vec (Con.typ [CK.arr IntKind.u8 (64 : Nat)] (crH wk_d0 wk_d2 [] (-1 : Int) (0 : Int))) (169 : Nat), AObj.map (CK.arr IntKind.u8 (64 : Nat)) (crM wk_d2 (0 : Int))] (cal Try.f56 (2 : Nat) (49 : Nat)) (Stk.mk none false (0 : Nat) [] (2 : Nat))))))) := by kernel_rfl
noncomputable def wk_c9 : Cfg := Cfg.mk (sl (115 : Nat) [((0 : Nat), AV.s (SV.bool false)), ((1 : Nat), AV.ptr (0 : Nat) (0 : Nat)), ((53 : Nat), AV.s (SV.bool false)), ((54 : Nat), AV.ptr (0 : Nat) (0 : Nat)), ((55 : Nat), AV.s (SV.str (ofS (1 : Int))))]) [AObj.own [AV.vec (1 : Nat), AV.mapv (2 : Nat), AV.s (SV.int IntKind.i64 (1 : Int))] (145 : Nat), AObj.vec (Con.typ [CK.arr IntKind.u8 (64 : Nat)] (crH wk_d0 wk_d2 [] (-1 : Int) (0 : Int))) (169 : Nat), AObj.map (CK.arr IntKind.u8 (64 : Nat)) (crM wk_d2 (0 : Int))] (cal Try.f56 (2 : Nat) (49 : Nat)) (Stk.mk none false (0 : Nat) [] (2 : Nat))
theorem wk_t9 : run (P) (tabWk.sum) (Try.f56) (nsWk) wk_c9 ([(28 : FuncId)]) =
  Tree.ite false (Tree.ret [AObj.own [AV.vec (1 : Nat), AV.mapv (2 : Nat), AV.s (SV.int IntKind.i64 (1 : Int))] (145 : Nat), AObj.vec (Con.typ [CK.arr IntKind.u8 (64 : Nat)] (crH wk_d0 wk_d2 [] (-1 : Int) (0 : Int))) (169 : Nat), AObj.map (CK.arr IntKind.u8 (64 : Nat)) (crM wk_d2 (0 : Int))] (AV.s (SV.blit false))) (Tree.need (@Slf (Option (List AV)) (some [AV.ptr (0 : Nat) (0 : Nat), AV.s (SV.int IntKind.i64 (0 : Int)), AV.s (SV.str (ofS (1 : Int)))])) (Tree.need (@Slf (Option (List AObj)) (some [AObj.own [AV.vec (1 : Nat), AV.mapv (2 : Nat), AV.s (SV.int IntKind.i64 (1 : Int))] (145 : Nat), AObj.vec (Con.typ [CK.arr IntKind.u8 (64 : Nat)] (crH wk_d0 wk_d2 [] (-1 : Int) (0 : Int))) (169 : Nat), AObj.map (CK.arr IntKind.u8 (64 : Nat)) (crM wk_d2 (0 : Int))])) (Tree.need (okD (crH wk_d0 wk_d2 [] (-1 : Int) (0 : Int)) (crM wk_d2 (0 : Int)) (1 : Int)) (Tree.ite false (Tree.ret [AObj.own [AV.vec (1 : Nat), AV.mapv (2 : Nat), AV.s (SV.int IntKind.i64 (wrF (crH wk_d0 wk_d2 [] (-1 : Int) (0 : Int)) (1 : Int) (0 : Int) (ofS (1 : Int))))] (145 : Nat), AObj.vec (Con.typ [CK.arr IntKind.u8 (64 : Nat)] (crH wk_d0 wk_d2 [] (-1 : Int) (0 : Int))) (169 : Nat), AObj.map (CK.arr IntKind.u8 (64 : Nat)) (wrM (crH wk_d0 wk_d2 [] (-1 : Int) (0 : Int)) (crM wk_d2 (0 : Int)) (1 : Int) (0 : Int) (ofS (1 : Int)))] (AV.s (SV.blit false))) (Tree.at (Cfg.mk (sl (115 : Nat) [((0 : Nat), AV.s (SV.bool false)), ((1 : Nat), AV.ptr (0 : Nat) (0 : Nat)), ((59 : Nat), AV.s (SV.bool false)), ((60 : Nat), AV.ptr (0 : Nat) (0 : Nat))]) [AObj.own [AV.vec (1 : Nat), AV.mapv (2 : Nat), AV.s (SV.int IntKind.i64 (wrF (crH wk_d0 wk_d2 [] (-1 : Int) (0 : Int)) (1 : Int) (0 : Int) (ofS (1 : Int))))] (145 : Nat), AObj.vec (Con.typ [CK.arr IntKind.u8 (64 : Nat)] (crH wk_d0 wk_d2 [] (-1 : Int) (0 : Int))) (169 : Nat), AObj.map (CK.arr IntKind.u8 (64 : Nat)) (wrM (crH wk_d0 wk_d2 [] (-1 : Int) (0 : Int)) (crM wk_d2 (0 : Int)) (1 : Int) (0 : Int) (ofS (1 : Int)))] (cal Try.f56 (2 : Nat) (54 : Nat)) (Stk.mk none false (0 : Nat) [] (2 : Nat)))))))) := by kernel_rfl
noncomputable def wk_d3 : Int := wrF (crH wk_d0 wk_d2 [] (-1 : Int) (0 : Int)) (1 : Int) (0 : Int) (ofS (1 : Int))
noncomputable def wk_d4 : As := wrM (crH wk_d0 wk_d2 [] (-1 : Int) (0 : Int)) (crM wk_d2 (0 : Int)) (1 : Int) (0 : Int) (ofS (1 : Int))
noncomputable def wk_c10 : Cfg := Cfg.mk (sl (115 : Nat) [((0 : Nat), AV.s (SV.bool false)), ((1 : Nat), AV.ptr (0 : Nat) (0 : Nat)), ((59 : Nat), AV.s (SV.bool false)), ((60 : Nat), AV.ptr (0 : Nat) (0 : Nat))]) [AObj.own [AV.vec (1 : Nat), AV.mapv (2 : Nat), AV.s (SV.int IntKind.i64 wk_d3)] (145 : Nat), AObj.vec (Con.typ [CK.arr IntKind.u8 (64 : Nat)] (crH wk_d0 wk_d2 [] (-1 : Int) (0 : Int))) (169 : Nat), AObj.map (CK.arr IntKind.u8 (64 : Nat)) wk_d4] (cal Try.f56 (2 : Nat) (54 : Nat)) (Stk.mk none false (0 : Nat) [] (2 : Nat))
theorem wk_t10 : run (P) (tabWk.sum) (Try.f56) (nsWk) wk_c10 ([(28 : FuncId)]) =
  Tree.ite false (Tree.ret [AObj.own [AV.vec (1 : Nat), AV.mapv (2 : Nat), AV.s (SV.int IntKind.i64 wk_d3)] (145 : Nat), AObj.vec (Con.typ [CK.arr IntKind.u8 (64 : Nat)] (crH wk_d0 wk_d2 [] (-1 : Int) (0 : Int))) (169 : Nat), AObj.map (CK.arr IntKind.u8 (64 : Nat)) wk_d4] (AV.s (SV.blit false))) (Tree.need (@Slf (Option (List AV)) (some [AV.ptr (0 : Nat) (0 : Nat)])) (Tree.need (@Slf (Option (List AObj)) (some [AObj.own [AV.vec (1 : Nat), AV.mapv (2 : Nat), AV.s (SV.int IntKind.i64 wk_d3)] (145 : Nat), AObj.vec (Con.typ [CK.arr IntKind.u8 (64 : Nat)] (crH wk_d0 wk_d2 [] (-1 : Int) (0 : Int))) (169 : Nat), AObj.map (CK.arr IntKind.u8 (64 : Nat)) wk_d4])) (Tree.ite false (Tree.ret [AObj.own [AV.vec (1 : Nat), AV.mapv (2 : Nat), AV.s (SV.int IntKind.i64 wk_d3)] (145 : Nat), AObj.vec (Con.typ [CK.arr IntKind.u8 (64 : Nat)] (crH wk_d0 wk_d2 [] (-1 : Int) (0 : Int))) (169 : Nat), AObj.map (CK.arr IntKind.u8 (64 : Nat)) wk_d4] (AV.s (SV.blit false))) (Tree.at (Cfg.mk (sl (115 : Nat) [((0 : Nat), AV.s (SV.bool false)), ((1 : Nat), AV.ptr (0 : Nat) (0 : Nat)), ((64 : Nat), AV.s (SV.bool false)), ((65 : Nat), AV.ptr (0 : Nat) (0 : Nat)), ((66 : Nat), AV.s (SV.str (ofS (2 : Int))))]) [AObj.own [AV.vec (1 : Nat), AV.mapv (2 : Nat), AV.s (SV.int IntKind.i64 wk_d3)] (145 : Nat), AObj.vec (Con.typ [CK.arr IntKind.u8 (64 : Nat)] (crH wk_d0 wk_d2 [] (-1 : Int) (0 : Int))) (169 : Nat), AObj.map (CK.arr IntKind.u8 (64 : Nat)) wk_d4] (cal Try.f56 (2 : Nat) (60 : Nat)) (Stk.mk none false (0 : Nat) [] (2 : Nat))))))) := by kernel_rfl
noncomputable def wk_c11 : Cfg := Cfg.mk (sl (115 : Nat) [((0 : Nat), AV.s (SV.bool false)), ((1 : Nat), AV.ptr (0 : Nat) (0 : Nat)), ((64 : Nat), AV.s (SV.bool false)), ((65 : Nat), AV.ptr (0 : Nat) (0 : Nat)), ((66 : Nat), AV.s (SV.str (ofS (2 : Int))))]) [AObj.own [AV.vec (1 : Nat), AV.mapv (2 : Nat), AV.s (SV.int IntKind.i64 wk_d3)] (145 : Nat), AObj.vec (Con.typ [CK.arr IntKind.u8 (64 : Nat)] (crH wk_d0 wk_d2 [] (-1 : Int) (0 : Int))) (169 : Nat), AObj.map (CK.arr IntKind.u8 (64 : Nat)) wk_d4] (cal Try.f56 (2 : Nat) (60 : Nat)) (Stk.mk none false (0 : Nat) [] (2 : Nat))
theorem wk_t11 : run (P) (tabWk.sum) (Try.f56) (nsWk) wk_c11 ([(28 : FuncId)]) =
  Tree.ite false (Tree.ret [AObj.own [AV.vec (1 : Nat), AV.mapv (2 : Nat), AV.s (SV.int IntKind.i64 wk_d3)] (145 : Nat), AObj.vec (Con.typ [CK.arr IntKind.u8 (64 : Nat)] (crH wk_d0 wk_d2 [] (-1 : Int) (0 : Int))) (169 : Nat), AObj.map (CK.arr IntKind.u8 (64 : Nat)) wk_d4] (AV.s (SV.blit false))) (Tree.need (@Slf (Option (List AV)) (some [AV.ptr (0 : Nat) (0 : Nat), AV.s (SV.int IntKind.i64 (0 : Int)), AV.s (SV.str (ofS (2 : Int)))])) (Tree.need (@Slf (Option (List AObj)) (some [AObj.own [AV.vec (1 : Nat), AV.mapv (2 : Nat), AV.s (SV.int IntKind.i64 wk_d3)] (145 : Nat), AObj.vec (Con.typ [CK.arr IntKind.u8 (64 : Nat)] (crH wk_d0 wk_d2 [] (-1 : Int) (0 : Int))) (169 : Nat), AObj.map (CK.arr IntKind.u8 (64 : Nat)) wk_d4])) (Tree.need (okD (crH wk_d0 wk_d2 [] (-1 : Int) (0 : Int)) wk_d4 wk_d3) (Tree.ite false (Tree.ret [AObj.own [AV.vec (1 : Nat), AV.mapv (2 : Nat), AV.s (SV.int IntKind.i64 (0 : Int))] (145 : Nat), AObj.vec (Con.typ [CK.arr IntKind.u8 (64 : Nat)] (crH wk_d0 wk_d2 [] (-1 : Int) (0 : Int))) (169 : Nat), AObj.map (CK.arr IntKind.u8 (64 : Nat)) (wrM (crH wk_d0 wk_d2 [] (-1 : Int) (0 : Int)) wk_d4 wk_d3 (0 : Int) (ofS (2 : Int)))] (AV.s (SV.blit false))) (Tree.need (@Slf (Option (List AV)) (some [AV.ptr (0 : Nat) (0 : Nat)])) (Tree.need (@Slf (Option (List AObj)) (some [AObj.own [AV.vec (1 : Nat), AV.mapv (2 : Nat), AV.s (SV.int IntKind.i64 (0 : Int))] (145 : Nat), AObj.vec (Con.typ [CK.arr IntKind.u8 (64 : Nat)] (crH wk_d0 wk_d2 [] (-1 : Int) (0 : Int))) (169 : Nat), AObj.map (CK.arr IntKind.u8 (64 : Nat)) (wrM (crH wk_d0 wk_d2 [] (-1 : Int) (0 : Int)) wk_d4 wk_d3 (0 : Int) (ofS (2 : Int)))])) (Tree.need (okD (crH wk_d0 wk_d2 [] (-1 : Int) (0 : Int)) (wrM (crH wk_d0 wk_d2 [] (-1 : Int) (0 : Int)) wk_d4 wk_d3 (0 : Int) (ofS (2 : Int))) (0 : Int)) (Tree.ite false (Tree.ret [AObj.own [AV.vec (1 : Nat), AV.mapv (2 : Nat), AV.s (SV.int IntKind.i64 (0 : Int))] (145 : Nat), AObj.vec (Con.typ [CK.arr IntKind.u8 (64 : Nat)] (flT (crH wk_d0 wk_d2 [] (-1 : Int) (0 : Int)) (wrM (crH wk_d0 wk_d2 [] (-1 : Int) (0 : Int)) wk_d4 wk_d3 (0 : Int) (ofS (2 : Int))) (0 : Int))) (169 : Nat), AObj.map (CK.arr IntKind.u8 (64 : Nat)) (flM (wrM (crH wk_d0 wk_d2 [] (-1 : Int) (0 : Int)) wk_d4 wk_d3 (0 : Int) (ofS (2 : Int))) (0 : Int))] (AV.s (SV.blit false))) (Tree.at (Cfg.mk (sl (115 : Nat) [((0 : Nat), AV.s (SV.bool false)), ((1 : Nat), AV.ptr (0 : Nat) (0 : Nat)), ((75 : Nat), AV.s (SV.bool false)), ((76 : Nat), AV.ptr (0 : Nat) (0 : Nat)), ((77 : Nat), AV.vec (1 : Nat))]) [AObj.own [AV.vec (2 : Nat), AV.mapv (3 : Nat), AV.s (SV.int IntKind.i64 (0 : Int))] (145 : Nat), AObj.vec (Con.bools [true]) (4 : Nat), AObj.vec (Con.typ [CK.arr IntKind.u8 (64 : Nat)] (flT (crH wk_d0 wk_d2 [] (-1 : Int) (0 : Int)) (wrM (crH wk_d0 wk_d2 [] (-1 : Int) (0 : Int)) wk_d4 wk_d3 (0 : Int) (ofS (2 : Int))) (0 : Int))) (169 : Nat), AObj.map (CK.arr IntKind.u8 (64 : Nat)) (flM (wrM (crH wk_d0 wk_d2 [] (-1 : Int) (0 : Int)) wk_d4 wk_d3 (0 : Int) (ofS (2 : Int))) (0 : Int))] (cal Try.f56 (2 : Nat) (71 : Nat)) (Stk.mk none false (0 : Nat) [] (2 : Nat)))))))))))) := by kernel_rfl
noncomputable def wk_d5 : Th := flT (crH wk_d0 wk_d2 [] (-1 : Int) (0 : Int)) (wrM (crH wk_d0 wk_d2 [] (-1 : Int) (0 : Int)) wk_d4 wk_d3 (0 : Int) (ofS (2 : Int))) (0 : Int)
noncomputable def wk_d6 : As := flM (wrM (crH wk_d0 wk_d2 [] (-1 : Int) (0 : Int)) wk_d4 wk_d3 (0 : Int) (ofS (2 : Int))) (0 : Int)
noncomputable def wk_c12 : Cfg := Cfg.mk (sl (115 : Nat) [((0 : Nat), AV.s (SV.bool false)), ((1 : Nat), AV.ptr (0 : Nat) (0 : Nat)), ((75 : Nat), AV.s (SV.bool false)), ((76 : Nat), AV.ptr (0 : Nat) (0 : Nat)), ((77 : Nat), AV.vec (1 : Nat))]) [AObj.own [AV.vec (2 : Nat), AV.mapv (3 : Nat), AV.s (SV.int IntKind.i64 (0 : Int))] (145 : Nat), AObj.vec (Con.bools [true]) (4 : Nat), AObj.vec (Con.typ [CK.arr IntKind.u8 (64 : Nat)] wk_d5) (169 : Nat), AObj.map (CK.arr IntKind.u8 (64 : Nat)) wk_d6] (cal Try.f56 (2 : Nat) (71 : Nat)) (Stk.mk none false (0 : Nat) [] (2 : Nat))
theorem wk_t12 : run (P) (tabWk.sum) (Try.f56) (nsWk) wk_c12 ([(28 : FuncId)]) =
  Tree.ite false (Tree.ret [AObj.own [AV.vec (2 : Nat), AV.mapv (3 : Nat), AV.s (SV.int IntKind.i64 (0 : Int))] (145 : Nat), AObj.vec (Con.bools [true]) (4 : Nat), AObj.vec (Con.typ [CK.arr IntKind.u8 (64 : Nat)] wk_d5) (169 : Nat), AObj.map (CK.arr IntKind.u8 (64 : Nat)) wk_d6] (AV.s (SV.blit false))) (Tree.need (@Slf (Option (List AV)) (some [AV.ptr (0 : Nat) (0 : Nat), AV.s (SV.ro (Con.bools [true])), AV.s (SV.int IntKind.i64 (-1 : Int)), AV.s (SV.int IntKind.i64 (0 : Int))])) (Tree.need (@Slf (Option (List AObj)) (some [AObj.own [AV.vec (1 : Nat), AV.mapv (2 : Nat), AV.s (SV.int IntKind.i64 (0 : Int))] (145 : Nat), AObj.vec (Con.typ [CK.arr IntKind.u8 (64 : Nat)] wk_d5) (169 : Nat), AObj.map (CK.arr IntKind.u8 (64 : Nat)) wk_d6])) (Tree.need (okD wk_d5 wk_d6 (0 : Int)) (Tree.ite false (Tree.ret [AObj.own [AV.vec (2 : Nat), AV.mapv (3 : Nat), AV.s (SV.int IntKind.i64 (crF (0 : Int) (0 : Int)))] (145 : Nat), AObj.dead, AObj.vec (Con.typ [CK.arr IntKind.u8 (64 : Nat)] (crH wk_d5 wk_d6 [true] (-1 : Int) (0 : Int))) (169 : Nat), AObj.map (CK.arr IntKind.u8 (64 : Nat)) (crM wk_d6 (0 : Int))] (AV.s (SV.blit false))) (Tree.at (Cfg.mk (sl (115 : Nat) [((0 : Nat), AV.s (SV.bool false)), ((1 : Nat), AV.ptr (0 : Nat) (0 : Nat)), ((81 : Nat), AV.s (SV.bool false)), ((82 : Nat), AV.ptr (0 : Nat) (0 : Nat))]) [AObj.own [AV.vec (1 : Nat), AV.mapv (2 : Nat), AV.s (SV.int IntKind.i64 (crF (0 : Int) (0 : Int)))] (145 : Nat), AObj.vec (Con.typ [CK.arr IntKind.u8 (64 : Nat)] (crH wk_d5 wk_d6 [true] (-1 : Int) (0 : Int))) (169 : Nat), AObj.map (CK.arr IntKind.u8 (64 : Nat)) (crM wk_d6 (0 : Int))] (cal Try.f56 (2 : Nat) (76 : Nat)) (Stk.mk none false (0 : Nat) [] (2 : Nat)))))))) := by kernel_rfl
noncomputable def wk_d7 : Th := crH wk_d5 wk_d6 [true] (-1 : Int) (0 : Int)
noncomputable def wk_c13 : Cfg := Cfg.mk (sl (115 : Nat) [((0 : Nat), AV.s (SV.bool false)), ((1 : Nat), AV.ptr (0 : Nat) (0 : Nat)), ((81 : Nat), AV.s (SV.bool false)), ((82 : Nat), AV.ptr (0 : Nat) (0 : Nat))]) [AObj.own [AV.vec (1 : Nat), AV.mapv (2 : Nat), AV.s (SV.int IntKind.i64 (crF (0 : Int) (0 : Int)))] (145 : Nat), AObj.vec (Con.typ [CK.arr IntKind.u8 (64 : Nat)] wk_d7) (169 : Nat), AObj.map (CK.arr IntKind.u8 (64 : Nat)) (crM wk_d6 (0 : Int))] (cal Try.f56 (2 : Nat) (76 : Nat)) (Stk.mk none false (0 : Nat) [] (2 : Nat))
theorem wk_t13 : run (P) (tabWk.sum) (Try.f56) (nsWk) wk_c13 ([(28 : FuncId)]) =
  Tree.ite false (Tree.ret [AObj.own [AV.vec (1 : Nat), AV.mapv (2 : Nat), AV.s (SV.int IntKind.i64 (crF (0 : Int) (0 : Int)))] (145 : Nat), AObj.vec (Con.typ [CK.arr IntKind.u8 (64 : Nat)] wk_d7) (169 : Nat), AObj.map (CK.arr IntKind.u8 (64 : Nat)) (crM wk_d6 (0 : Int))] (AV.s (SV.blit false))) (Tree.need (@Slf (Option (List AV)) (some [AV.ptr (0 : Nat) (0 : Nat)])) (Tree.need (@Slf (Option (List AObj)) (some [AObj.own [AV.vec (1 : Nat), AV.mapv (2 : Nat), AV.s (SV.int IntKind.i64 (crF (0 : Int) (0 : Int)))] (145 : Nat), AObj.vec (Con.typ [CK.arr IntKind.u8 (64 : Nat)] wk_d7) (169 : Nat), AObj.map (CK.arr IntKind.u8 (64 : Nat)) (crM wk_d6 (0 : Int))])) (Tree.ite false (Tree.ret [AObj.own [AV.vec (1 : Nat), AV.mapv (2 : Nat), AV.s (SV.int IntKind.i64 (crF (0 : Int) (0 : Int)))] (145 : Nat), AObj.vec (Con.typ [CK.arr IntKind.u8 (64 : Nat)] wk_d7) (169 : Nat), AObj.map (CK.arr IntKind.u8 (64 : Nat)) (crM wk_d6 (0 : Int))] (AV.s (SV.blit false))) (Tree.at (Cfg.mk (sl (115 : Nat) [((0 : Nat), AV.s (SV.bool false)), ((1 : Nat), AV.ptr (0 : Nat) (0 : Nat)), ((85 : Nat), AV.s (SV.bool false)), ((86 : Nat), AV.ptr (0 : Nat) (0 : Nat)), ((87 : Nat), AV.s (SV.str (ofS (1 : Int))))]) [AObj.own [AV.vec (1 : Nat), AV.mapv (2 : Nat), AV.s (SV.int IntKind.i64 (crF (0 : Int) (0 : Int)))] (145 : Nat), AObj.vec (Con.typ [CK.arr IntKind.u8 (64 : Nat)] wk_d7) (169 : Nat), AObj.map (CK.arr IntKind.u8 (64 : Nat)) (crM wk_d6 (0 : Int))] (cal Try.f56 (2 : Nat) (81 : Nat)) (Stk.mk none false (0 : Nat) [] (2 : Nat))))))) := by kernel_rfl
noncomputable def wk_c14 : Cfg := Cfg.mk (sl (115 : Nat) [((0 : Nat), AV.s (SV.bool false)), ((1 : Nat), AV.ptr (0 : Nat) (0 : Nat)), ((85 : Nat), AV.s (SV.bool false)), ((86 : Nat), AV.ptr (0 : Nat) (0 : Nat)), ((87 : Nat), AV.s (SV.str (ofS (1 : Int))))]) [AObj.own [AV.vec (1 : Nat), AV.mapv (2 : Nat), AV.s (SV.int IntKind.i64 (crF (0 : Int) (0 : Int)))] (145 : Nat), AObj.vec (Con.typ [CK.arr IntKind.u8 (64 : Nat)] wk_d7) (169 : Nat), AObj.map (CK.arr IntKind.u8 (64 : Nat)) (crM wk_d6 (0 : Int))] (cal Try.f56 (2 : Nat) (81 : Nat)) (Stk.mk none false (0 : Nat) [] (2 : Nat))
theorem wk_t14 : run (P) (tabWk.sum) (Try.f56) (nsWk) wk_c14 ([(28 : FuncId)]) =
  Tree.ite false (Tree.ret [AObj.own [AV.vec (1 : Nat), AV.mapv (2 : Nat), AV.s (SV.int IntKind.i64 (crF (0 : Int) (0 : Int)))] (145 : Nat), AObj.vec (Con.typ [CK.arr IntKind.u8 (64 : Nat)] wk_d7) (169 : Nat), AObj.map (CK.arr IntKind.u8 (64 : Nat)) (crM wk_d6 (0 : Int))] (AV.s (SV.blit false))) (Tree.need (@Slf (Option (List AV)) (some [AV.ptr (0 : Nat) (0 : Nat), AV.s (SV.int IntKind.i64 (0 : Int)), AV.s (SV.str (ofS (1 : Int)))])) (Tree.need (@Slf (Option (List AObj)) (some [AObj.own [AV.vec (1 : Nat), AV.mapv (2 : Nat), AV.s (SV.int IntKind.i64 (crF (0 : Int) (0 : Int)))] (145 : Nat), AObj.vec (Con.typ [CK.arr IntKind.u8 (64 : Nat)] wk_d7) (169 : Nat), AObj.map (CK.arr IntKind.u8 (64 : Nat)) (crM wk_d6 (0 : Int))])) (Tree.need (okD wk_d7 (crM wk_d6 (0 : Int)) (crF (0 : Int) (0 : Int))) (Tree.ite false (Tree.ret [AObj.own [AV.vec (1 : Nat), AV.mapv (2 : Nat), AV.s (SV.int IntKind.i64 (crF (0 : Int) (0 : Int)))] (145 : Nat), AObj.vec (Con.typ [CK.arr IntKind.u8 (64 : Nat)] wk_d7) (169 : Nat), AObj.map (CK.arr IntKind.u8 (64 : Nat)) (crM wk_d6 (0 : Int))] (AV.s (SV.blit false))) (Tree.at (Cfg.mk (sl (115 : Nat) [((0 : Nat), AV.s (SV.bool false)), ((1 : Nat), AV.ptr (0 : Nat) (0 : Nat)), ((91 : Nat), AV.ptr (0 : Nat) (0 : Nat)), ((92 : Nat), AV.s (SV.str (ofS (3 : Int))))]) [AObj.own [AV.vec (1 : Nat), AV.mapv (2 : Nat), AV.s (SV.int IntKind.i64 (crF (0 : Int) (0 : Int)))] (145 : Nat), AObj.vec (Con.typ [CK.arr IntKind.u8 (64 : Nat)] wk_d7) (169 : Nat), AObj.map (CK.arr IntKind.u8 (64 : Nat)) (crM wk_d6 (0 : Int))] (cal Try.f56 (4 : Nat) (2 : Nat)) (Stk.mk none false (0 : Nat) [] (4 : Nat)))))))) := by kernel_rfl
noncomputable def wk_c15 : Cfg := Cfg.mk (sl (115 : Nat) [((0 : Nat), AV.s (SV.bool false)), ((1 : Nat), AV.ptr (0 : Nat) (0 : Nat)), ((91 : Nat), AV.ptr (0 : Nat) (0 : Nat)), ((92 : Nat), AV.s (SV.str (ofS (3 : Int))))]) [AObj.own [AV.vec (1 : Nat), AV.mapv (2 : Nat), AV.s (SV.int IntKind.i64 (crF (0 : Int) (0 : Int)))] (145 : Nat), AObj.vec (Con.typ [CK.arr IntKind.u8 (64 : Nat)] wk_d7) (169 : Nat), AObj.map (CK.arr IntKind.u8 (64 : Nat)) (crM wk_d6 (0 : Int))] (cal Try.f56 (4 : Nat) (2 : Nat)) (Stk.mk none false (0 : Nat) [] (4 : Nat))
theorem wk_t15 : run (P) (tabWk.sum) (Try.f56) (nsWk) wk_c15 ([(28 : FuncId)]) =
  Tree.need (@Slf (Option (List AV)) (some [AV.ptr (0 : Nat) (0 : Nat), AV.s (SV.int IntKind.i64 (0 : Int)), AV.s (SV.str (ofS (3 : Int)))])) (Tree.need (@Slf (Option (List AObj)) (some [AObj.own [AV.vec (1 : Nat), AV.mapv (2 : Nat), AV.s (SV.int IntKind.i64 (crF (0 : Int) (0 : Int)))] (145 : Nat), AObj.vec (Con.typ [CK.arr IntKind.u8 (64 : Nat)] wk_d7) (169 : Nat), AObj.map (CK.arr IntKind.u8 (64 : Nat)) (crM wk_d6 (0 : Int))])) (Tree.need (okD wk_d7 (crM wk_d6 (0 : Int)) (crF (0 : Int) (0 : Int))) (Tree.at (Cfg.mk (sl (115 : Nat) [((0 : Nat), AV.s (SV.bool false)), ((1 : Nat), AV.ptr (0 : Nat) (0 : Nat)), ((94 : Nat), AV.ptr (0 : Nat) (0 : Nat)), ((95 : Nat), AV.s (SV.str (ofS (4 : Int))))]) [AObj.own [AV.vec (1 : Nat), AV.mapv (2 : Nat), AV.s (SV.int IntKind.i64 (wrF wk_d7 (crF (0 : Int) (0 : Int)) (0 : Int) (ofS (3 : Int))))] (145 : Nat), AObj.vec (Con.typ [CK.arr IntKind.u8 (64 : Nat)] wk_d7) (169 : Nat), AObj.map (CK.arr IntKind.u8 (64 : Nat)) (wrM wk_d7 (crM wk_d6 (0 : Int)) (crF (0 : Int) (0 : Int)) (0 : Int) (ofS (3 : Int)))] (cal Try.f56 (5 : Nat) (2 : Nat)) (Stk.mk none false (0 : Nat) [] (5 : Nat)))))) := by kernel_rfl
noncomputable def wk_d8 : Int := wrF wk_d7 (crF (0 : Int) (0 : Int)) (0 : Int) (ofS (3 : Int))
noncomputable def wk_d9 : As := wrM wk_d7 (crM wk_d6 (0 : Int)) (crF (0 : Int) (0 : Int)) (0 : Int) (ofS (3 : Int))
noncomputable def wk_c16 : Cfg := Cfg.mk (sl (115 : Nat) [((0 : Nat), AV.s (SV.bool false)), ((1 : Nat), AV.ptr (0 : Nat) (0 : Nat)), ((94 : Nat), AV.ptr (0 : Nat) (0 : Nat)), ((95 : Nat), AV.s (SV.str (ofS (4 : Int))))]) [AObj.own [AV.vec (1 : Nat), AV.mapv (2 : Nat), AV.s (SV.int IntKind.i64 wk_d8)] (145 : Nat), AObj.vec (Con.typ [CK.arr IntKind.u8 (64 : Nat)] wk_d7) (169 : Nat), AObj.map (CK.arr IntKind.u8 (64 : Nat)) wk_d9] (cal Try.f56 (5 : Nat) (2 : Nat)) (Stk.mk none false (0 : Nat) [] (5 : Nat))
theorem wk_t16 : run (P) (tabWk.sum) (Try.f56) (nsWk) wk_c16 ([(28 : FuncId)]) =
  Tree.need (@Slf (Option (List AV)) (some [AV.ptr (0 : Nat) (0 : Nat), AV.s (SV.int IntKind.i64 (1 : Int)), AV.s (SV.str (ofS (4 : Int)))]))
  (Tree.need (@Slf (Option (List AObj)) (some [AObj.own [AV.vec (1 : Nat), AV.mapv (2 : Nat), AV.s (SV.int IntKind.i64 wk_d8)] (145 : Nat), AObj.vec (Con.typ [CK.arr IntKind.u8 (64 : Nat)] wk_d7) (169 : Nat), AObj.map (CK.arr IntKind.u8 (64 : Nat)) wk_d9]))
    (Tree.need (okD wk_d7 wk_d9 wk_d8)
      (Tree.need (@Slf (Option (List AV)) (some [AV.ptr (0 : Nat) (0 : Nat), AV.s (SV.ro (Con.bools [true, false])), AV.s (SV.int IntKind.i64 (1 : Int)), AV.s (SV.int IntKind.i64 (3 : Int))]))
        (Tree.need (@Slf (Option (List AObj)) (some [AObj.own [AV.vec (1 : Nat), AV.mapv (2 : Nat), AV.s (SV.int IntKind.i64 (wrF wk_d7 wk_d8 (1 : Int) (ofS (4 : Int))))] (145 : Nat), AObj.vec (Con.typ [CK.arr IntKind.u8 (64 : Nat)] wk_d7) (169 : Nat), AObj.map (CK.arr IntKind.u8 (64 : Nat)) (wrM wk_d7 wk_d9 wk_d8 (1 : Int) (ofS (4 : Int)))]))
          (Tree.need (okD wk_d7 (wrM wk_d7 wk_d9 wk_d8 (1 : Int) (ofS (4 : Int))) (wrF wk_d7 wk_d8 (1 : Int) (ofS (4 : Int)))) (Tree.ite true (Tree.need (@Slf (Option (List AV)) (some [AV.ptr (0 : Nat) (0 : Nat), AV.s (SV.int IntKind.i64 (0 : Int)), AV.s (SV.str (ofS (3 : Int)))])) (Tree.need (@Slf (Option (List AObj)) (some [AObj.own [AV.vec (1 : Nat), AV.mapv (2 : Nat), AV.s (SV.int IntKind.i64 (crF (wrF wk_d7 wk_d8 (1 : Int) (ofS (4 : Int))) (3 : Int)))] (145 : Nat), AObj.vec (Con.typ [CK.arr IntKind.u8 (64 : Nat)] (crH wk_d7 (wrM wk_d7 wk_d9 wk_d8 (1 : Int) (ofS (4 : Int))) [true, false] (1 : Int) (3 : Int))) (169 : Nat), AObj.map (CK.arr IntKind.u8 (64 : Nat)) (crM (wrM wk_d7 wk_d9 wk_d8 (1 : Int) (ofS (4 : Int))) (3 : Int))])) (Tree.need (okD (crH wk_d7 (wrM wk_d7 wk_d9 wk_d8 (1 : Int) (ofS (4 : Int))) [true, false] (1 : Int) (3 : Int)) (crM (wrM wk_d7 wk_d9 wk_d8 (1 : Int) (ofS (4 : Int))) (3 : Int)) (crF (wrF wk_d7 wk_d8 (1 : Int) (ofS (4 : Int))) (3 : Int))) (Tree.ite true (Tree.need ((0 : Int) ≤ (0 : Int)) (Tree.need ((0 : Int) ≤ (3 : Int)) (Tree.need ((3 : Int) ≤ (↑(ofS (4 : Int)).size : Int)) (Tree.need ((0 : Int) ≤ (3 : Int)) (Tree.need ((3 : Int) ≤ (↑(ofS (0 : Int)).size : Int)) (Tree.need ((↑(ofS (0 : Int)).size : Int) ≤ (↑(ofS (0 : Int)).size : Int)) (Tree.need (((ofS (4 : Int)).extract (Int.toNat (0 : Int)) (Int.toNat (3 : Int))).size + ((ofS (0 : Int)).extract (Int.toNat (3 : Int)) (↑(ofS (0 : Int)).size : Int).toNat).size ≤ (4611686018427387904 : Nat)) (Tree.need (@Slf (Option (List AV)) (some [AV.ptr (0 : Nat) (0 : Nat), AV.s (SV.int IntKind.i64 (1 : Int)), AV.s (SV.str ((ofS (4 : Int)).extract (Int.toNat (0 : Int)) (Int.toNat (3 : Int)) ++ (ofS (0 : Int)).extract (Int.toNat (3 : Int)) (↑(ofS (0 : Int)).size : Int).toNat))])) (Tree.need (@Slf (Option (List AObj)) (some [AObj.own [AV.vec (1 : Nat), AV.mapv (2 : Nat), AV.s (SV.int IntKind.i64 (crF (wrF wk_d7 wk_d8 (1 : Int) (ofS (4 : Int))) (3 : Int)))] (145 : Nat), AObj.vec (Con.typ [CK.arr IntKind.u8 (64 : Nat)] (crH wk_d7 (wrM wk_d7 wk_d9 wk_d8 (1 : Int) (ofS (4 : Int))) [true, false] (1 : Int) (3 : Int))) (169 : Nat), AObj.map (CK.arr IntKind.u8 (64 : Nat)) (crM (wrM wk_d7 wk_d9 wk_d8 (1 : Int) (ofS (4 : Int))) (3 : Int))])) (Tree.need (okD (crH wk_d7 (wrM wk_d7 wk_d9 wk_d8 (1 : Int) (ofS (4 : Int))) [true, false] (1 : Int) (3 : Int)) (crM (wrM wk_d7 wk_d9 wk_d8 (1 : Int) (ofS (4 : Int))) (3 : Int)) (crF (wrF wk_d7 wk_d8 (1 : Int) (ofS (4 : Int))) (3 : Int))) (Tree.ret [AObj.own [AV.vec (1 : Nat), AV.mapv (2 : Nat), AV.s (SV.int IntKind.i64 (crF (wrF wk_d7 wk_d8 (1 : Int) (ofS (4 : Int))) (3 : Int)))] (145 : Nat), AObj.vec (Con.typ [CK.arr IntKind.u8 (64 : Nat)] (crH wk_d7 (wrM wk_d7 wk_d9 wk_d8 (1 : Int) (ofS (4 : Int))) [true, false] (1 : Int) (3 : Int))) (169 : Nat), AObj.map (CK.arr IntKind.u8 (64 : Nat)) (crM (wrM wk_d7 wk_d9 wk_d8 (1 : Int) (ofS (4 : Int))) (3 : Int)), AObj.dead] (AV.s (SV.bool true))))))))))))) (Tree.ret [AObj.own [AV.vec (1 : Nat), AV.mapv (2 : Nat), AV.s (SV.int IntKind.i64 (crF (wrF wk_d7 wk_d8 (1 : Int) (ofS (4 : Int))) (3 : Int)))] (145 : Nat), AObj.vec (Con.typ [CK.arr IntKind.u8 (64 : Nat)] (crH wk_d7 (wrM wk_d7 wk_d9 wk_d8 (1 : Int) (ofS (4 : Int))) [true, false] (1 : Int) (3 : Int))) (169 : Nat), AObj.map (CK.arr IntKind.u8 (64 : Nat)) (crM (wrM wk_d7 wk_d9 wk_d8 (1 : Int) (ofS (4 : Int))) (3 : Int)), AObj.dead] (AV.s (SV.blit false))))))) (Tree.ret [AObj.own [AV.vec (1 : Nat), AV.mapv (2 : Nat), AV.s (SV.int IntKind.i64 (crF (wrF wk_d7 wk_d8 (1 : Int) (ofS (4 : Int))) (3 : Int)))] (145 : Nat), AObj.vec (Con.typ [CK.arr IntKind.u8 (64 : Nat)] (crH wk_d7 (wrM wk_d7 wk_d9 wk_d8 (1 : Int) (ofS (4 : Int))) [true, false] (1 : Int) (3 : Int))) (169 : Nat), AObj.map (CK.arr IntKind.u8 (64 : Nat)) (crM (wrM wk_d7 wk_d9 wk_d8 (1 : Int) (ofS (4 : Int))) (3 : Int)), AObj.dead] (AV.s (SV.blit false))))))))) := by kernel_rfl
theorem tabDo_ok {Z : Glob} : tabDo.Ok P Z := Tab.Ok.cons wh_ok.sum (Tab.Ok.cons (write_ok.sum mWr) (Tab.Ok.cons (flush_ok.sum mAs) (Tab.Ok.cons (fuse_ok.sum mFu) (Tab.Ok.cons (sumFrz_ok (crash_ok.sum mCr) 1 (.bools [])) Tab.Ok.nil))))
theorem do_ok {Z : Glob} : FnS P Z 59 sDo := by
  refine fnS_of_safe Try.func59 (by kernel_rfl) (fun x => Nat.le_of_ble_eq_true (by kernel_rfl)) ?_
  rintro ⟨(th : Th), (m : As), (fu : Int), (k : Int), (n : Int), (s : ByteArray), (ks : List Bool), (c : Int)⟩ ⟨(hd : okD th m fu), _⟩ X hX hz
  refine goS hz hX (by simp) tabDo_ok Try.func59 (treeDo th m fu k n s ks c) ?_
  repeat' (with_reducible (first | refine h_eq ?_ | refine h_need ?_ ?_ | refine h_dec (fun _ => ?_) (fun _ => ?_) | refine h_beq (fun _ => ?_) (fun _ => ?_) | refine h_bne (fun _ => ?_) (fun _ => ?_) | refine h_tt ?_ | refine h_ff ?_ | refine h_not ?_ | refine h_ite (fun _ => ?_) (fun _ => ?_) | refine h_both (fun _ => ?_) (fun _ => ?_) | refine h_ret ?_ | refine h_at ?_))
  all_goals first | assumption | omega | (exact ⟨by omega, by omega⟩) | skip
  all_goals refine endS 3 rfl (Nat.le_refl _) ?_ ?_ <;> simp [stE, stT, stM, stF, rnS, *]
def okDb (th : Th) (m : As) (fu : Int) : Bool := th.length.ble 4096 && (List.range th.length).all (fun i => (arrOf (th.getD i (CL.d cS))).length == 64) && decide (m.map (·.1)).Nodup && m.all (fun p => decide (0 ≤ p.1) && decide (p.1 < (th.length : Int)) && List.length (α := Int) p.2 == 64) && decide (-1 ≤ fu) && decide (fu ≤ 9223372036854775807)
theorem okD_of {th : Th} {m : As} {fu : Int} (h : okDb th m fu = true) : okD th m fu := by
  simp only [okDb, Bool.and_eq_true, List.all_eq_true, beq_iff_eq, decide_eq_true_eq, List.mem_range] at h
  obtain ⟨⟨⟨⟨⟨h1, h2⟩, h3⟩, h4⟩, h5⟩, h6⟩ := h
  exact ⟨⟨Nat.le_of_ble_eq_true h1, h2⟩, ⟨h3, fun p hp => ⟨(h4 p hp).1.1, (h4 p hp).1.2, (h4 p hp).2⟩⟩, h5, h6⟩
theorem tabWk_ok {Z : Glob} : tabWk.Ok P Z := Tab.Ok.cons of_ok.sum (Tab.Ok.cons (rs_ok.sum _) (Tab.Ok.cons (write_ok.sum mWr) (Tab.Ok.cons (flush_ok.sum mAs) (Tab.Ok.cons (fuse_ok.sum mFu) (Tab.Ok.cons (sumFrz_ok (crash_ok.sum mCr) 1 (.bools [])) (Tab.Ok.cons (dead_ok.sum mAs) (Tab.Ok.cons (aside_ok.sum mAs) Tab.Ok.nil)))))))
theorem wk_ok {Z : Glob} : FnOk P Z 56 [] [tBool] (fun _ => []) (fun _ => (true, ())) := by
  refine fnOk_of_safe Try.func56 (by kernel_rfl) (by kernel_rfl) ?_
  rintro ⟨⟩ _ _ X hX hz
  show Safe P 56 X (Ends [tBool] (true, ())) _
  refine go hz hX tabWk_ok Try.func56 wk_t0 ?_
  refine h_need (by first | decide | exact okD_of (by kernel_rfl)) ?_
  refine h_need (by first | decide | exact okD_of (by kernel_rfl)) ?_
  refine h_need (by first | decide | exact okD_of (by kernel_rfl)) ?_
  refine h_at ?_
  refine go hz hX tabWk_ok Try.func56 wk_t1 ?_
  refine h_ff ?_
  refine h_eq ?_
  refine h_eq ?_
  refine h_need (by first | decide | exact okD_of (by kernel_rfl)) ?_
  refine h_ff ?_
  refine h_at ?_
  refine go hz hX tabWk_ok Try.func56 wk_t2 ?_
  refine h_ff ?_
  refine h_eq ?_
  refine h_eq ?_
  refine h_need (by first | decide | exact okD_of (by kernel_rfl)) ?_
  refine h_ff ?_
  refine h_at ?_
  refine go hz hX tabWk_ok Try.func56 wk_t3 ?_
  refine h_ff ?_
  refine h_eq ?_
  refine h_eq ?_
  refine h_need (by first | decide | exact okD_of (by kernel_rfl)) ?_
  refine h_ff ?_
  refine h_at ?_
  refine go hz hX tabWk_ok Try.func56 wk_t4 ?_
  refine h_ff ?_
  refine h_eq ?_
  refine h_eq ?_
  refine h_need (by first | decide | exact okD_of (by kernel_rfl)) ?_
  refine h_ff ?_
  refine h_at ?_
  refine go hz hX tabWk_ok Try.func56 wk_t5 ?_
  refine h_ff ?_
  refine h_eq ?_
  refine h_eq ?_
  refine h_need (by first | decide | exact okD_of (by kernel_rfl)) ?_
  refine h_ff ?_
  refine h_at ?_
  refine go hz hX tabWk_ok Try.func56 wk_t6 ?_
  refine h_ff ?_
  refine h_eq ?_
  refine h_eq ?_
  refine h_need (by first | decide | exact okD_of (by kernel_rfl)) ?_
  refine h_ff ?_
  refine h_at ?_
  refine go hz hX tabWk_ok Try.func56 wk_t7 ?_
  refine h_ff ?_
  refine h_eq ?_
  refine h_eq ?_
  refine h_ff ?_
  refine h_at ?_
  refine go hz hX tabWk_ok Try.func56 wk_t8 ?_
  refine h_ff ?_
  refine h_eq ?_
  refine h_eq ?_
  refine h_ff ?_
  refine h_at ?_
  refine go hz hX tabWk_ok Try.func56 wk_t9 ?_
  refine h_ff ?_
  refine h_eq ?_
  refine h_eq ?_
  refine h_need (by first | decide | exact okD_of (by kernel_rfl)) ?_
  refine h_ff ?_
  refine h_at ?_
  refine go hz hX tabWk_ok Try.func56 wk_t10 ?_
  refine h_ff ?_
  refine h_eq ?_
  refine h_eq ?_
  refine h_ff ?_
  refine h_at ?_
  refine go hz hX tabWk_ok Try.func56 wk_t11 ?_
  refine h_ff ?_
  refine h_eq ?_
  refine h_eq ?_
  refine h_need (by first | decide | exact okD_of (by kernel_rfl)) ?_
  refine h_ff ?_
  refine h_eq ?_
  refine h_eq ?_
  refine h_need (by first | decide | exact okD_of (by kernel_rfl)) ?_
  refine h_ff ?_
  refine h_at ?_
  refine go hz hX tabWk_ok Try.func56 wk_t12 ?_
  refine h_ff ?_
  refine h_eq ?_
  refine h_eq ?_
  refine h_need (by first | decide | exact okD_of (by kernel_rfl)) ?_
  refine h_ff ?_
  refine h_at ?_
  refine go hz hX tabWk_ok Try.func56 wk_t13 ?_
  refine h_ff ?_
  refine h_eq ?_
  refine h_eq ?_
  refine h_ff ?_
  refine h_at ?_
  refine go hz hX tabWk_ok Try.func56 wk_t14 ?_
  refine h_ff ?_
  refine h_eq ?_
  refine h_eq ?_
  refine h_need (by first | decide | exact okD_of (by kernel_rfl)) ?_
  refine h_ff ?_
  refine h_at ?_
  refine go hz hX tabWk_ok Try.func56 wk_t15 ?_
  refine h_eq ?_
  refine h_eq ?_
  refine h_need (by first | decide | exact okD_of (by kernel_rfl)) ?_
  refine h_at ?_
  refine go hz hX tabWk_ok Try.func56 wk_t16 ?_
  refine h_eq ?_
  refine h_eq ?_
  refine h_need (by first | decide | exact okD_of (by kernel_rfl)) ?_
  refine h_eq ?_
  refine h_eq ?_
  refine h_need (by first | decide | exact okD_of (by kernel_rfl)) ?_
  refine h_tt ?_
  refine h_eq ?_
  refine h_eq ?_
  refine h_need (by first | decide | exact okD_of (by kernel_rfl)) ?_
  refine h_tt ?_
  refine h_need (by first | decide | exact okD_of (by kernel_rfl)) ?_
  refine h_need (by first | decide | exact okD_of (by kernel_rfl)) ?_
  refine h_need (by first | decide | exact okD_of (by kernel_rfl)) ?_
  refine h_need (by first | decide | exact okD_of (by kernel_rfl)) ?_
  refine h_need (by first | decide | exact okD_of (by kernel_rfl)) ?_
  refine h_need (by first | decide | exact okD_of (by kernel_rfl)) ?_
  refine h_need (by first | decide | exact okD_of (by kernel_rfl)) ?_
  refine h_eq ?_
  refine h_eq ?_
  refine h_need (by first | decide | exact okD_of (by kernel_rfl)) ?_
  refine h_ret ?_
  exact ends_bl
end Ds
