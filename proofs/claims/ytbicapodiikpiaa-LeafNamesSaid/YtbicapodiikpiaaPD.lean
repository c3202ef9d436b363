/- Lemmas: SxDen, SxCut, Hd, SxSpec, SxAuto, Lb, L1, L2, L3, L4, L5, L6, L7, R4. -/
import Derived.JoinedOf
import Derived.Test.YtbicapodiikpiaaRows
import Derived.LaidMore
import Derived.Stop.Joined
import Derived.Lib.Bytealg
import Derived.Test.YtbicapodiikpiaaProg
import Derived.Lib.Walk
import Derived.WalkKit
import Derived.Laws.Externs
import Derived.Test.YtbicapodiikpiaaPC

/-! What a row's reading of an argument says: a value of plain data. -/
namespace Go.Sx
open Go Go.RowKit Go.ChangeShapes Go.WideShapes Go.ChangeAt

def layFs (P : Program) (rec : TypeId → Option (List CK)) : List Field → Nat → Option (List CK)
  | [], _ => some []
  | f :: fs, off => match rec f.type with
    | some cs => bif f.offset.beq off && (P.cellsOf f.type).beq (CL.wide cs) then (layFs P rec fs (off + CL.wide cs)).map (cs ++ ·) else none
    | none => none

/-- A type's parts, its places checked. -/
def layR (P : Program) : Nat → TypeId → Option (List CK)
  | 0, _ => none
  | d + 1, t =>
    match P.underlying t with
    | some (.int k) => some [.int k]
    | some .bool => some [.bool]
    | some .string => some [.str]
    | some (.slice e) => (match P.underlying e with
      | some (.int k) => bif (P.cellsOf e).beq 1 then some [.ints k] else none
      | some .string => bif (P.cellsOf e).beq 1 then some [.strs] else none
      | some .bool => bif (P.cellsOf e).beq 1 then some [.bools] else none
      | _ => (layR P d e).bind fun cs => bif (P.cellsOf e).beq (CL.wide cs) && (1 : Nat).ble (CL.wide cs) then some [.rows cs] else none)
    | some (.struct fs) => (layFs P (layR P d) fs.toList 0).bind fun cs => bif (P.cellsOf t).beq (CL.wide cs) then some cs else none
    | some (.array n e) => (match P.underlying e with
      | some (.int k) => bif (P.cellsOf e).beq 1 && (P.cellsOf t).beq n then some [.arr k n] else none
      | _ => none)
    | _ => none

mutual
def CK.wf : (c : CK) → c.V → Prop
  | .int k, n => (Lit.int k n).wf = true
  | .bool, _ => True
  | .str, s => ByteArray.size s ≤ maxLen
  | .ints k, zs => ∀ n ∈ (show List Int from zs), (Lit.int k n).wf = true
  | .strs, ss => ∀ s ∈ (show List ByteArray from ss), s.size ≤ maxLen
  | .bools, _ => True
  | .rows cs, xs => ∀ x ∈ (show List (CL cs) from xs), CL.wf cs x
  | .arr k n, ws => List.length (α := Int) ws = n ∧ ∀ m ∈ (show List Int from ws), (Lit.int k m).wf = true
def CL.wf : (cs : List CK) → CL cs → Prop
  | [], _ => True
  | c :: cs, x => c.wf x.1 ∧ CL.wf cs x.2
end

def CL.app : (azs : List CK) → {bs : List CK} → CL azs → CL bs → CL (azs ++ bs)
  | [], _, _, y => y
  | _ :: azs, _, x, y => (x.1, CL.app azs x.2 y)

theorem CL.wide_app : ∀ (azs bs : List CK), CL.wide (azs ++ bs) = CL.wide azs + CL.wide bs
  | [], bs => by simp [CL.wide]
  | a :: azs, bs => by simp only [List.cons_append, CL.wide, CL.wide_app azs bs]; omega

theorem blt_tt {i n : Nat} (h : i < n) : i.blt n = true := by simpa [Nat.blt, Nat.lt_iff_add_one_le] using h
theorem blt_ff {i n : Nat} (h : n ≤ i) : i.blt n = false := by
  cases hb : i.blt n
  · rfl
  · have : i < n := by simpa [Nat.blt, Nat.lt_iff_add_one_le] using hb
    omega

theorem CL.cell_app1 : ∀ (azs : List CK) {bs : List CK} (x : CL azs) (y : CL bs) {j : Nat}, j < CL.wide azs → CL.cell (azs ++ bs) (CL.app azs x y) j = CL.cell azs x j
  | [], _, _, _, j, h => by simp [CL.wide] at h
  | a :: azs, bs, x, y, j, h => by
    simp only [List.cons_append, CL.cell, CL.app]
    rcases Nat.lt_or_ge j a.wide with h1 | h1
    · rw [blt_tt h1]; rfl
    · rw [blt_ff h1]
      simp only [cond_false]
      exact CL.cell_app1 azs x.2 y (by simp only [CL.wide] at h; omega)
theorem CL.cell_app2 : ∀ (azs : List CK) {bs : List CK} (x : CL azs) (y : CL bs) {j : Nat}, CL.wide azs ≤ j → CL.cell (azs ++ bs) (CL.app azs x y) j = CL.cell bs y (j - CL.wide azs)
  | [], _, _, _, j, h => by simp [CL.wide, CL.app]
  | a :: azs, bs, x, y, j, h => by
    simp only [CL.wide] at h
    simp only [List.cons_append, CL.cell, CL.app]
    rw [blt_ff (by omega)]
    simp only [cond_false, CL.wide]
    rw [CL.cell_app2 azs x.2 y (by omega)]
    congr 1
    omega
theorem CL.wf_app : ∀ (azs : List CK) {bs : List CK} (x : CL azs) (y : CL bs), CL.wf azs x → CL.wf bs y → CL.wf (azs ++ bs) (CL.app azs x y)
  | [], _, _, _, _, h => h
  | a :: azs, bs, x, y, h1, h2 => by
    simp only [CL.wf] at h1
    simp only [List.cons_append, CL.wf, CL.app]
    exact ⟨h1.1, CL.wf_app azs x.2 y h1.2 h2⟩

theorem mapD {α β : Type} (f : α → β) (xs : List α) (d : β) (da : α) {i : Nat} (hi : i < xs.length) : (xs.map f).getD i d = f (xs.getD i da) := by simp [List.getD, hi]

theorem list_of {α : Type} {p : Nat → α → Prop} : ∀ (n : Nat), (∀ i, i < n → ∃ y, p i y) → ∃ xs : List α, xs.length = n ∧ ∀ i (h : i < xs.length), p i xs[i]
  | 0, _ => ⟨[], rfl, fun i h => by simp at h⟩
  | n + 1, h => by
    obtain ⟨xs, h1, h2⟩ := list_of n (fun i hi => h i (by omega))
    obtain ⟨y, hy⟩ := h n (by omega)
    refine ⟨xs ++ [y], by simp [h1], fun i hi => ?_⟩
    by_cases hlt : i < xs.length
    · rw [List.getElem_append_left hlt]; exact h2 i hlt
    · have : i = n := by simp at hi; omega
      subst this
      rw [List.getElem_append_right (by omega)]
      simpa [h1] using hy

section
variable {H : Type} {enc : TypeId × Value → H} {P : Program} {W : World} {base : Nat} {ρ : Nat → Value} {Hh : AHeap}

abbrev FD (W : World) (cs : List CK) (y : CL cs) (get : Nat → Option Value) : Prop := ∀ j, j < CL.wide cs → ∃ u, get j = some u ∧ DenS (fun _ => False) W (CL.cell cs y j) u

theorem trod_fs {d n : Nat} {cells : List Value} (ih : ∀ {t : TypeId} {cs : List CK} {fuel : Nat} {cells : List Value} {x : DataW H × List MemPlace}, layR P d t = some cs → DataW.trod enc P W 0 (fun _ => true) true fuel t cells = some x →
      cells.length = CL.wide cs ∧ ∃ y : CL cs, CL.wf cs y ∧ FD W cs y fun j => cells[j]?) :
    ∀ (fs : List Field) {off : Nat} {cs : List CK}, layFs P (layR P d) fs off = some cs → (∀ f ∈ fs, ∃ x, DataW.trod enc P W 0 (fun _ => true) true n f.type ((cells.drop f.offset).take (P.cellsOf f.type)) = some x) →
      ∃ y : CL cs, CL.wf cs y ∧ FD W cs y fun j => cells[off + j]?
  | [], off, cs, h, _ => by
    simp only [layFs, Option.some.injEq] at h
    subst h
    exact ⟨(), trivial, fun j hj => by simp [CL.wide] at hj⟩
  | f :: fs, off, cs, h, hx => by
    simp only [layFs] at h
    split at h
    · rename_i c1 hc1
      rw [Bool.cond_eq_ite] at h
      split at h
      · rename_i hb
        simp only [Bool.and_eq_true, Nat.beq_eq] at hb
        obtain ⟨ho, hw⟩ := hb
        obtain ⟨c2, hc2, rfl⟩ := Option.map_eq_some_iff.1 h
        obtain ⟨x, hf⟩ := hx f (by simp)
        obtain ⟨h1, y1, h2, h3⟩ := ih hc1 hf
        obtain ⟨y2, h4, h5⟩ := trod_fs ih fs hc2 (fun g hg => hx g (by simp [hg]))
        refine ⟨CL.app c1 y1 y2, CL.wf_app c1 y1 y2 h2 h4, fun j hj => ?_⟩
        rw [CL.wide_app] at hj
        rcases Nat.lt_or_ge j (CL.wide c1) with h6 | h6
        · obtain ⟨u, h7, h8⟩ := h3 j h6
          refine ⟨u, ?_, by rw [CL.cell_app1 c1 y1 y2 h6]; exact h8⟩
          dsimp only at h7 ⊢
          rw [List.getElem?_take, if_pos (by omega), List.getElem?_drop, ho] at h7
          exact h7
        · obtain ⟨u, h7, h8⟩ := h5 (j - CL.wide c1) (by omega)
          refine ⟨u, ?_, by rw [CL.cell_app2 c1 y1 y2 h6]; exact h8⟩
          dsimp only at h7 ⊢
          rw [show off + j = off + CL.wide c1 + (j - CL.wide c1) from by omega]
          exact h7
      · cases h
    · cases h

/-- A slice's elements. -/
theorem trod_row {t e : TypeId} {cs : List CK} {fuel : Nat} {cells : List Value} {x : DataW H × List MemPlace} (ht : P.underlying t = some (.slice e)) (hw : P.cellsOf e = CL.wide cs) (h1 : 1 ≤ CL.wide cs)
    (ih : ∀ {fuel : Nat} {cells : List Value} {x : DataW H × List MemPlace}, DataW.trod enc P W 0 (fun _ => true) true fuel e cells = some x → cells.length = CL.wide cs ∧ ∃ y : CL cs, CL.wf cs y ∧ FD W cs y fun j => cells[j]?)
    (h : DataW.trod enc P W 0 (fun _ => true) true fuel t cells = some x) :
    ∃ (v : Value) (xs : List (CL cs)), cells = [v] ∧ (∀ y ∈ xs, CL.wf cs y) ∧ DenS (fun _ => False) W (.ro (.typ cs xs)) v := by
  rcases DataW.trod_slice ht h with ⟨rfl, _⟩ | ⟨a, len, cap, elems, rest, n, _, rfl, _, _, hl, hm, hlen, hel, _, _⟩
  · exact ⟨_, [], rfl, by simp, .ro (.typ cs []) none 0 (fun _ _ => undef) 0 0 (Nat.le_refl _) (Nat.zero_le _) (fun h => by simp [Con.n] at h) (fun i j hi hj => by simp [Con.n] at hi) (fun i j hi hj => by simp [Con.n] at hi)⟩
  · have each : ∀ i, i < len → ∃ y : CL cs, CL.wf cs y ∧ FD W cs y fun j => W.cell? ((a.add (i * CL.wide cs)).add j) := by
      intro i hi
      have h2 := hel i hi
      rw [List.getElem?_eq_getElem (by omega), hw] at h2
      obtain ⟨cl, h3, h4⟩ := Option.bind_eq_some_iff.1 h2
      obtain ⟨_, h5, h6⟩ := World.cells?_some h3
      obtain ⟨_, y, h7, h8⟩ := ih h4
      refine ⟨y, h7, fun j hj => ?_⟩
      obtain ⟨u, h9, h10⟩ := h8 j hj
      exact ⟨u, by dsimp only; rw [h6 j (by omega)]; exact h9, h10⟩
    obtain ⟨xs, hx1, hx2⟩ := list_of len each
    refine ⟨_, xs, rfl, fun y hy => ?_, ?_⟩
    · obtain ⟨i, hi, rfl⟩ := List.getElem_of_mem hy
      exact (hx2 i hi).1
    · have hn : (Con.typ cs xs).n = len := hx1
      rcases Nat.eq_zero_or_pos len with h0 | h0
      · have key := DenS.ro (O := fun _ => False) (w := W) (.typ cs xs) (some a) cap (fun _ _ => undef) 0 0 (by omega) hm (fun h => by omega) (fun i j hi hj => by omega) (fun i j hi hj => by omega)
        rw [hn] at key
        exact key
      · have hspot : a.spot = none := by
          obtain ⟨u, h9, _⟩ := (hx2 0 (by omega)).2 0 (by omega)
          simpa [Addr.add] using World.cell?_spot h9
        obtain ⟨b, off, spot⟩ := a
        simp only at hspot
        subst hspot
        have hc : ∀ i j, i < len → j < CL.wide cs → ∃ u, W.cell? ⟨b, off + i * CL.wide cs + j, none⟩ = some u ∧ DenS (fun _ => False) W (CL.cell cs (xs.getD i (CL.d cs)) j) u := by
          intro i j hi hj
          obtain ⟨u, h9, h10⟩ := (hx2 i (by omega)).2 j hj
          dsimp only at h9
          rw [add_zero_spot, add_zero_spot] at h9
          exact ⟨u, h9, by simpa [List.getD, hx1, hi] using h10⟩
        have key := DenS.ro (O := fun _ => False) (w := W) (.typ cs xs) (some ⟨b, off, none⟩) cap (fun i j => (W.cell? ⟨b, off + i * CL.wide cs + j, none⟩).getD undef) b off (by omega) hm (fun _ => ⟨rfl, fun h => h, ?_⟩) (fun i j hi hj => ?_) (fun i j hi hj => ?_)
        · rw [hn] at key
          exact key
        · obtain ⟨u, h9, _⟩ := hc 0 0 h0 (by omega)
          rcases Nat.lt_or_ge b W.heap.size with h2 | h2
          · exact h2
          · simp [World.cell?, Array.getElem?_eq_none h2] at h9
        · obtain ⟨u, h9, _⟩ := hc i j (by omega) hj
          show W.cell? ⟨b, off + i * CL.wide cs + j, none⟩ = _
          rw [h9]; rfl
        · obtain ⟨u, h9, h10⟩ := hc i j (by omega) hj
          rw [h9]
          exact h10

theorem trod_cl : ∀ (d : Nat) {t : TypeId} {cs : List CK} {fuel : Nat} {cells : List Value} {x : DataW H × List MemPlace}, layR P d t = some cs → DataW.trod enc P W 0 (fun _ => true) true fuel t cells = some x →
    cells.length = CL.wide cs ∧ ∃ y : CL cs, CL.wf cs y ∧ FD W cs y fun j => cells[j]?
  | 0, t, cs, fuel, cells, x, h, _ => by simp [layR] at h
  | d + 1, t, cs, fuel, cells, x, h, hd => by
    simp only [layR] at h
    have one : ∀ {c : CK} {v : Value} (y : c.V), c.wide = 1 → CK.wf c y → DenS (fun _ => False) W (c.cell y 0) v → ([v] : List Value).length = CL.wide [c] ∧ ∃ y : CL [c], CL.wf [c] y ∧ FD W [c] y fun j => ([v] : List Value)[j]? := by
      intro c v y hw hy hv
      refine ⟨by simp [CL.wide, hw], (y, ()), ⟨hy, trivial⟩, fun j hj => ?_⟩
      simp only [CL.wide, hw] at hj
      obtain rfl : j = 0 := by omega
      refine ⟨v, rfl, ?_⟩
      simp only [CL.cell, hw]
      exact hv
    split at h
    · rename_i k ht
      simp only [Option.some.injEq] at h
      subst h
      obtain ⟨n, rfl, _, hw⟩ := DataW.trod_int ht hd
      exact one (c := .int k) n rfl hw (.int k n)
    · rename_i ht
      simp only [Option.some.injEq] at h
      subst h
      obtain ⟨b, rfl, _⟩ := DataW.trod_bool ht hd
      exact one (c := .bool) b rfl trivial (.bool b)
    · rename_i ht
      simp only [Option.some.injEq] at h
      subst h
      obtain ⟨s, rfl, _, hs⟩ := DataW.trod_string ht hd
      exact one (c := .str) s rfl hs (.str s)
    · rename_i e ht
      split at h
      · rename_i k he
        rw [Bool.cond_eq_ite] at h
        split at h
        · rename_i hw
          have hw : P.cellsOf e = 1 := by simpa using hw
          simp only [Option.some.injEq] at h
          subst h
          obtain ⟨v, xs, rfl, h1, h2⟩ := trod_row (cs := [.int k]) ht hw (Nat.le_refl _) (fun {fuel cells x} hx => by
            obtain ⟨n, rfl, _, hwf⟩ := DataW.trod_int he hx
            exact one (c := .int k) n rfl hwf (.int k n)) hd
          refine one (c := .ints k) (xs.map fun y : CL [.int k] => (show Int from y.1)) rfl (fun n hn => ?_) (den_ro_congr (c := .typ [.int k] xs) ?_ rfl ?_ h2)
          · obtain ⟨y, hy, rfl⟩ := List.mem_map.1 hn
            exact (h1 y hy).1
          · exact List.length_map _
          · intro i j hi hj
            have hj : j < 1 := hj
            obtain rfl : j = 0 := by omega
            have hi : i < xs.length := hi
            exact congrArg (SV.int k) (mapD (fun y : CL [.int k] => (show Int from y.1)) xs 0 (CL.d [.int k]) hi)
        · cases h
      · rename_i he
        rw [Bool.cond_eq_ite] at h
        split at h
        · rename_i hw
          have hw : P.cellsOf e = 1 := by simpa using hw
          simp only [Option.some.injEq] at h
          subst h
          obtain ⟨v, xs, rfl, h1, h2⟩ := trod_row (cs := [.str]) ht hw (Nat.le_refl _) (fun {fuel cells x} hx => by
            obtain ⟨n, rfl, _, hwf⟩ := DataW.trod_string he hx
            exact one (c := .str) n rfl hwf (.str n)) hd
          refine one (c := .strs) (xs.map fun y : CL [.str] => (show ByteArray from y.1)) rfl (fun n hn => ?_) (den_ro_congr (c := .typ [.str] xs) ?_ rfl ?_ h2)
          · obtain ⟨y, hy, rfl⟩ := List.mem_map.1 hn
            exact (h1 y hy).1
          · exact List.length_map _
          · intro i j hi hj
            have hj : j < 1 := hj
            obtain rfl : j = 0 := by omega
            have hi : i < xs.length := hi
            exact congrArg (SV.str) (mapD (fun y : CL [.str] => (show ByteArray from y.1)) xs ByteArray.empty (CL.d [.str]) hi)
        · cases h
      · rename_i he
        rw [Bool.cond_eq_ite] at h
        split at h
        · rename_i hw
          have hw : P.cellsOf e = 1 := by simpa using hw
          simp only [Option.some.injEq] at h
          subst h
          obtain ⟨v, xs, rfl, h1, h2⟩ := trod_row (cs := [.bool]) ht hw (Nat.le_refl _) (fun {fuel cells x} hx => by
            obtain ⟨n, rfl, _⟩ := DataW.trod_bool he hx
            exact one (c := .bool) n rfl trivial (.bool n)) hd
          refine one (c := .bools) (xs.map fun y : CL [.bool] => (show Bool from y.1)) rfl trivial (den_ro_congr (c := .typ [.bool] xs) ?_ rfl ?_ h2)
          · exact List.length_map _
          · intro i j hi hj
            have hj : j < 1 := hj
            obtain rfl : j = 0 := by omega
            have hi : i < xs.length := hi
            exact congrArg (SV.bool) (mapD (fun y : CL [.bool] => (show Bool from y.1)) xs false (CL.d [.bool]) hi)
        · cases h
      · obtain ⟨cs', h1, h2⟩ := Option.bind_eq_some_iff.1 h
        rw [Bool.cond_eq_ite] at h2
        split at h2
        · rename_i hb
          simp only [Bool.and_eq_true, Nat.beq_eq] at hb
          obtain ⟨hw, hw1⟩ := hb
          have hw1 := Nat.le_of_ble_eq_true hw1
          simp only [Option.some.injEq] at h2
          subst h2
          obtain ⟨v, xs, rfl, h3, h4⟩ := trod_row (cs := cs') ht hw hw1 (fun hx => trod_cl d h1 hx) hd
          exact one (c := .rows cs') xs rfl h3 h4
        · cases h2
    · rename_i fs ht
      obtain ⟨cs', h1, h2⟩ := Option.bind_eq_some_iff.1 h
      rw [Bool.cond_eq_ite] at h2
      split at h2
      · rename_i hw
        have hw : P.cellsOf t = CL.wide cs' := by simpa using hw
        simp only [Option.some.injEq] at h2
        subst h2
        obtain ⟨xs, n, _, _, h3, h4, h5⟩ := DataW.trod_struct ht hd
        obtain ⟨y, h6, h7⟩ := trod_fs (enc := enc) (n := n) (cells := cells) (fun h1 h2 => trod_cl d h1 h2) fs.toList h1 (fun f hf => by
          obtain ⟨i, hi, rfl⟩ := List.getElem_of_mem hf
          have hi' : i < fs.size := by simpa using hi
          have := h5 i fs[i] (Array.getElem?_eq_getElem hi')
          rw [List.getElem?_eq_getElem (by omega)] at this
          exact ⟨_, by simpa using this⟩)
        refine ⟨by omega, y, h6, fun j hj => ?_⟩
        have := h7 j hj
        simpa using this
      · cases h2
    · rename_i n e ht
      split at h
      · rename_i k he
        rw [Bool.cond_eq_ite] at h
        split at h
        · rename_i hb
          simp only [Bool.and_eq_true, Nat.beq_eq] at hb
          obtain ⟨hw, hwt⟩ := hb
          simp only [Option.some.injEq] at h
          subst h
          obtain ⟨xs, m, _, _, h1, h2, h3⟩ := DataW.trod_array ht hd
          have each : ∀ i, i < n → ∃ z : Int, (Lit.int k z).wf = true ∧ cells[i]? = some (.int k z) := by
            intro i hi
            have h4 := h3 i hi
            rw [List.getElem?_eq_getElem (by omega), hw] at h4
            obtain ⟨z, h5, _, h6⟩ := DataW.trod_int he h4
            refine ⟨z, h6, ?_⟩
            have h7 : ((cells.drop (i * 1)).take 1)[0]? = some (.int k z) := by rw [h5]; rfl
            rw [List.getElem?_take, if_pos (by omega), List.getElem?_drop] at h7
            simpa using h7
          obtain ⟨zs, hz1, hz2⟩ := list_of n each
          refine ⟨by simp [CL.wide, CK.wide]; omega, (zs, ()), ⟨⟨hz1, fun z hz => ?_⟩, trivial⟩, fun j hj => ?_⟩
          · obtain ⟨i, hi, rfl⟩ := List.getElem_of_mem (show z ∈ zs from hz)
            exact (hz2 i hi).1
          · simp only [CL.wide, CK.wide, Nat.add_zero] at hj
            refine ⟨.int k zs[j], (hz2 j (by omega)).2, ?_⟩
            simp only [CL.cell, CK.wide]
            rw [blt_tt hj]
            show DenS _ _ (.int k (zs.getD j 0)) _
            rw [show zs.getD j 0 = zs[j] from by simp [List.getD, hz1, hj]]
            exact .int k _
        · cases h
      · cases h
    · cases h

/-! ### values of an argument's type -/
def RK.ck : RK → CK
  | .ints k => .ints k
  | .strs => .strs
  | .bools => .bools
  | .typ cs => .rows cs
def B.ck : B → CK
  | .int k => .int k
  | .bool => .bool
  | .str => .str
  | .row r _ => r.ck
  | .rrow r _ => r.ck
  | .arr k n => .arr k n
  | .fn => .bool
def B.noFn : B → Bool
  | .fn => false
  | _ => true
def RK.of : (r : RK) → r.ck.V → r.V
  | .ints _, y => y
  | .strs, y => y
  | .bools, y => y
  | .typ _, y => y
def B.of : (b : B) → b.ck.V → b.V
  | .int _, y => y
  | .bool, y => y
  | .str, y => y
  | .row r _, y => r.of y
  | .rrow r _, y => r.of y
  | .arr _ _, y => y
  | .fn, _ => (0 : Nat)
def RK.wf : (r : RK) → r.V → Prop
  | .ints k, x => ∀ n ∈ x, (Lit.int k n).wf = true
  | .strs, x => ∀ s ∈ x, ByteArray.size s ≤ maxLen
  | .bools, _ => True
  | .typ cs, x => ∀ y ∈ x, CL.wf cs y
def B.wf : (b : B) → b.V → Prop
  | .int k, n => (Lit.int k n).wf = true
  | .str, s => ByteArray.size s ≤ maxLen
  | .row r _, x => r.wf x
  | .rrow r _, x => r.wf x
  | .arr k n, ws => List.length (α := Int) ws = n ∧ ∀ m ∈ (show List Int from ws), (Lit.int k m).wf = true
  | _, _ => True
def BL.wf : (bs : List B) → BL bs → Prop
  | [], _ => True
  | b :: bs, (x, y) => b.wf x ∧ BL.wf bs y
def Ty.wf : (t : Ty) → t.V → Prop
  | .b q, x => q.wf x
  | .st bs, x => BL.wf bs x
def AL.wf : (ts : List Ty) → AL ts → Prop
  | [], _ => True
  | t :: ts, (x, y) => t.wf x ∧ AL.wf ts y
def BL.of : (bs : List B) → CL (bs.map B.ck) → BL bs
  | [], _ => ()
  | b :: bs, y => (b.of y.1, BL.of bs y.2)

theorem B.of_wf {b : B} {y : b.ck.V} (h : CK.wf b.ck y) : b.wf (b.of y) := by
  cases b with
  | int k => exact h
  | bool => trivial
  | str => exact h
  | row r e => cases r <;> exact h
  | rrow r e => cases r <;> exact h
  | arr k n => exact h
  | fn => trivial

theorem B.of_den {b : B} (hb : b.noFn = true) {y : b.ck.V} (hy : CK.wf b.ck y) {cells : List Value} (hl : cells.length = b.ck.wide) (h : ∀ j, j < b.ck.wide → ∃ u, cells[j]? = some u ∧ DenS (fun _ => False) W (b.ck.cell y j) u) :
    DenC ρ Hh (fun _ => False) W (b.av (b.of y)) cells := by
  have one : b.ck.wide = 1 → ∃ u, cells = [u] ∧ DenS (fun _ => False) W (b.ck.cell y 0) u := by
    intro h1
    obtain ⟨u, h2, h3⟩ := h 0 (by omega)
    rw [h1] at hl
    match cells, hl with
    | [v], _ => simp only [List.getElem?_cons_zero, Option.some.injEq] at h2; subst h2; exact ⟨v, rfl, h3⟩
  cases b with
  | int k => obtain ⟨u, rfl, h2⟩ := one rfl; show DenC _ _ _ _ (.s (.int k y)) _; unfold DenC; exact ⟨u, rfl, h2⟩
  | bool => obtain ⟨u, rfl, h2⟩ := one rfl; show DenC _ _ _ _ (.s (.bool y)) _; unfold DenC; exact ⟨u, rfl, h2⟩
  | str => obtain ⟨u, rfl, h2⟩ := one rfl; show DenC _ _ _ _ (.s (.str y)) _; unfold DenC; exact ⟨u, rfl, h2⟩
  | row r e =>
    obtain ⟨u, rfl, h2⟩ := one (by cases r <;> rfl)
    show DenC _ _ _ _ (.s (.ro (r.con (r.of y)))) _
    unfold DenC
    exact ⟨u, rfl, by cases r <;> exact h2⟩
  | rrow r e =>
    obtain ⟨u, rfl, h2⟩ := one (by cases r <;> rfl)
    show DenC _ _ _ _ (.s (.ro (r.con (r.of y)))) _
    unfold DenC
    exact ⟨u, rfl, by cases r <;> exact h2⟩
  | arr k n =>
    show DenC _ _ _ _ (.ints k n y) _
    unfold DenC
    have key : ∀ ys : List Int, ys.length = n → (∀ j, j < n → ∃ u, cells[j]? = some u ∧ DenS (fun _ => False) W (.int k (ys.getD j 0)) u) → cells.length = n → cells = ys.map (Value.int k) := by
      intro ys h1 h2 h3
      refine List.ext_getElem (by rw [h3, List.length_map, h1]) fun j h4 h5 => ?_
      obtain ⟨u, h6, h7⟩ := h2 j (by omega)
      cases h7
      rw [List.getElem?_eq_getElem h4, Option.some.injEq] at h6
      rw [h6, List.getElem_map]
      congr 1
      simp [List.getD, show j < ys.length by omega]
    exact ⟨hy.1, key y hy.1 h hl⟩
  | fn => cases hb

theorem BL.of_den : ∀ {bs : List B}, bs.all B.noFn = true → ∀ {y : CL (bs.map B.ck)}, CL.wf (bs.map B.ck) y → ∀ {cells : List Value}, cells.length = CL.wide (bs.map B.ck) → (FD W (bs.map B.ck) y fun j => cells[j]?) →
    BL.wf bs (BL.of bs y) ∧ DenSegs ρ Hh (fun _ => False) W (BL.av bs (BL.of bs y)) cells
  | [], _, y, _, cells, hl, _ => ⟨trivial, DenSegs_nil.2 (List.eq_nil_of_length_eq_zero hl)⟩
  | b :: bs, hb, y, hy, cells, hl, h => by
    simp only [List.all_cons, Bool.and_eq_true] at hb
    simp only [List.map_cons, CL.wide] at hl
    have hy : CK.wf b.ck y.1 ∧ CL.wf (bs.map B.ck) y.2 := hy
    have h : ∀ j, j < b.ck.wide + CL.wide (bs.map B.ck) → ∃ u, cells[j]? = some u ∧ DenS (fun _ => False) W (bif j.blt b.ck.wide then b.ck.cell y.1 j else CL.cell (bs.map B.ck) y.2 (j - b.ck.wide)) u := h
    obtain ⟨h1, h2⟩ := BL.of_den hb.2 (y := y.2) hy.2 (cells := cells.drop b.ck.wide) (by rw [List.length_drop]; omega) (fun j hj => by
      obtain ⟨u, h3, h4⟩ := h (b.ck.wide + j) (by omega)
      rw [blt_ff (by omega), cond_false, Nat.add_sub_cancel_left] at h4
      exact ⟨u, by dsimp only; rw [List.getElem?_drop]; exact h3, h4⟩)
    refine ⟨⟨B.of_wf hy.1, h1⟩, DenSegs_cons.2 ⟨cells.take b.ck.wide, cells.drop b.ck.wide, (List.take_append_drop _ _).symm, B.of_den hb.1 hy.1 (by rw [List.length_take]; omega) (fun j hj => ?_), h2⟩⟩
    obtain ⟨u, h3, h4⟩ := h j (by omega)
    rw [blt_tt hj, cond_true] at h4
    exact ⟨u, by rw [List.getElem?_take, if_pos hj]; exact h3, h4⟩

def Ty.lay (P : Program) (t : TypeId) : Ty → Bool
  | .b q => q.noFn && (layR P 12 t).any (fun cs => (CL.eq cs [q.ck]).isSome) && (match P.underlying t, q with
    | some (.array _ _), .arr _ _ => true
    | some (.struct _), _ => false
    | some (.array _ _), _ => false
    | _, .arr _ _ => false
    | _, _ => true)
  | .st bs => bs.all B.noFn && (layR P 12 t).any (fun cs => (CL.eq cs (bs.map B.ck)).isSome) && (match P.underlying t with
    | some (.struct _) => true
    | _ => false)

theorem lay_eq {d : Nat} {t : TypeId} {cs' : List CK} (h : (layR P d t).any (fun cs => (CL.eq cs cs').isSome) = true) : layR P d t = some cs' := by
  cases hl : layR P d t with
  | none => simp [hl] at h
  | some cs =>
    rw [hl, Option.any_some] at h
    obtain ⟨e, _⟩ := Option.isSome_iff_exists.1 h
    rw [e.down]

theorem den_ty {t : TypeId} {ty : Ty} {v : Value} {d : DataW H} {ps : List MemPlace} (hl : ty.lay P t = true) (hval : Value.okWide P W .any base t v) (hd : DataW.Trod enc P W 0 (fun _ => true) true t v d ps) :
    ∃ x : ty.V, ty.wf x ∧ DenV ρ Hh (fun _ => False) W (ty.av x) v := by
  obtain ⟨fuel, hd⟩ := hd
  cases ty with
  | st bs =>
    simp only [Ty.lay, Bool.and_eq_true] at hl
    obtain ⟨⟨h1, h2⟩, h3⟩ := hl
    split at h3
    · rename_i fs ht
      simp only [Value.okWide, ht] at hval
      obtain ⟨cs, rfl, _, _⟩ := hval
      obtain ⟨h4, y, h5, h6⟩ := trod_cl 12 (lay_eq h2) hd
      obtain ⟨h7, h8⟩ := BL.of_den (ρ := ρ) (Hh := Hh) h1 h5 h4 h6
      refine ⟨BL.of bs y, h7, ?_⟩
      show DenV _ _ _ _ (.agg _) _
      unfold DenV
      exact ⟨cs.toList, by simp, h8⟩
    · cases h3
  | b q =>
    simp only [Ty.lay, Bool.and_eq_true] at hl
    obtain ⟨⟨h1, h2⟩, h3⟩ := hl
    obtain ⟨h4, y, h5, h6⟩ := trod_cl 12 (lay_eq h2) hd
    have h4 : v.cells.toList.length = q.ck.wide := by simpa [CL.wide] using h4
    have h5 : CK.wf q.ck y.1 := h5.1
    have key := B.of_den (ρ := ρ) (Hh := Hh) h1 h5 h4 (fun j hj => by
      obtain ⟨u, h7, h8⟩ := h6 j (by simp only [CL.wide]; omega)
      simp only [CL.cell] at h8
      rw [blt_tt hj, cond_true] at h8
      exact ⟨u, h7, h8⟩)
    refine ⟨q.of y.1, B.of_wf h5, ?_⟩
    show DenV _ _ _ _ (q.av _) _
    have single : (∀ cs, v ≠ .agg cs) → (∀ k n ws, q.av (q.of y.1) ≠ .ints k n ws) → DenV ρ Hh (fun _ => False) W (q.av (q.of y.1)) v := by
      intro hna hni
      have hc : v.cells.toList = [v] := by cases v <;> first | rfl | exact absurd rfl (hna _)
      rw [hc] at key
      obtain ⟨u, hu, _, hden⟩ := DenC_single key (wide_other hni) hni
      cases hu
      exact hden
    by_cases harr : ∃ k n, q = .arr k n
    · obtain ⟨k, n, rfl⟩ := harr
      obtain ⟨n', e', ht⟩ : ∃ n' e', P.underlying t = some (.array n' e') := by
        cases hu : P.underlying t with
        | none => simp [hu] at h3
        | some td => cases td <;> simp [hu] at h3 ⊢
      simp only [Value.okWide, ht] at hval
      obtain ⟨cs, rfl, _, _⟩ := hval
      have key : DenC ρ Hh (fun _ => False) W (.ints k n y.1) cs.toList := key
      unfold DenC at key
      show DenV _ _ _ _ (.ints k n y.1) _
      unfold DenV
      exact ⟨key.1, by rw [← key.2]⟩
    · have hns : (∀ fs, P.underlying t ≠ some (.struct fs)) ∧ ∀ n e, P.underlying t ≠ some (.array n e) := by
        cases hu : P.underlying t with
        | none => simp
        | some td => cases td <;> cases q <;> simp_all
      refine single (fun cs hv => ?_) (fun k n ws he => ?_)
      · subst hv
        unfold Value.okWide at hval
        split at hval
        · rename_i fs ht; exact hns.1 fs ht
        · rename_i n e ht; exact hns.2 n e ht
        · simp only [Cell.okWide, Cell.ok] at hval
          split at hval <;> simp_all
      · cases q <;> simp [B.av] at he
        exact harr ⟨_, _, rfl⟩

/-- A contract that says 'true', under what the reading gives: the call's end. -/
theorem calls_true_pre {Z : Glob} {f : FuncId} {ts : List Ty} {pre : AL ts → List Prop} (h : FnOk P Z f ts [.b .bool] pre (fun _ => (true, ()))) (hz : Z.ok W) {x : AL ts} {vs : List Value} (hp : Needs (pre x))
    (hd : DenL (fun _ => undef) (fun _ => none) (fun _ => False) W (AL.av ts x) vs) : Calls P f vs.toArray W fun e W' => e = .returned (.bool true) ∧ Same W W' := by
  have e0 : Hot (fun _ => undef) (fun _ => none) (fun _ => False) = fun _ => False := by
    funext b
    refine propext ⟨fun h => ?_, False.elim⟩
    rcases h with ⟨id, o, ho, _⟩ | h
    · cases ho
    · exact h
  refine (h x (AL.okL hd) hp (fun _ => False) W vs (fun _ h => h.elim) hz (by rw [e0]; exact hd)).mono ?_
  rintro e W' ⟨v, rfl, ρ', _, h2, _, h4⟩
  have h5 : DenV ρ' (lk []) (Hot ρ' (lk []) fun _ => False) W' (.s (.bool true)) v := h2
  have h6 := DenS_of_V (by simp) h5
  cases h6
  exact ⟨rfl, h4.os, h4.output, fun b hb => h4.heap b hb (fun ⟨id, o, ho, _⟩ => by cases ho)⟩
end
end Go.Sx

/-! The last facts of a row whose program is a cut: its head word is read once. -/
namespace Go.Sx
open Go

theorem make_cut (P : Program) (r : List (List Char)) (h : behindMainWord (wordsSigns P.initOrder.toList) = [(Char.ofNat 99), (Char.ofNat 117), (Char.ofNat 116)] :: r) : P.make = some .cut := by
  unfold Program.make; rw [h]; kernel_rfl
theorem lifts_cut (P : Program) (r : List (List Char)) (h : behindMainWord (wordsSigns P.initOrder.toList) = [(Char.ofNat 99), (Char.ofNat 117), (Char.ofNat 116)] :: r) (hs : stripLifts liftWords ([(Char.ofNat 99), (Char.ofNat 117), (Char.ofNat 116)] :: r) = ([], [(Char.ofNat 99), (Char.ofNat 117), (Char.ofNat 116)] :: r)) : P.liftsFinal = false := by
  unfold Program.liftsFinal Program.headLifts; rw [h]; dsimp only; rw [hs]; kernel_rfl
theorem enter_cut (P : Program) (r : List (List Char)) (h : behindMainWord (wordsSigns P.initOrder.toList) = [(Char.ofNat 99), (Char.ofNat 117), (Char.ofNat 116)] :: r) (hs : stripLifts liftWords ([(Char.ofNat 99), (Char.ofNat 117), (Char.ofNat 116)] :: r) = ([], [(Char.ofNat 99), (Char.ofNat 117), (Char.ofNat 116)] :: r))
    (h1 : P.laysLater = false) (h2 : P.bearsReflect = false) (h3 : P.doorFits [] = true) : P.mayEnter = true := by
  unfold Program.mayEnter; rw [h]; dsimp only; rw [hs, h1, h2]; dsimp only; rw [h3]; kernel_rfl

def joinedRest (P : Program) (f : FuncId) (fn : Func) (s : ChangeSpec) (c : OpenClaim) : {b : Bool // P.mayEnter = true → P.liftsFinal = false → P.make = some .cut → joinedFacts P f fn s c = b} := by
  refine ⟨?b, fun h1 h2 h3 => ?h⟩
  case h =>
    unfold joinedFacts
    rw [h1, h2, h3]

theorem joined_cut {P : Program} {f : FuncId} {fn : Func} {s : ChangeSpec} {c : OpenClaim} (r : List (List Char)) (h : behindMainWord (wordsSigns P.initOrder.toList) = [(Char.ofNat 99), (Char.ofNat 117), (Char.ofNat 116)] :: r) (hs : stripLifts liftWords ([(Char.ofNat 99), (Char.ofNat 117), (Char.ofNat 116)] :: r) = ([], [(Char.ofNat 99), (Char.ofNat 117), (Char.ofNat 116)] :: r))
    (h1 : P.laysLater = false) (h2 : P.bearsReflect = false) (h3 : P.doorFits [] = true) (hr : (joinedRest P f fn s c).1 = true) : joinedFacts P f fn s c = true :=
  ((joinedRest P f fn s c).2 (enter_cut P r h hs h1 h2 h3) (lifts_cut P r h hs) (make_cut P r h)).trans hr
end Go.Sx

/- The head of the program's text, read once. -/
/-! The head. -/
namespace Go.Proofs.Ytbicapodiikpiaa.Hd
set_option maxRecDepth 100000 in
def ioL : List Char := [(Char.ofNat 104), (Char.ofNat 97), (Char.ofNat 114), (Char.ofNat 110), (Char.ofNat 101), (Char.ofNat 115), (Char.ofNat 115), (Char.ofNat 32), (Char.ofNat 100), (Char.ofNat 52), (Char.ofNat 101), (Char.ofNat 52), (Char.ofNat 98), (Char.ofNat 54), (Char.ofNat 57), (Char.ofNat 49), (Char.ofNat 52), (Char.ofNat 49), (Char.ofNat 102), (Char.ofNat 99), (Char.ofNat 50), (Char.ofNat 49), (Char.ofNat 50), (Char.ofNat 99), (Char.ofNat 99), (Char.ofNat 101), (Char.ofNat 53), (Char.ofNat 102), (Char.ofNat 49), (Char.ofNat 48), (Char.ofNat 99), (Char.ofNat 97), (Char.ofNat 102), (Char.ofNat 99), (Char.ofNat 51), (Char.ofNat 50), (Char.ofNat 48), (Char.ofNat 99), (Char.ofNat 55), (Char.ofNat 101), (Char.ofNat 57), (Char.ofNat 54), (Char.ofNat 55), (Char.ofNat 102), (Char.ofNat 101), (Char.ofNat 99), (Char.ofNat 54), (Char.ofNat 57), (Char.ofNat 55), (Char.ofNat 52), (Char.ofNat 51), (Char.ofNat 51), (Char.ofNat 52), (Char.ofNat 99), (Char.ofNat 50), (Char.ofNat 53), (Char.ofNat 49), (Char.ofNat 98), (Char.ofNat 51), (Char.ofNat 97), (Char.ofNat 50), (Char.ofNat 57), (Char.ofNat 50), (Char.ofNat 52), (Char.ofNat 100), (Char.ofNat 97), (Char.ofNat 54), (Char.ofNat 99), (Char.ofNat 48), (Char.ofNat 55), (Char.ofNat 53), (Char.ofNat 52), (Char.ofNat 32), (Char.ofNat 99), (Char.ofNat 117), (Char.ofNat 116), (Char.ofNat 32), (Char.ofNat 97), (Char.ofNat 116), (Char.ofNat 32), (Char.ofNat 99), (Char.ofNat 97), (Char.ofNat 108), (Char.ofNat 108), (Char.ofNat 98), (Char.ofNat 111), (Char.ofNat 97), (Char.ofNat 114), (Char.ofNat 100), (Char.ofNat 47), (Char.ofNat 99), (Char.ofNat 97), (Char.ofNat 108), (Char.ofNat 108), (Char.ofNat 98), (Char.ofNat 111), (Char.ofNat 97), (Char.ofNat 114), (Char.ofNat 100), (Char.ofNat 108), (Char.ofNat 97), (Char.ofNat 119), (Char.ofNat 48), (Char.ofNat 52), (Char.ofNat 46), (Char.ofNat 80), (Char.ofNat 97), (Char.ofNat 103), (Char.ofNat 101), (Char.ofNat 82), (Char.ofNat 111), (Char.ofNat 111), (Char.ofNat 116), (Char.ofNat 115), (Char.ofNat 32), (Char.ofNat 99), (Char.ofNat 97), (Char.ofNat 108), (Char.ofNat 108), (Char.ofNat 98), (Char.ofNat 111), (Char.ofNat 97), (Char.ofNat 114), (Char.ofNat 100), (Char.ofNat 47), (Char.ofNat 99), (Char.ofNat 97), (Char.ofNat 108), (Char.ofNat 108), (Char.ofNat 98), (Char.ofNat 111), (Char.ofNat 97), (Char.ofNat 114), (Char.ofNat 100), (Char.ofNat 108), (Char.ofNat 97), (Char.ofNat 119), (Char.ofNat 48), (Char.ofNat 52), (Char.ofNat 46), (Char.ofNat 80), (Char.ofNat 97), (Char.ofNat 103), (Char.ofNat 101), (Char.ofNat 78), (Char.ofNat 97), (Char.ofNat 109), (Char.ofNat 101), (Char.ofNat 115), (Char.ofNat 32), (Char.ofNat 99), (Char.ofNat 97), (Char.ofNat 108), (Char.ofNat 108), (Char.ofNat 98), (Char.ofNat 111), (Char.ofNat 97), (Char.ofNat 114), (Char.ofNat 100), (Char.ofNat 47), (Char.ofNat 99), (Char.ofNat 97), (Char.ofNat 108), (Char.ofNat 108), (Char.ofNat 98), (Char.ofNat 111), (Char.ofNat 97), (Char.ofNat 114), (Char.ofNat 100), (Char.ofNat 108), (Char.ofNat 97), (Char.ofNat 119), (Char.ofNat 48), (Char.ofNat 54), (Char.ofNat 46), (Char.ofNat 76), (Char.ofNat 101), (Char.ofNat 97), (Char.ofNat 102), (Char.ofNat 78), (Char.ofNat 97), (Char.ofNat 109), (Char.ofNat 101), (Char.ofNat 115), (Char.ofNat 32), (Char.ofNat 99), (Char.ofNat 97), (Char.ofNat 108), (Char.ofNat 108), (Char.ofNat 98), (Char.ofNat 111), (Char.ofNat 97), (Char.ofNat 114), (Char.ofNat 100), (Char.ofNat 47), (Char.ofNat 99), (Char.ofNat 97), (Char.ofNat 108), (Char.ofNat 108), (Char.ofNat 98), (Char.ofNat 111), (Char.ofNat 97), (Char.ofNat 114), (Char.ofNat 100), (Char.ofNat 108), (Char.ofNat 97), (Char.ofNat 119), (Char.ofNat 48), (Char.ofNat 52), (Char.ofNat 46), (Char.ofNat 80), (Char.ofNat 97), (Char.ofNat 103), (Char.ofNat 101), (Char.ofNat 66), (Char.ofNat 97), (Char.ofNat 99), (Char.ofNat 107), (Char.ofNat 32), (Char.ofNat 99), (Char.ofNat 97), (Char.ofNat 108), (Char.ofNat 108), (Char.ofNat 98), (Char.ofNat 111), (Char.ofNat 97), (Char.ofNat 114), (Char.ofNat 100), (Char.ofNat 47), (Char.ofNat 99), (Char.ofNat 97), (Char.ofNat 108), (Char.ofNat 108), (Char.ofNat 98), (Char.ofNat 111), (Char.ofNat 97), (Char.ofNat 114), (Char.ofNat 100), (Char.ofNat 108), (Char.ofNat 97), (Char.ofNat 119), (Char.ofNat 48), (Char.ofNat 52), (Char.ofNat 46), (Char.ofNat 80), (Char.ofNat 97), (Char.ofNat 103), (Char.ofNat 101), (Char.ofNat 84), (Char.ofNat 111), (Char.ofNat 114), (Char.ofNat 110), (Char.ofNat 32), (Char.ofNat 99), (Char.ofNat 97), (Char.ofNat 108), (Char.ofNat 108), (Char.ofNat 98), (Char.ofNat 111), (Char.ofNat 97), (Char.ofNat 114), (Char.ofNat 100), (Char.ofNat 47), (Char.ofNat 99), (Char.ofNat 97), (Char.ofNat 108), (Char.ofNat 108), (Char.ofNat 98), (Char.ofNat 111), (Char.ofNat 97), (Char.ofNat 114), (Char.ofNat 100), (Char.ofNat 108), (Char.ofNat 97), (Char.ofNat 119), (Char.ofNat 48), (Char.ofNat 52), (Char.ofNat 46), (Char.ofNat 80), (Char.ofNat 97), (Char.ofNat 103), (Char.ofNat 101), (Char.ofNat 77), (Char.ofNat 97), (Char.ofNat 114), (Char.ofNat 107), (Char.ofNat 101), (Char.ofNat 100), (Char.ofNat 32), (Char.ofNat 99), (Char.ofNat 97), (Char.ofNat 108), (Char.ofNat 108), (Char.ofNat 98), (Char.ofNat 111), (Char.ofNat 97), (Char.ofNat 114), (Char.ofNat 100), (Char.ofNat 47), (Char.ofNat 99), (Char.ofNat 97), (Char.ofNat 108), (Char.ofNat 108), (Char.ofNat 98), (Char.ofNat 111), (Char.ofNat 97), (Char.ofNat 114), (Char.ofNat 100), (Char.ofNat 108), (Char.ofNat 97), (Char.ofNat 119), (Char.ofNat 48), (Char.ofNat 52), (Char.ofNat 46), (Char.ofNat 80), (Char.ofNat 97), (Char.ofNat 103), (Char.ofNat 101), (Char.ofNat 80), (Char.ofNat 108), (Char.ofNat 97), (Char.ofNat 121), (Char.ofNat 115)]
set_option maxRecDepth 100000 in
theorem ioE : Try.prog.initOrder = String.ofList ioL := by kernel_rfl
theorem ioT : Try.prog.initOrder.toList = ioL := by rw [ioE]; exact String.toList_ofList
def restL : List (List Char) := (wordsSigns ioL).drop 3
theorem hb : behindMainWord (wordsSigns Try.prog.initOrder.toList) = [(Char.ofNat 99), (Char.ofNat 117), (Char.ofNat 116)] :: restL := by rw [ioT]; kernel_rfl
theorem a1 : Try.prog.laysLater = false := by kernel_rfl
theorem a2 : Try.prog.bearsReflect = false := by kernel_rfl
theorem a3 : stripLifts liftWords ([(Char.ofNat 99), (Char.ofNat 117), (Char.ofNat 116)] :: restL) = ([], [(Char.ofNat 99), (Char.ofNat 117), (Char.ofNat 116)] :: restL) := by kernel_rfl
theorem a5 : Try.prog.doorFits [] = true := by kernel_rfl
theorem own : ownKnob Try.prog.godebug = none := by kernel_rfl
theorem laidOut : laidOutB Try.prog = true := by kernel_rfl
end Go.Proofs.Ytbicapodiikpiaa.Hd

/-! Contracts of functions that are handed own objects: what they find in them, and what they leave. -/
namespace Go.Sx
open Go

/-- By plain data: the arguments over objects 0, 1, .., what these bear, what is owed, what they bear behind the call (new ones behind them), and the answer. -/
structure Spec (X : Type) where
  args : X → List AV
  heap : X → List AObj
  pre : X → List Prop
  outH : X → List AObj
  out : X → AV

def FnS (P : Program) (Z : Glob) (f : FuncId) {X : Type} (S : Spec X) : Prop :=
  ∀ x, Needs (S.pre x) → ∀ (ρ : Nat → Value) (G : Nat → Prop) (w : World) (vs : List Value), ZAt Z ρ (lk (S.heap x)) w → Sat ρ (lk (S.heap x)) G w →
    DenL ρ (lk (S.heap x)) (Hot ρ (lk (S.heap x)) G) w (S.args x) vs →
    Calls P f vs.toArray w fun e w' => ∃ v, e = .returned v ∧ Good ρ (lk (S.heap x)) G w (lk (S.outH x)) (S.out x) v w'

/-- The run's end, seen by a Norm. -/
def EndS {X : Type} (S : Spec X) (x : X) (L : List AObj) (r : AV) : Prop :=
  ∃ N : Norm, (S.heap x).length ≤ N.m ∧ N.run ⟨[r], L, [], {}⟩ = some ⟨[S.out x], S.outH x, [], {}⟩

def RM.bind {α β : Type} : RM α → (α → RM β) → RM β
  | .ret a, k => k a
  | .look id f, k => .look id fun o => (f o).bind k
  | .fail w, _ => .fail w

def lookAll : List Nat → (List AObj → RM Res) → RM Res
  | [], k => k []
  | i :: is, k => .look i fun o => match o with
    | some o => lookAll is fun os => k (o :: os)
    | none => .fail "no object"

/-- The callee's numbers, seen by the caller. -/
def back (σ : List Nat) (base n : Nat) (j : Nat) : Option Nat := bif j.blt σ.length then σ[j]? else bif j.blt n then some (base + (j - σ.length)) else none

/-- The summary: M tells the data and the objects; that it is right is owed. -/
def sumS {X : Type} (S : Spec X) (M : List AV → RM (X × List Nat)) : Nat → List AV → RM Res := fun base args =>
  (M args).bind fun (x, σ) => bif nodupB σ then lookAll σ fun os =>
    (match allM (rnO (back σ base (S.outH x).length)) (S.outH x), rn (back σ base (S.outH x).length) 20 (S.out x) with
     | some L', some r => bif σ.length.ble L'.length then
        .ret ⟨(allM (rn (idx σ) 20) args = some (S.args x)) :: (allM (rnO (idx σ)) os = some (S.heap x)) :: S.pre x, σ.zip L', L'.drop σ.length, fun _ => r⟩ else .fail "sum: objects are gone"
     | _, _ => .fail "sum: names")
   else .fail "sum: one object twice"

section
variable {ρ ρ' : Nat → Value} {H H' : AHeap} {G O O' : Nat → Prop} {w w' : World} {P : Program} {Z : Glob} {X : Type} {S : Spec X}

theorem RM.bind_eval {α β : Type} : ∀ {m : RM α} {k : α → RM β} {q : β}, (m.bind k).eval H = some q → ∃ a, m.eval H = some a ∧ (k a).eval H = some q
  | .ret a, k, q, h => ⟨a, rfl, h⟩
  | .look id f, k, q, h => by
    simp only [RM.bind, RM.eval] at h ⊢
    exact RM.bind_eval h
  | .fail w, k, q, h => by simp [RM.bind, RM.eval] at h

theorem lookAll_eval : ∀ {is : List Nat} {k : List AObj → RM Res} {q : Res}, (lookAll is k).eval H = some q → ∃ os : List AObj, (k os).eval H = some q ∧ os.length = is.length ∧ ∀ (j id : Nat), is[j]? = some id → H id = os[j]? ∧ os[j]?.isSome = true
  | [], k, q, h => ⟨[], h, rfl, fun j id hj => by simp at hj⟩
  | i :: is, k, q, h => by
    simp only [lookAll, RM.eval] at h
    split at h
    · rename_i o ho
      obtain ⟨os, h1, h2, h3⟩ := lookAll_eval h
      refine ⟨o :: os, h1, by simp [h2], fun j id hj => ?_⟩
      cases j with
      | zero => simp only [List.getElem?_cons_zero, Option.some.injEq] at hj; subst hj; exact ⟨by simpa using ho, rfl⟩
      | succ j => simpa using h3 j id (by simpa using hj)
    · simp [RM.eval] at h

theorem fnS_of_safe {f : FuncId} {fn : Func} (hf : P.funcs[f]? = some fn) (hb : fn.body.isSome = true) (hn : ∀ x, (S.args x).length ≤ fn.ntmps)
    (h : ∀ x, Needs (S.pre x) → ∀ X : Ctx, X.H = lk (S.heap x) → ZCtx Z X → Safe P f X (EndS S x) (start fn (S.args x) (S.heap x))) : FnS P Z f S := by
  intro x hpre ρ G w vs hz hs hd
  obtain ⟨c, hb⟩ := Option.isSome_iff_exists.1 hb
  have hlenV : vs.length = (S.args x).length := by
    have : ∀ {azs : List AV} {vs : List Value}, DenL ρ (lk (S.heap x)) (Hot ρ (lk (S.heap x)) G) w azs vs → vs.length = azs.length := by
      intro azs
      induction azs with
      | nil => intro vs h; rw [DenL_nil.1 h]; rfl
      | cons a azs ih => intro vs h; obtain ⟨v, rest, rfl, _, h2⟩ := DenL_cons.1 h; simp [ih h2]
    exact this hd
  refine (calls_of_goes (R := Post ⟨ρ, lk (S.heap x), G, w, []⟩ (EndS S x)) hf hb ?_).mono ?_
  · have := (h x hpre ⟨ρ, lk (S.heap x), G, w, []⟩ rfl hz).goes rfl rfl (ρ := ρ) (a := { tmps := vs.toArray ++ Array.replicate (fn.ntmps - vs.toArray.size) undef, defers := [] }) (w := w)
    simp only [start, hb, Option.getD_some] at this
    refine this ⟨hs, ?_, fun t => ?_, rfl, Step.refl _ _ _ _, ⟨rfl, rfl, rfl, fun _ _ _ => rfl⟩, fun x hx => by cases hx⟩
    · simp [hlenV]
    · have e1 : ∀ (azs : List AV) (vs : List Value), DenL ρ (lk (S.heap x)) (Hot ρ (lk (S.heap x)) G) w azs vs → ∀ t, DenV ρ (lk (S.heap x)) (Hot ρ (lk (S.heap x)) G) w (azs.getD t (.tup [])) (vs.getD t undef) := by
        intro azs
        induction azs with
        | nil => intro vs h t; rw [DenL_nil.1 h]; simp only [List.getD, List.getElem?_nil, Option.getD_none]; exact den_undef
        | cons a azs ih =>
          intro vs h t
          obtain ⟨v, rest, rfl, h1, h2⟩ := DenL_cons.1 h
          cases t with
          | zero => simpa using h1
          | succ t => simpa using ih rest h2 t
      have h1 := e1 _ _ hd t
      simp only [List.getD_eq_getElem?_getD, List.getElem?_append, List.getElem?_replicate, Array.getD_eq_getD_getElem?, Array.getElem?_append, List.getElem?_toArray, Array.getElem?_replicate, List.size_toArray] at h1 ⊢
      rw [hlenV]
      split
      · rename_i ht
        have hv : vs[t]? = some vs[t] := List.getElem?_eq_getElem (by omega)
        have ha : (S.args x)[t]? = some (S.args x)[t] := List.getElem?_eq_getElem ht
        rw [hv, ha] at h1 ⊢
        exact h1
      · split
        · exact den_undef
        · unfold DenV; trivial
  · rintro e w' ⟨v, rfl, L, r, ⟨N, hm, hN⟩, ρ1, g1, g2, g3, g4⟩
    refine ⟨v, rfl, ?_⟩
    have r0 : Rep ⟨ρ, lk (S.heap x), G, w, []⟩ ρ1 ⟨[r], L⟩ { tmps := #[v], defers := [] } w' := by
      refine ⟨g1, rfl, fun t => ?_, rfl, g3, g4, fun x hx => by cases hx⟩
      cases t with
      | zero => exact g2
      | succ t => simp only [List.getD, Array.getD]; simp; unfold DenV; trivial
    have h0 : ∀ id, N.m ≤ id → (⟨ρ, lk (S.heap x), G, w, []⟩ : Ctx).H id = none := fun id hid => by simp [lk]; omega
    unfold Norm.run at hN
    split at hN
    · rename_i t1 L1 h1
      simp only [] at hN
      split at hN
      · rename_i t2 L2 h2
        simp only [Option.some.injEq, Cfg.mk.injEq, and_true] at hN
        obtain ⟨rfl, rfl⟩ := hN
        obtain ⟨ρ1, r1⟩ := Rep.compact h0 h1 (Rep.keepOnly N.keep r0)
        obtain ⟨ρ2, r2⟩ := Rep.nilSlots N.nils r1
        obtain ⟨ρ3, r3⟩ := Rep.nilCells N.cells r2
        obtain ⟨ρ4, r4⟩ := Rep.compact h0 h2 r3
        exact ⟨ρ4, r4.sat, (by have h := r4.den 0; exact h), r4.from_, r4.frm⟩
      · cases hN
    · cases hN

theorem find_zip : ∀ {σ : List Nat} {L : List AObj} {j : Nat}, σ.Nodup → σ.length ≤ L.length →
    (∀ (i : Nat), σ[i]? = some j → findUp (σ.zip L) j = L[i]?) ∧ (j ∉ σ → findUp (σ.zip L) j = none)
  | [], L, j, hn, hl => ⟨fun i h => by simp at h, fun _ => rfl⟩
  | x :: xs, [], j, hn, hl => by simp at hl
  | x :: xs, l :: ls, j, hn, hl => by
    obtain ⟨h1, h2⟩ := find_zip (σ := xs) (L := ls) (j := j) (List.nodup_cons.1 hn).2 (by simpa using hl)
    constructor
    · intro i hi
      simp only [List.zip_cons_cons, findUp]
      cases i with
      | zero =>
        simp only [List.getElem?_cons_zero, Option.some.injEq] at hi
        subst hi
        rw [h2 (List.nodup_cons.1 hn).1]
        simp
      | succ i =>
        simp only [List.getElem?_cons_succ] at hi ⊢
        rw [h1 i hi]
        have hlt : i < xs.length := (List.getElem?_eq_some_iff.1 hi).1
        simp only [List.length_cons] at hl
        rw [List.getElem?_eq_getElem (show i < ls.length by omega)]
    · intro hj
      simp only [List.mem_cons, not_or] at hj
      simp only [List.zip_cons_cons, findUp]
      rw [h2 hj.2]
      simp [hj.1]

theorem FnS.sum {f : FuncId} (h : FnS P Z f S) (M : List AV → RM (X × List Nat)) : SOk1 P Z f (sumS S M) := by
  intro base args H q hq hn ρ G w vs hfresh hz hs hd
  unfold sumS at hq
  obtain ⟨⟨x, σ⟩, _, hq⟩ := RM.bind_eval hq
  simp only [Bool.cond_eq_ite] at hq
  split at hq
  · rename_i hnd
    have hnd := nodupB_spec hnd
    obtain ⟨os, hq, hlen, hos⟩ := lookAll_eval hq
    split at hq
    · rename_i L' r hL' hr
      split at hq
      · rename_i hle
        have hle := Nat.le_of_ble_eq_true hle
        simp only [RM.eval, Option.some.injEq] at hq
        subst hq
        obtain ⟨hargs, hheap, hpre⟩ := hn
        simp only [] at hfresh ⊢
        -- the view
        have hin : ∀ {j : Nat} {o' : AObj}, (S.heap x)[j]? = some o' → ∃ (id : Nat) (o : AObj), σ[j]? = some id ∧ H id = some o ∧ rnO (idx σ) o = some o' := by
          intro j o' ho'
          have hl := allM_length hheap
          have hj : j < os.length := by rw [← hl]; exact (List.getElem?_eq_some_iff.1 ho').1
          obtain ⟨b, g1, g2⟩ := allM_get hheap j os[j] (List.getElem?_eq_getElem hj)
          rw [ho'] at g2
          cases g2
          have hj2 : j < σ.length := by omega
          have := (hos j σ[j] (List.getElem?_eq_getElem hj2)).1
          exact ⟨σ[j], os[j], List.getElem?_eq_getElem hj2, by rw [this, List.getElem?_eq_getElem hj], g1⟩
        have hout : ∀ {j id : Nat}, σ[j]? = some id → ∃ o o', H id = some o ∧ rnO (idx σ) o = some o' ∧ (S.heap x)[j]? = some o' := by
          intro j id hj
          obtain ⟨g1, g2⟩ := hos j id hj
          obtain ⟨o, ho⟩ := Option.isSome_iff_exists.1 g2
          obtain ⟨b, g3, g4⟩ := allM_get hheap j o ho
          exact ⟨o, b, g1.trans ho, g3, g4⟩
        have hpull : ∀ {j id : Nat}, σ[j]? = some id → pull σ ρ j = ρ id := fun h1 => by simp [pull, List.getD, h1]
        have hown : ∀ {b : Nat}, Own (pull σ ρ) (lk (S.heap x)) b → ∃ (j id : Nat) (o : AObj), σ[j]? = some id ∧ H id = some o ∧ o.alive = true ∧ blk (ρ id) = some b := by
          rintro b ⟨j, o', ho', ha, hb⟩
          obtain ⟨id, o, h1, h2, h3⟩ := hin ho'
          rw [hpull h1] at hb
          exact ⟨j, id, o, h1, h2, by rw [← (rnO_alive h3).1]; exact ha, hb⟩
        let G' : Nat → Prop := fun b => Hot ρ H G b ∧ ¬ Own (pull σ ρ) (lk (S.heap x)) b
        have E : Emb (idx σ) ρ H (Hot ρ H G) (pull σ ρ) (lk (S.heap x)) (Hot (pull σ ρ) (lk (S.heap x)) G') := by
          refine ⟨fun i j hij => ?_, fun b hb => ?_⟩
          · have h1 := idx_spec hij
            refine ⟨hpull h1, fun o ho => ?_⟩
            obtain ⟨o1, o', h2, h3, h4⟩ := hout h1
            rw [ho] at h2
            cases h2
            exact ⟨o', h4, (rnO_alive h3).2⟩
          · rcases hb with hb | hb
            · obtain ⟨j, id, o, h1, h2, h3, h4⟩ := hown hb
              exact .inl ⟨id, o, h2, h3, h4⟩
            · exact hb.1
        have hsat : Sat (pull σ ρ) (lk (S.heap x)) G' w := by
          refine ⟨fun j o' ho' => ?_, fun i j oi oj b hi hj ai aj bi bj => ?_, fun b hb hG => hG.2 hb, fun b hb => hot_lt hs hb.1⟩
          · obtain ⟨id, o, h1, h2, h3⟩ := hin ho'
            rw [hpull h1]
            exact rnO_sat E h3 (hs.obj id o h2)
          · obtain ⟨id, o, h1, h2, h3⟩ := hin hi
            obtain ⟨id', o', h1', h2', h3'⟩ := hin hj
            rw [hpull h1] at bi
            rw [hpull h1'] at bj
            have := hs.inj id id' o o' b h2 h2' (by rw [← (rnO_alive h3).1]; exact ai) (by rw [← (rnO_alive h3').1]; exact aj) bi bj
            subst this
            obtain ⟨hi1, hi2⟩ := List.getElem?_eq_some_iff.1 h1
            obtain ⟨hj1, hj2⟩ := List.getElem?_eq_some_iff.1 h1'
            exact (List.getElem_inj hnd).1 (hi2.trans hj2.symm)
        have hz' : ZAt Z (pull σ ρ) (lk (S.heap x)) w := ⟨hz.1, fun b hb ho => by
          obtain ⟨j, id, o, h1, h2, h3, h4⟩ := hown ho
          exact hz.2 b hb ⟨id, o, h2, h3, h4⟩⟩
        have hd' := rnL_den E hargs hd
        refine (h x hpre (pull σ ρ) G' w vs hz' hsat hd').mono ?_
        rintro e w' ⟨v, he, ρ1, g1, g2, g3, g4⟩
        refine ⟨v, he, ?_⟩
        -- back again
        have hlenL := allM_length hL'
        generalize hn0 : (S.outH x).length = n0 at *
        have hnew : ∀ {j : Nat}, σ.length ≤ j → j < n0 → H (base + (j - σ.length)) = none := by
          intro j h1 h2
          exact hfresh (j - σ.length) (by simp; omega)
        have hnin : ∀ {id : Nat} {o : AObj}, H id = some o → ¬ (base ≤ id ∧ id < base + (L'.length - σ.length)) := by
          intro id o ho hc
          have := hnew (j := σ.length + (id - base)) (by omega) (by omega)
          rw [show base + (σ.length + (id - base) - σ.length) = id from by omega, ho] at this
          cases this
        let ρ2 : Nat → Value := fun id => if base ≤ id ∧ id < base + (L'.length - σ.length) then ρ1 (σ.length + (id - base)) else ρ id
        let H2 := resH H (σ.zip L') base (L'.drop σ.length)
        have hL1 : ∀ {j : Nat} {o2 : AObj}, L'[j]? = some o2 → ∃ o, (S.outH x)[j]? = some o ∧ rnO (back σ base n0) o = some o2 := by
          intro j o2 h1
          have hj : j < (S.outH x).length := by have := (List.getElem?_eq_some_iff.1 h1).1; omega
          obtain ⟨b, h2, h3⟩ := allM_get hL' j (S.outH x)[j] (List.getElem?_eq_getElem hj)
          rw [h1] at h3
          cases h3
          exact ⟨_, List.getElem?_eq_getElem hj, h2⟩
        have hρσ : ∀ {j id : Nat}, σ[j]? = some id → ρ2 id = ρ id ∧ ρ1 j = ρ id := by
          intro j id hj
          obtain ⟨o, o', h1, h2, h3⟩ := hout hj
          refine ⟨?_, ?_⟩
          · simp only [ρ2]; rw [if_neg (hnin h1)]
          · rw [g3.rho j o' h3, hpull hj]
        have hH2a : ∀ {j id : Nat}, σ[j]? = some id → H2 id = L'[j]? := by
          intro j id hj
          have hlt : j < σ.length := (List.getElem?_eq_some_iff.1 hj).1
          have := (find_zip (σ := σ) (L := L') (j := id) hnd hle).1 j hj
          simp only [H2, resH, this]
          rw [List.getElem?_eq_getElem (show j < L'.length by omega)]
        have hni : ∀ {id : Nat}, (base ≤ id ∧ id < base + (L'.length - σ.length)) → id ∉ σ := by
          intro id hc hm
          obtain ⟨i, hi⟩ := List.getElem?_of_mem hm
          obtain ⟨o, _, h3, _⟩ := hout hi
          exact hnin h3 hc
        have hH2b : ∀ {id : Nat}, (base ≤ id ∧ id < base + (L'.length - σ.length)) → H2 id = L'[σ.length + (id - base)]? := by
          intro id hc
          simp only [H2, resH, (find_zip (σ := σ) (L := L') hnd hle).2 (hni hc)]
          rw [if_pos (by simp only [List.length_drop]; exact hc)]
          simp only [List.getElem?_drop]
        have hH2c : ∀ {id : Nat}, id ∉ σ → ¬ (base ≤ id ∧ id < base + (L'.length - σ.length)) → H2 id = H id := by
          intro id h1 h2
          simp only [H2, resH, (find_zip (σ := σ) (L := L') hnd hle).2 h1]
          rw [if_neg (by simp only [List.length_drop]; exact h2)]
        have cls : ∀ {id : Nat} {o2 : AObj}, H2 id = some o2 → (∃ (j : Nat) (o : AObj), (S.outH x)[j]? = some o ∧ rnO (back σ base n0) o = some o2 ∧ ρ2 id = ρ1 j ∧ back σ base n0 j = some id) ∨ (id ∉ σ ∧ H id = some o2 ∧ ρ2 id = ρ id) := by
          intro id o2 ho
          by_cases hm : id ∈ σ
          · obtain ⟨j, hj⟩ := List.getElem?_of_mem hm
            rw [hH2a hj] at ho
            obtain ⟨o, h1, h2⟩ := hL1 ho
            obtain ⟨h3, h4⟩ := hρσ hj
            exact .inl ⟨j, o, h1, h2, by rw [h3, h4], by simp only [back, blt_t (List.getElem?_eq_some_iff.1 hj).1, cond_true]; exact hj⟩
          · by_cases hc : base ≤ id ∧ id < base + (L'.length - σ.length)
            · rw [hH2b hc] at ho
              obtain ⟨o, h1, h2⟩ := hL1 ho
              refine .inl ⟨_, o, h1, h2, by simp only [ρ2]; rw [if_pos hc], ?_⟩
              simp only [back, blt_f (show σ.length ≤ σ.length + (id - base) by omega), cond_false, blt_t (show σ.length + (id - base) < n0 by omega), cond_true]
              congr 1; omega
            · rw [hH2c hm hc] at ho
              exact .inr ⟨hm, ho, by simp only [ρ2]; rw [if_neg hc]⟩
        have view_not : ∀ {id b : Nat} {o : AObj}, id ∉ σ → H id = some o → o.alive = true → blk (ρ id) = some b → ¬ Own (pull σ ρ) (lk (S.heap x)) b := by
          intro id b o hm ho ha hb hv
          obtain ⟨j, id', o', h1, h2, h3, h4⟩ := hown hv
          have := hs.inj id id' o o' b ho h2 ha h3 hb h4
          subst this
          exact hm (List.mem_of_getElem? h1)
        have g_in : ∀ {b : Nat}, G b → G' b := fun {b} hb => ⟨.inr hb, fun hv => by
          obtain ⟨j, id', o', h1, h2, h3, h4⟩ := hown hv
          exact hs.apart b ⟨id', o', h2, h3, h4⟩ hb⟩
        have own2 : ∀ {b : Nat}, Own ρ2 H2 b → Own ρ1 (lk (S.outH x)) b ∨ (Own ρ H b ∧ G' b) := by
          rintro b ⟨id, o2, ho, ha, hb⟩
          rcases cls ho with ⟨j, o, h1, h2, h3, _⟩ | ⟨h1, h2, h3⟩
          · exact .inl ⟨j, o, h1, by rw [← (rnO_alive h2).1]; exact ha, by rw [← h3]; exact hb⟩
          · rw [h3] at hb
            exact .inr ⟨⟨id, o2, h2, ha, hb⟩, .inl ⟨id, o2, h2, ha, hb⟩, view_not h1 h2 ha hb⟩
        have E2 : Emb (back σ base n0) ρ1 (lk (S.outH x)) (Hot ρ1 (lk (S.outH x)) G') ρ2 H2 (Hot ρ2 H2 G) := by
          refine ⟨fun i j hij => ?_, fun b hb => ?_⟩
          · simp only [back, Bool.cond_eq_ite] at hij
            split at hij
            · rename_i hlt
              obtain ⟨h3, h4⟩ := hρσ hij
              refine ⟨by rw [h3, h4], fun o ho => ?_⟩
              obtain ⟨b, h5, h6⟩ := allM_get hL' i o ho
              exact ⟨b, by rw [hH2a hij]; exact h6, (rnO_alive h5).2⟩
            · rename_i hge
              split at hij
              · rename_i hlt
                have hlt : i < n0 := Nat.le_of_ble_eq_true hlt
                have hge : σ.length ≤ i := by
                  rcases Nat.lt_or_ge i σ.length with h5 | h5
                  · exact absurd (blt_t h5) hge
                  · exact h5
                simp only [Option.some.injEq] at hij
                have hc : base ≤ j ∧ j < base + (L'.length - σ.length) := by omega
                have hi : σ.length + (j - base) = i := by omega
                refine ⟨by simp only [ρ2]; rw [if_pos hc, hi], fun o ho => ?_⟩
                obtain ⟨b, h5, h6⟩ := allM_get hL' i o ho
                exact ⟨b, by rw [hH2b hc, hi]; exact h6, (rnO_alive h5).2⟩
              · cases hij
          · rcases hb with hb | hb
            · exact (own2 hb).imp (fun h => h) (fun h => h.2)
            · exact .inr (g_in hb)
        have st : Step ρ H (Hot ρ H G) w ρ2 H2 (Hot ρ2 H2 G) w' := by
          refine ⟨fun id o ho => by simp only [ρ2]; rw [if_neg (hnin ho)], fun id o ho => ?_, fun b hb => ?_, fun b hb hO => g3.heap b hb (fun hv => hO (E.hot b hv)), g3.size⟩
          · by_cases hm : id ∈ σ
            · obtain ⟨j, hj⟩ := List.getElem?_of_mem hm
              obtain ⟨o1, o', h1, h2, h3⟩ := hout hj
              rw [ho] at h1
              cases h1
              obtain ⟨o'', h4, h5⟩ := g3.keep j o' h3
              obtain ⟨o3, h6, h7⟩ := allM_get hL' j o'' h4
              refine ⟨o3, by rw [hH2a hj]; exact h7, fun c' e' hc => ?_⟩
              obtain ⟨c, e1, h8, h9, h10⟩ := h5 c' e' ((rnO_alive h6).2 c' e' hc)
              exact ⟨c, e1, (rnO_alive h2).2 c e1 h8, h9, h10⟩
            · exact ⟨o, by rw [hH2c hm (hnin ho)]; exact ho, fun c' e' hc => ⟨c', e', hc, rfl, rfl⟩⟩
          · rcases g3.hot b (E2.hot b hb) with h5 | h5
            · exact .inl (E.hot b h5)
            · exact .inr h5
        refine ⟨ρ2, ⟨fun id o2 ho => ?_, fun i j oi oj b hi hj ai aj bi bj => ?_, fun b hb hG => ?_, fun b hb => Nat.lt_of_lt_of_le (hs.low b hb) g3.size⟩, (rn_den E2 20).1 _ _ _ hr g2, st, ⟨g4.os, g4.tape, g4.output, fun b hb hO => g4.heap b hb (fun hv => ?_)⟩⟩
        · rcases cls ho with ⟨j, o, h1, h2, h3, _⟩ | ⟨h1, h2, h3⟩
          · rw [h3]
            exact rnO_sat E2 h2 (g1.obj j o h1)
          · rw [h3]
            refine (hs.obj id o2 h2).step st (fun b ha hb => ?_)
            exact g4.heap b (own_lt hs ⟨id, o2, h2, ha, hb⟩) (view_not h1 h2 ha hb)
        · have mixed : ∀ {b : Nat}, Own ρ1 (lk (S.outH x)) b → ∀ {id : Nat} {o : AObj}, id ∉ σ → H id = some o → o.alive = true → blk (ρ id) = some b → False := by
            intro b h1 id o h2 h3 h4 h5
            have hG : G' b := ⟨.inl ⟨id, o, h3, h4, h5⟩, view_not h2 h3 h4 h5⟩
            exact g1.apart b h1 hG
          rcases cls hi with ⟨j1, o1, p1, p2, p3, p4⟩ | ⟨p1, p2, p3⟩
          · rw [p3] at bi
            have a1 : o1.alive = true := by rw [← (rnO_alive p2).1]; exact ai
            rcases cls hj with ⟨j2, o2, q1, q2, q3, q4⟩ | ⟨q1, q2, q3⟩
            · rw [q3] at bj
              have := g1.inj j1 j2 o1 o2 b p1 q1 a1 (by rw [← (rnO_alive q2).1]; exact aj) bi bj
              subst this
              rw [p4] at q4
              exact Option.some.inj q4
            · rw [q3] at bj
              exact (mixed ⟨j1, o1, p1, a1, bi⟩ q1 q2 aj bj).elim
          · rw [p3] at bi
            rcases cls hj with ⟨j2, o2, q1, q2, q3, q4⟩ | ⟨q1, q2, q3⟩
            · rw [q3] at bj
              exact (mixed ⟨j2, o2, q1, by rw [← (rnO_alive q2).1]; exact aj, bj⟩ p1 p2 ai bi).elim
            · rw [q3] at bj
              exact hs.inj i j oi oj b p2 q2 ai aj bi bj
        · rcases own2 hb with h5 | h5
          · exact g1.apart b h5 (g_in hG)
          · exact hs.apart b h5.1 hG
        · obtain ⟨j, id, o, h1, h2, h3, h4⟩ := hown hv
          exact hO ⟨id, o, h2, h3, h4⟩
      · simp [RM.eval] at hq
    · simp [RM.eval] at hq
  · simp [RM.eval] at hq
end
end Go.Sx

/-! A tree gone through by rules. -/
namespace Go.Sx
open Go
instance {k : IntKind} {n : Nat} : DecidableEq (CK.arr k n).V := inferInstanceAs (DecidableEq (List Int))
instance {k : IntKind} : DecidableEq (CK.ints k).V := inferInstanceAs (DecidableEq (List Int))
instance {k : IntKind} : DecidableEq (CK.int k).V := inferInstanceAs (DecidableEq Int)
instance : DecidableEq CK.str.V := inferInstanceAs (DecidableEq ByteArray)
instance : DecidableEq CK.bool.V := inferInstanceAs (DecidableEq Bool)
/-- A record of a row. -/
abbrev el {cs : List CK} (l : List (CL cs)) (i : Int) : CL cs := l.getD i.toNat (CL.d cs)
abbrev Slf {α : Type} (a : α) : Prop := a = a
abbrev NoObj : Prop := (some [] : Option (List AObj)) = some []
section
variable {K : List AObj → AV → Prop} {C : Cfg → Prop} {t e : Tree} {p q : Prop}
theorem h_eq {α : Type} {a : α} (h : t.Holds K C) : (Tree.need (a = a) t).Holds K C := ⟨rfl, h⟩
theorem h_need (hp : p) (h : t.Holds K C) : (Tree.need p t).Holds K C := ⟨hp, h⟩
theorem h_dec {d : Decidable p} (h1 : p → t.Holds K C) (h2 : ¬ p → e.Holds K C) : (Tree.ite (@decide p d) t e).Holds K C := ⟨fun h => h1 (of_decide_eq_true h), fun h => h2 (of_decide_eq_false h)⟩
theorem h_beq {a b : Int} (h1 : a = b → t.Holds K C) (h2 : a ≠ b → e.Holds K C) : (Tree.ite (a == b) t e).Holds K C := ⟨fun h => h1 (by simpa using h), fun h => h2 (by simpa using h)⟩
theorem h_bne {a b : Int} (h1 : a ≠ b → t.Holds K C) (h2 : a = b → e.Holds K C) : (Tree.ite (a != b) t e).Holds K C := ⟨fun h => h1 (by simpa using h), fun h => h2 (by simpa using h)⟩
theorem h_not {b : Bool} (h : (Tree.ite b e t).Holds K C) : (Tree.ite (!b) t e).Holds K C := ⟨fun hb => h.2 (by simpa using hb), fun hb => h.1 (by simpa using hb)⟩
theorem h_tt (h : t.Holds K C) : (Tree.ite true t e).Holds K C := ⟨fun _ => h, fun x => (by cases x)⟩
theorem h_ff (h : e.Holds K C) : (Tree.ite false t e).Holds K C := ⟨fun x => (by cases x), fun _ => h⟩
theorem h_ite {b : Bool} (h1 : b = true → t.Holds K C) (h2 : b = false → e.Holds K C) : (Tree.ite b t e).Holds K C := ⟨h1, h2⟩
theorem h_yes {b : Bool} (hb : b = true) (h : t.Holds K C) : (Tree.ite b t e).Holds K C := ⟨fun _ => h, fun x => absurd (hb.symm.trans x) (by simp)⟩
theorem h_no {b : Bool} (hb : b = false) (h : e.Holds K C) : (Tree.ite b t e).Holds K C := ⟨fun x => absurd (hb.symm.trans x) (by simp), fun _ => h⟩
theorem h_both (h1 : p → t.Holds K C) (h2 : q → e.Holds K C) : (Tree.both p q t e).Holds K C := ⟨h1, h2⟩
theorem h_ret {H : List AObj} {v : AV} (h : K H v) : (Tree.ret H v).Holds K C := h
theorem h_at {c : Cfg} (h : C c) : (Tree.at c).Holds K C := h
theorem endS {X : Type} {S : Spec X} {x : X} {L : List AObj} {r : AV} {o : AV} {h : List AObj} (m : Nat) (e : Norm.run ⟨[], [0], m, []⟩ ⟨[r], L, [], {}⟩ = some ⟨[o], h, [], {}⟩) (hm : (S.heap x).length ≤ m) (ho : S.out x = o) (hh : S.outH x = h) : EndS S x L r :=
  ⟨⟨[], [0], m, []⟩, hm, by rw [ho, hh]; exact e⟩
/-- The same, with cells made alike. -/
theorem endC {X : Type} {S : Spec X} {x : X} {L : List AObj} {r : AV} {o : AV} {h : List AObj} (m : Nat) (cs : List (Nat × Nat × Bool × Con × TypeId)) (e : Norm.run ⟨[], [0], m, cs⟩ ⟨[r], L, [], {}⟩ = some ⟨[o], h, [], {}⟩) (hm : (S.heap x).length ≤ m) (ho : S.out x = o) (hh : S.outH x = h) : EndS S x L r :=
  ⟨⟨[], [0], m, cs⟩, hm, by rw [ho, hh]; exact e⟩
end
end Go.Sx

/-! What all texts share: ends, orders of texts, bytes. -/
namespace Lf
open Go Go.Sx

section
variable {L : List AObj}
theorem ends_b {b : Bool} : Ends [.b .bool] (b, ()) L (.s (.bool b)) := rfl
theorem ends_bl {b : Bool} : Ends [.b .bool] (b, ()) L (.s (.blit b)) := rfl
theorem ends_i {n : Int} : Ends [.b (.int .i64)] (n, ()) L (.s (.int .i64 n)) := rfl
theorem ends_il {n : Int} : Ends [.b (.int .i64)] (n, ()) L (.s (.ilit .i64 n)) := rfl
theorem ends_s {s : ByteArray} : Ends [.b .str] (s, ()) L (.s (.str s)) := rfl
theorem ends_si {s : ByteArray} {n : Int} : Ends [.b .str, .b (.int .i64)] (s, n, ()) L (.tup [.s (.str s), .s (.ilit .i64 n)]) := rfl
theorem ends_is {b : Bool} {b' : Bool} (h : b = b') : Ends [.b .bool] (b, ()) L (.s (.bool b')) := by subst h; rfl
theorem ends_isl {b : Bool} {b' : Bool} (h : b = b') : Ends [.b .bool] (b, ()) L (.s (.blit b')) := by subst h; rfl
theorem ends_ii {b b' : Int} (h : b = b') : Ends [.b (.int .i64)] (b, ()) L (.s (.int .i64 b')) := by subst h; rfl
theorem ends_iil {b b' : Int} (h : b = b') : Ends [.b (.int .i64)] (b, ()) L (.s (.ilit .i64 b')) := by subst h; rfl
end

theorem all_no {p : Nat → Bool} {n i : Nat} (hi : i < n) (h : p i = false) : (List.range n).all p = false := by
  rw [List.all_eq_false]
  exact ⟨i, List.mem_range.2 hi, by simp [h]⟩
theorem all_yes {p : Nat → Bool} {n : Nat} (h : ∀ i, i < n → p i = true) : (List.range n).all p = true := by
  rw [List.all_eq_true]
  exact fun i hi => h i (List.mem_range.1 hi)
theorem all_range {p : Nat → Bool} {n : Nat} : (List.range n).all p = true ↔ ∀ i, i < n → p i = true := by
  simp [List.all_eq_true]
theorem any_range {p : Nat → Bool} {n : Nat} : (List.range n).any p = true ↔ ∃ i, i < n ∧ p i = true := by
  simp [List.any_eq_true]
theorem any_yes {p : Nat → Bool} {n i : Nat} (hi : i < n) (h : p i = true) : (List.range n).any p = true := any_range.2 ⟨i, hi, h⟩
theorem any_no {p : Nat → Bool} {n : Nat} (h : ∀ i, i < n → p i = false) : (List.range n).any p = false := by
  rw [List.any_eq_false]
  exact fun i hi => by simp [h i (List.mem_range.1 hi)]

theorem getD_lt {α : Type} {l : List α} {i : Nat} {d : α} (h : i < l.length) : l.getD i d = l[i] := by simp [List.getD, h]

/-! ### the order of texts -/
theorem ba_ext {a b : ByteArray} (h : a.data.toList = b.data.toList) : a = b := by
  cases a; cases b
  simp only [ByteArray.mk.injEq]
  exact Array.toList_inj.1 h

theorem less_irrefl : ∀ (x : List UInt8), Op.bytesLess x x = false
  | [] => rfl
  | a :: x => by simp [Op.bytesLess, less_irrefl x]

theorem less_trans : ∀ {x y z : List UInt8}, Op.bytesLess x y = true → Op.bytesLess y z = true → Op.bytesLess x z = true
  | _, [], _, h, _ => by simp [Op.bytesLess] at h
  | _, _ :: _, [], _, h => by simp [Op.bytesLess] at h
  | [], b :: y, c :: z, _, _ => rfl
  | a :: x, b :: y, c :: z, h1, h2 => by
    simp only [Op.bytesLess, Bool.or_eq_true, decide_eq_true_eq, Bool.and_eq_true, beq_iff_eq] at *
    rcases h1 with h1 | ⟨rfl, h1⟩
    · rcases h2 with h2 | ⟨rfl, h2⟩
      · exact .inl (UInt8.lt_trans h1 h2)
      · exact .inl h1
    · rcases h2 with h2 | ⟨rfl, h2⟩
      · exact .inl h2
      · exact .inr ⟨rfl, less_trans h1 h2⟩

theorem less_total : ∀ (x y : List UInt8), Op.bytesLess x y = true ∨ x = y ∨ Op.bytesLess y x = true
  | [], [] => .inr (.inl rfl)
  | [], _ :: _ => .inl rfl
  | _ :: _, [] => .inr (.inr rfl)
  | a :: x, b :: y => by
    simp only [Op.bytesLess, Bool.or_eq_true, decide_eq_true_eq, Bool.and_eq_true, beq_iff_eq, List.cons.injEq]
    rcases UInt8.lt_or_lt_of_ne (a := a) (b := b) |> fun h => (Decidable.em (a = b)).imp id h with rfl | h | h
    · rcases less_total x y with h | rfl | h
      · exact .inl (.inr ⟨rfl, h⟩)
      · exact .inr (.inl ⟨rfl, rfl⟩)
      · exact .inr (.inr (.inr ⟨rfl, h⟩))
    · exact .inl (.inl h)
    · exact .inr (.inr (.inl h))

theorem compare_less : ∀ (x y : List UInt8), (Lib.compareBytes x y < 0 ↔ Op.bytesLess x y = true) ∧ (Lib.compareBytes x y = 0 ↔ x = y) ∧ (-1 ≤ Lib.compareBytes x y ∧ Lib.compareBytes x y ≤ 1)
  | [], [] => by simp [Lib.compareBytes, Op.bytesLess]
  | [], _ :: _ => by simp [Lib.compareBytes, Op.bytesLess]
  | _ :: _, [] => by simp [Lib.compareBytes, Op.bytesLess]
  | a :: x, b :: y => by
    obtain ⟨h1, h2, h3⟩ := compare_less x y
    simp only [Lib.compareBytes, Op.bytesLess, List.cons.injEq]
    by_cases h : a < b
    · rw [if_pos h]
      have : a ≠ b := fun e => by subst e; exact absurd h (UInt8.lt_irrefl a)
      simp [h, this]
    · rw [if_neg h]
      by_cases h' : b < a
      · rw [if_pos h']
        have : a ≠ b := fun e => by subst e; exact absurd h' (UInt8.lt_irrefl a)
        simp [h, this]
      · rw [if_neg h']
        have : a = b := UInt8.toNat_inj.1 (by rw [UInt8.lt_iff_toNat_lt] at h h'; omega)
        subst this
        simp [h, h1, h2, h3]

def cmpS (a b : ByteArray) : Int := Lib.compareBytes a.data.toList b.data.toList
theorem cmpS_lt (a b : ByteArray) : cmpS a b < 0 ↔ slt a b = true := (compare_less _ _).1
theorem cmpS_eq (a b : ByteArray) : cmpS a b = 0 ↔ a = b := by
  rw [show a = b ↔ a.data.toList = b.data.toList from ⟨fun h => by rw [h], ba_ext⟩]
  exact (compare_less _ _).2.1
theorem cmpS_range (a b : ByteArray) : -1 ≤ cmpS a b ∧ cmpS a b ≤ 1 := (compare_less _ _).2.2

theorem slt_irrefl (a : ByteArray) : slt a a = false := less_irrefl _
theorem slt_trans {a b c : ByteArray} (h1 : slt a b = true) (h2 : slt b c = true) : slt a c = true := less_trans h1 h2
theorem slt_total (a b : ByteArray) : slt a b = true ∨ a = b ∨ slt b a = true := by
  rcases less_total a.data.toList b.data.toList with h | h | h
  · exact .inl h
  · exact .inr (.inl (ba_ext h))
  · exact .inr (.inr h)
theorem slt_asymm {a b : ByteArray} (h : slt a b = true) : slt b a = false := by
  cases h2 : slt b a
  · rfl
  · have := slt_trans h h2
    rw [slt_irrefl] at this
    cases this
theorem slt_ne {a b : ByteArray} (h : slt a b = true) : a ≠ b := fun e => by subst e; rw [slt_irrefl] at h; cases h
theorem slt_of_not {a b : ByteArray} (h : slt a b = false) (h2 : a ≠ b) : slt b a = true := by
  rcases slt_total a b with h3 | h3 | h3
  · rw [h] at h3; cases h3
  · exact absurd h3 h2
  · exact h3
theorem slt_empty (a : ByteArray) : slt a ByteArray.empty = false := by
  unfold slt
  cases h : a.data.toList <;> rfl
theorem slt_of_slt_not {a b c : ByteArray} (h1 : slt a b = true) (h2 : slt c b = false) : slt a c = true := by
  rcases slt_total b c with h3 | rfl | h3
  · exact slt_trans h1 h3
  · exact h1
  · rw [h2] at h3; cases h3

theorem size_zero {a : ByteArray} (h : a.size = 0) : a = ByteArray.empty := by
  apply ba_ext
  have : a.data.toList.length = 0 := by rw [Array.length_toList]; exact h
  rw [List.eq_nil_of_length_eq_zero this]
  rfl
theorem empty_lit : ({ data := #[] } : ByteArray) = ByteArray.empty := rfl
end Lf

namespace Lf
open Go Go.Sx Go.Proofs
noncomputable abbrev P : Program := Try.prog
theorem mixed : P.follows .mixedOrders = true := by kernel_rfl
abbrev tInt : Ty := .b (.int .i64)
abbrev tBool : Ty := .b .bool
abbrev tStr : Ty := .b .str
abbrev tInts : Ty := .b (.row (.ints .i64) 3)
abbrev cE : List CK := [.str, .str]
abbrev cB : List CK := [.str, .int .i64]
abbrev En : Type := ByteArray × ByteArray × Unit
abbrev Br : Type := ByteArray × Int × Unit
abbrev eE : TypeId := 39
abbrev eB : TypeId := 45
abbrev eRE : TypeId := 999999
abbrev eRB : TypeId := 999999
abbrev tEs : Ty := .b (.row (.typ cE) eE)
abbrev tBs : Ty := .b (.row (.typ cB) eB)
abbrev tNode : Ty := .st [.bool, .row (.typ cE) eE, .row (.typ cB) eB]
abbrev tRN : Ty := .st [.bool, .row (.typ cE) eRE, .row (.typ cB) eRB]
abbrev tREs : Ty := .b (.row (.typ cE) eRE)
abbrev tRBs : Ty := .b (.row (.typ cB) eRB)
abbrev avN (l : Bool) (es : List En) (bs : List Br) : AV := .agg [.s (.bool l), .s (.ro (.typ cE es)), .s (.ro (.typ cB bs))]
abbrev obN (l : Bool) (es : List En) (bs : List Br) (t : TypeId) : AObj := .own [.s (.bool l), .s (.ro (.typ cE es)), .s (.ro (.typ cB bs))] t

theorem go {Z : Glob} {X : Ctx} {t : Tab} {f : FuncId} {fn : Func} {ns : List (Nat × Norm)} {c : Cfg} {tr : Tree} {K : List AObj → AV → Prop} (hz : ZCtx Z X) (hX : ∀ id, X.H id = none) (hT : t.Ok P Z) (hf : P.funcs[f]? = some fn)
    (e : run P t.sum fn ns c = tr) (h : tr.Holds K (Safe P f X K)) : Safe P f X K c := safe_of_run (Tab.sOk hT) hz mixed hf (fun _ _ id _ => hX id) e h

def dE : En := (ByteArray.empty, ByteArray.empty, ())
def dB : Br := (ByteArray.empty, 0, ())

/-! ### May -/
def okE (es : List En) (i : Nat) : Bool := !(decide ((es.getD i dE).1 = ByteArray.empty) || decide (((es.getD i dE).1.size : Int) > 24) || decide (((es.getD i dE).2.1.size : Int) > 100) || (decide (0 < i) && !slt (es.getD (i - 1) dE).1 (es.getD i dE).1))
def okB (bs : List Br) (i : Nat) : Bool := !(decide (((bs.getD i dB).1.size : Int) > 24) || decide ((bs.getD i dB).2.1 < 2) || decide ((bs.getD i dB).2.1 ≥ 1024) || (decide (0 < i) && !slt (bs.getD (i - 1) dB).1 (bs.getD i dB).1))
def okEs (es : List En) : Bool := (List.range es.length).all (okE es)
def okBs (bs : List Br) : Bool := (List.range bs.length).all (okB bs)
def mayN (l : Bool) (es : List En) (bs : List Br) : Bool := !((l && decide ((bs.length : Int) > 0)) || (!l && decide ((es.length : Int) > 0))) && okEs es && okBs bs

def tab0 : Tab := []
def nsMay : List (Nat × Norm) := [(4, ⟨[], [1, 27, 28, 29], 0, []⟩), (10, ⟨[], [1, 67, 68, 69], 0, []⟩)]
noncomputable def cMay1 (l : Bool) (es : List En) (bs : List Br) (i : Int) : Cfg := ⟨sl 105 [(1, .ptr 0 0), (27, .s (.ro (.typ cE es))), (28, .s (.int .i64 (es.length : Int))), (29, .s (.int .i64 i))], [obN l es bs 43], hd Try.f19 4, {}⟩
noncomputable def cMay2 (l : Bool) (es : List En) (bs : List Br) (i : Int) : Cfg := ⟨sl 105 [(1, .ptr 0 0), (67, .s (.ro (.typ cB bs))), (68, .s (.int .i64 (bs.length : Int))), (69, .s (.int .i64 i))], [obN l es bs 43], hd Try.f19 10, {}⟩
theorem treeMay (l : Bool) (es : List En) (bs : List Br) : run P tab0.sum Try.f19 nsMay (start Try.f19 [avN l es bs] []) =
  Tree.ite l (Tree.ite (decide ((↑bs.length : Int) > (0 : Int))) (Tree.ret [AObj.own [AV.s (SV.bool l), AV.s (SV.ro (Con.typ [CK.str, CK.str] es)), AV.s (SV.ro (Con.typ [CK.str, CK.int IntKind.i64] bs))] (43 : Nat)] (AV.s (SV.blit false))) (Tree.ite (!l) (Tree.ite (decide ((↑es.length : Int) > (0 : Int))) (Tree.ret [AObj.own [AV.s (SV.bool l), AV.s (SV.ro (Con.typ [CK.str, CK.str] es)), AV.s (SV.ro (Con.typ [CK.str, CK.int IntKind.i64] bs))] (43 : Nat)] (AV.s (SV.blit false))) (Tree.at (Cfg.mk (sl (105 : Nat) [((1 : Nat), AV.ptr (0 : Nat) (0 : Nat)), ((27 : Nat), AV.s (SV.ro (Con.typ [CK.str, CK.str] es))), ((28 : Nat), AV.s (SV.int IntKind.i64 (↑es.length : Int))), ((29 : Nat), AV.s (SV.int IntKind.i64 (0 : Int)))]) [AObj.own [AV.s (SV.bool l), AV.s (SV.ro (Con.typ [CK.str, CK.str] es)), AV.s (SV.ro (Con.typ [CK.str, CK.int IntKind.i64] bs))] (43 : Nat)] (hd Try.f19 (4 : Nat)) (Stk.mk none false (0 : Nat) [] (0 : Nat))))) (Tree.at (Cfg.mk (sl (105 : Nat) [((1 : Nat), AV.ptr (0 : Nat) (0 : Nat)), ((27 : Nat), AV.s (SV.ro (Con.typ [CK.str, CK.str] es))), ((28 : Nat), AV.s (SV.int IntKind.i64 (↑es.length : Int))), ((29 : Nat), AV.s (SV.int IntKind.i64 (0 : Int)))]) [AObj.own [AV.s (SV.bool l), AV.s (SV.ro (Con.typ [CK.str, CK.str] es)), AV.s (SV.ro (Con.typ [CK.str, CK.int IntKind.i64] bs))] (43 : Nat)] (hd Try.f19 (4 : Nat)) (Stk.mk none false (0 : Nat) [] (0 : Nat)))))) (Tree.ite (!l) (Tree.ite (decide ((↑es.length : Int) > (0 : Int))) (Tree.ret [AObj.own [AV.s (SV.bool l), AV.s (SV.ro (Con.typ [CK.str, CK.str] es)), AV.s (SV.ro (Con.typ [CK.str, CK.int IntKind.i64] bs))] (43 : Nat)] (AV.s (SV.blit false))) (Tree.at (Cfg.mk (sl (105 : Nat) [((1 : Nat), AV.ptr (0 : Nat) (0 : Nat)), ((27 : Nat), AV.s (SV.ro (Con.typ [CK.str, CK.str] es))), ((28 : Nat), AV.s (SV.int IntKind.i64 (↑es.length : Int))), ((29 : Nat), AV.s (SV.int IntKind.i64 (0 : Int)))]) [AObj.own [AV.s (SV.bool l), AV.s (SV.ro (Con.typ [CK.str, CK.str] es)), AV.s (SV.ro (Con.typ [CK.str, CK.int IntKind.i64] bs))] (43 : Nat)] (hd Try.f19 (4 : Nat)) (Stk.mk none false (0 : Nat) [] (0 : Nat))))) (Tree.at (Cfg.mk (sl (105 : Nat) [((1 : Nat), AV.ptr (0 : Nat) (0 : Nat)), ((27 : Nat), AV.s (SV.ro (Con.typ [CK.str, CK.str] es))), ((28 : Nat), AV.s (SV.int IntKind.i64 (↑es.length : Int))), ((29 : Nat), AV.s (SV.int IntKind.i64 (0 : Int)))]) [AObj.own [AV.s (SV.bool l), AV.s (SV.ro (Con.typ [CK.str, CK.str] es)), AV.s (SV.ro (Con.typ [CK.str, CK.int IntKind.i64] bs))] (43 : Nat)] (hd Try.f19 (4 : Nat)) (Stk.mk none false (0 : Nat) [] (0 : Nat))))) := by kernel_rfl
theorem loopMay1 (l : Bool) (es : List En) (bs : List Br) (i : Int) : run P tab0.sum Try.f19 nsMay (cMay1 l es bs i) =
  Tree.ite (decide (i < (↑es.length : Int))) (Tree.need ((0 : Int) ≤ i) (Tree.need (i < (↑es.length : Int)) (Tree.ite (decide ((es.getD i.toNat (CL.d [CK.str, CK.str])).fst = ByteArray.empty)) (Tree.ret [AObj.own [AV.s (SV.bool l), AV.s (SV.ro (Con.typ [CK.str, CK.str] es)), AV.s (SV.ro (Con.typ [CK.str, CK.int IntKind.i64] bs))] (43 : Nat), AObj.own [AV.s (SV.str (es.getD i.toNat (CL.d [CK.str, CK.str])).fst), AV.s (SV.str (es.getD i.toNat (CL.d [CK.str, CK.str])).snd.fst)] (39 : Nat)] (AV.s (SV.blit false))) (Tree.ite (decide ((↑(ByteArray.size (es.getD i.toNat (CL.d [CK.str, CK.str])).fst) : Int) > (24 : Int))) (Tree.ret [AObj.own [AV.s (SV.bool l), AV.s (SV.ro (Con.typ [CK.str, CK.str] es)), AV.s (SV.ro (Con.typ [CK.str, CK.int IntKind.i64] bs))] (43 : Nat), AObj.own [AV.s (SV.str (es.getD i.toNat (CL.d [CK.str, CK.str])).fst), AV.s (SV.str (es.getD i.toNat (CL.d [CK.str, CK.str])).snd.fst)] (39 : Nat)] (AV.s (SV.blit false))) (Tree.ite (decide ((↑(ByteArray.size (es.getD i.toNat (CL.d [CK.str, CK.str])).snd.fst) : Int) > (100 : Int))) (Tree.ret [AObj.own [AV.s (SV.bool l), AV.s (SV.ro (Con.typ [CK.str, CK.str] es)), AV.s (SV.ro (Con.typ [CK.str, CK.int IntKind.i64] bs))] (43 : Nat), AObj.own [AV.s (SV.str (es.getD i.toNat (CL.d [CK.str, CK.str])).fst), AV.s (SV.str (es.getD i.toNat (CL.d [CK.str, CK.str])).snd.fst)] (39 : Nat)] (AV.s (SV.blit false))) (Tree.ite (decide (i > (0 : Int))) (Tree.need (inI64 (i - (1 : Int))) (Tree.need ((0 : Int) ≤ i - (1 : Int)) (Tree.need (i - (1 : Int) < (↑es.length : Int)) (Tree.ite (!slt (es.getD (i - (1 : Int)).toNat (CL.d [CK.str, CK.str])).fst (es.getD i.toNat (CL.d [CK.str, CK.str])).fst) (Tree.ret [AObj.own [AV.s (SV.bool l), AV.s (SV.ro (Con.typ [CK.str, CK.str] es)), AV.s (SV.ro (Con.typ [CK.str, CK.int IntKind.i64] bs))] (43 : Nat), AObj.own [AV.s (SV.str (es.getD i.toNat (CL.d [CK.str, CK.str])).fst), AV.s (SV.str (es.getD i.toNat (CL.d [CK.str, CK.str])).snd.fst)] (39 : Nat)] (AV.s (SV.blit false))) (Tree.need (inI64 (i + (1 : Int))) (Tree.at (Cfg.mk (sl (105 : Nat) [((1 : Nat), AV.ptr (0 : Nat) (0 : Nat)), ((27 : Nat), AV.s (SV.ro (Con.typ [CK.str, CK.str] es))), ((28 : Nat), AV.s (SV.int IntKind.i64 (↑es.length : Int))), ((29 : Nat), AV.s (SV.int IntKind.i64 (i + (1 : Int))))]) [AObj.own [AV.s (SV.bool l), AV.s (SV.ro (Con.typ [CK.str, CK.str] es)), AV.s (SV.ro (Con.typ [CK.str, CK.int IntKind.i64] bs))] (43 : Nat)] (hd Try.f19 (4 : Nat)) (Stk.mk none false (0 : Nat) [] (0 : Nat))))))))) (Tree.need (inI64 (i + (1 : Int))) (Tree.at (Cfg.mk (sl (105 : Nat) [((1 : Nat), AV.ptr (0 : Nat) (0 : Nat)), ((27 : Nat), AV.s (SV.ro (Con.typ [CK.str, CK.str] es))), ((28 : Nat), AV.s (SV.int IntKind.i64 (↑es.length : Int))), ((29 : Nat), AV.s (SV.int IntKind.i64 (i + (1 : Int))))]) [AObj.own [AV.s (SV.bool l), AV.s (SV.ro (Con.typ [CK.str, CK.str] es)), AV.s (SV.ro (Con.typ [CK.str, CK.int IntKind.i64] bs))] (43 : Nat)] (hd Try.f19 (4 : Nat)) (Stk.mk none false (0 : Nat) [] (0 : Nat))))))))))) (Tree.at (Cfg.mk (sl (105 : Nat) [((1 : Nat), AV.ptr (0 : Nat) (0 : Nat)), ((67 : Nat), AV.s (SV.ro (Con.typ [CK.str, CK.int IntKind.i64] bs))), ((68 : Nat), AV.s (SV.int IntKind.i64 (↑bs.length : Int))), ((69 : Nat), AV.s (SV.int IntKind.i64 (0 : Int)))]) [AObj.own [AV.s (SV.bool l), AV.s (SV.ro (Con.typ [CK.str, CK.str] es)), AV.s (SV.ro (Con.typ [CK.str, CK.int IntKind.i64] bs))] (43 : Nat)] (hd Try.f19 (10 : Nat)) (Stk.mk none false (0 : Nat) [] (0 : Nat)))) := by kernel_rfl
theorem loopMay2 (l : Bool) (es : List En) (bs : List Br) (i : Int) : run P tab0.sum Try.f19 nsMay (cMay2 l es bs i) =
  Tree.ite (decide (i < (↑bs.length : Int))) (Tree.need ((0 : Int) ≤ i) (Tree.need (i < (↑bs.length : Int)) (Tree.ite (decide ((↑(ByteArray.size (bs.getD i.toNat (CL.d [CK.str, CK.int IntKind.i64])).fst) : Int) > (24 : Int))) (Tree.ret [AObj.own [AV.s (SV.bool l), AV.s (SV.ro (Con.typ [CK.str, CK.str] es)), AV.s (SV.ro (Con.typ [CK.str, CK.int IntKind.i64] bs))] (43 : Nat), AObj.own [AV.s (SV.str (bs.getD i.toNat (CL.d [CK.str, CK.int IntKind.i64])).fst), AV.s (SV.int IntKind.i64 (bs.getD i.toNat (CL.d [CK.str, CK.int IntKind.i64])).snd.fst)] (45 : Nat)] (AV.s (SV.blit false))) (Tree.ite (decide ((bs.getD i.toNat (CL.d [CK.str, CK.int IntKind.i64])).snd.fst < (2 : Int))) (Tree.ret [AObj.own [AV.s (SV.bool l), AV.s (SV.ro (Con.typ [CK.str, CK.str] es)), AV.s (SV.ro (Con.typ [CK.str, CK.int IntKind.i64] bs))] (43 : Nat), AObj.own [AV.s (SV.str (bs.getD i.toNat (CL.d [CK.str, CK.int IntKind.i64])).fst), AV.s (SV.int IntKind.i64 (bs.getD i.toNat (CL.d [CK.str, CK.int IntKind.i64])).snd.fst)] (45 : Nat)] (AV.s (SV.blit false))) (Tree.ite (decide ((bs.getD i.toNat (CL.d [CK.str, CK.int IntKind.i64])).snd.fst ≥ (1024 : Int))) (Tree.ret [AObj.own [AV.s (SV.bool l), AV.s (SV.ro (Con.typ [CK.str, CK.str] es)), AV.s (SV.ro (Con.typ [CK.str, CK.int IntKind.i64] bs))] (43 : Nat), AObj.own [AV.s (SV.str (bs.getD i.toNat (CL.d [CK.str, CK.int IntKind.i64])).fst), AV.s (SV.int IntKind.i64 (bs.getD i.toNat (CL.d [CK.str, CK.int IntKind.i64])).snd.fst)] (45 : Nat)] (AV.s (SV.blit false))) (Tree.ite (decide (i > (0 : Int))) (Tree.need (inI64 (i - (1 : Int))) (Tree.need ((0 : Int) ≤ i - (1 : Int)) (Tree.need (i - (1 : Int) < (↑bs.length : Int)) (Tree.ite (!slt (bs.getD (i - (1 : Int)).toNat (CL.d [CK.str, CK.int IntKind.i64])).fst (bs.getD i.toNat (CL.d [CK.str, CK.int IntKind.i64])).fst) (Tree.ret [AObj.own [AV.s (SV.bool l), AV.s (SV.ro (Con.typ [CK.str, CK.str] es)), AV.s (SV.ro (Con.typ [CK.str, CK.int IntKind.i64] bs))] (43 : Nat), AObj.own [AV.s (SV.str (bs.getD i.toNat (CL.d [CK.str, CK.int IntKind.i64])).fst), AV.s (SV.int IntKind.i64 (bs.getD i.toNat (CL.d [CK.str, CK.int IntKind.i64])).snd.fst)] (45 : Nat)] (AV.s (SV.blit false))) (Tree.need (inI64 (i + (1 : Int))) (Tree.at (Cfg.mk (sl (105 : Nat) [((1 : Nat), AV.ptr (0 : Nat) (0 : Nat)), ((67 : Nat), AV.s (SV.ro (Con.typ [CK.str, CK.int IntKind.i64] bs))), ((68 : Nat), AV.s (SV.int IntKind.i64 (↑bs.length : Int))), ((69 : Nat), AV.s (SV.int IntKind.i64 (i + (1 : Int))))]) [AObj.own [AV.s (SV.bool l), AV.s (SV.ro (Con.typ [CK.str, CK.str] es)), AV.s (SV.ro (Con.typ [CK.str, CK.int IntKind.i64] bs))] (43 : Nat)] (hd Try.f19 (10 : Nat)) (Stk.mk none false (0 : Nat) [] (0 : Nat))))))))) (Tree.need (inI64 (i + (1 : Int))) (Tree.at (Cfg.mk (sl (105 : Nat) [((1 : Nat), AV.ptr (0 : Nat) (0 : Nat)), ((67 : Nat), AV.s (SV.ro (Con.typ [CK.str, CK.int IntKind.i64] bs))), ((68 : Nat), AV.s (SV.int IntKind.i64 (↑bs.length : Int))), ((69 : Nat), AV.s (SV.int IntKind.i64 (i + (1 : Int))))]) [AObj.own [AV.s (SV.bool l), AV.s (SV.ro (Con.typ [CK.str, CK.str] es)), AV.s (SV.ro (Con.typ [CK.str, CK.int IntKind.i64] bs))] (43 : Nat)] (hd Try.f19 (10 : Nat)) (Stk.mk none false (0 : Nat) [] (0 : Nat))))))))))) (Tree.ret [AObj.own [AV.s (SV.bool l), AV.s (SV.ro (Con.typ [CK.str, CK.str] es)), AV.s (SV.ro (Con.typ [CK.str, CK.int IntKind.i64] bs))] (43 : Nat)] (AV.s (SV.blit true))) := by kernel_rfl
theorem may_ok {Z : Glob} : FnOk P Z 19 [tNode] [tBool] (fun _ => []) (fun ((l, es, bs, ()), ()) => (mayN l es bs, ())) := by
  refine fnOk_of_safe Try.func19 (by kernel_rfl) (by kernel_rfl) ?_
  rintro ⟨⟨(l : Bool), (es : List En), (bs : List Br), ⟨⟩⟩, ⟨⟩⟩ ⟨⟨_, hle, hlb, _⟩, _⟩ _ X hX hz
  have hle : es.length ≤ 9223372036854775807 := hle
  have hlb : bs.length ≤ 9223372036854775807 := hlb
  have second : okEs es = true → mayN l es bs = okBs bs → ∀ (n k : Nat), k + n = bs.length → (∀ j, j < k → okB bs j = true) → Safe P 19 X (Ends [tBool] (mayN l es bs, ())) (cMay2 l es bs (k : Int)) := by
    intro he hm n
    induction n with
    | zero =>
      intro k hk hp
      refine go hz hX Tab.Ok.nil Try.func19 (loopMay2 l es bs k) ⟨fun h => absurd (of_decide_eq_true h) (by omega), fun h => ends_isl ?_⟩
      rw [hm]
      exact all_yes (fun j hj => hp j (by omega))
    | succ n ih =>
      intro k hk hp
      have no : okB bs k = false → mayN l es bs = false := fun h => by rw [hm]; exact all_no (by omega) h
      refine go hz hX Tab.Ok.nil Try.func19 (loopMay2 l es bs k) ⟨fun h => ⟨by omega, by omega, ?_⟩, fun h => absurd (of_decide_eq_false h) (by omega)⟩
      simp only [Int.toNat_natCast]
      refine ⟨fun h1 => ends_isl (no ?_), fun h1 => ⟨fun h2 => ends_isl (no ?_), fun h2 => ⟨fun h3 => ends_isl (no ?_), fun h3 => ⟨fun h4 => ?_, fun h4 => ⟨⟨by omega, by omega⟩, ?_⟩⟩⟩⟩⟩
      · show (!(decide (((bs.getD k dB).1.size : Int) > 24) || _ || _ || _)) = false
        rw [show decide (((bs.getD k dB).1.size : Int) > 24) = true from h1]; rfl
      · show (!(_ || decide ((bs.getD k dB).2.1 < 2) || _ || _)) = false
        rw [show decide ((bs.getD k dB).2.1 < 2) = true from h2]; simp
      · show (!(_ || _ || decide ((bs.getD k dB).2.1 ≥ 1024) || _)) = false
        rw [show decide ((bs.getD k dB).2.1 ≥ 1024) = true from h3]; simp
      · have h0 : (k : Int) > 0 := of_decide_eq_true h4
        rw [show ((k : Int) - 1).toNat = k - 1 from by omega]
        refine ⟨⟨by omega, by omega⟩, by omega, by omega, fun h5 => ends_isl (no ?_), fun h5 => ⟨⟨by omega, by omega⟩, ih (k + 1) (by omega) (fun j hj => ?_)⟩⟩
        · show (!(_ || _ || _ || (decide (0 < k) && !slt (bs.getD (k - 1) dB).1 (bs.getD k dB).1))) = false
          rw [show (!slt (bs.getD (k - 1) dB).1 (bs.getD k dB).1) = true from h5, show decide (0 < k) = true from decide_eq_true (by omega)]; simp
        · by_cases hj2 : j = k
          · subst hj2
            show (!(decide (((bs.getD j dB).1.size : Int) > 24) || decide ((bs.getD j dB).2.1 < 2) || decide ((bs.getD j dB).2.1 ≥ 1024) || (decide (0 < j) && !slt (bs.getD (j - 1) dB).1 (bs.getD j dB).1))) = true
            rw [show (!slt (bs.getD (j - 1) dB).1 (bs.getD j dB).1) = false from h5, show decide ((bs.getD j dB).2.1 ≥ 1024) = false from h3, show decide ((bs.getD j dB).2.1 < 2) = false from h2, show decide (((bs.getD j dB).1.size : Int) > 24) = false from h1]
            simp
          · exact hp j (by omega)
      · have h0 : ¬ (k : Int) > 0 := of_decide_eq_false h4
        refine ih (k + 1) (by omega) (fun j hj => ?_)
        by_cases hj2 : j = k
        · subst hj2
          show (!(decide (((bs.getD j dB).1.size : Int) > 24) || decide ((bs.getD j dB).2.1 < 2) || decide ((bs.getD j dB).2.1 ≥ 1024) || (decide (0 < j) && !slt (bs.getD (j - 1) dB).1 (bs.getD j dB).1))) = true
          rw [show decide ((bs.getD j dB).2.1 ≥ 1024) = false from h3, show decide ((bs.getD j dB).2.1 < 2) = false from h2, show decide (((bs.getD j dB).1.size : Int) > 24) = false from h1, decide_eq_false (by omega)]
          rfl
        · exact hp j (by omega)
  have first : mayN l es bs = (okEs es && okBs bs) → ∀ (n k : Nat), k + n = es.length → (∀ j, j < k → okE es j = true) → Safe P 19 X (Ends [tBool] (mayN l es bs, ())) (cMay1 l es bs (k : Int)) := by
    intro hm n
    induction n with
    | zero =>
      intro k hk hp
      have he : okEs es = true := all_yes (fun j hj => hp j (by omega))
      exact go hz hX Tab.Ok.nil Try.func19 (loopMay1 l es bs k) ⟨fun h => absurd (of_decide_eq_true h) (by omega), fun h => second he (by rw [hm, he]; rfl) bs.length 0 (by omega) (fun j hj => by omega)⟩
    | succ n ih =>
      intro k hk hp
      have no : okE es k = false → mayN l es bs = false := fun h => by rw [hm, show okEs es = false from all_no (by omega) h]; rfl
      refine go hz hX Tab.Ok.nil Try.func19 (loopMay1 l es bs k) ⟨fun h => ⟨by omega, by omega, ?_⟩, fun h => absurd (of_decide_eq_false h) (by omega)⟩
      simp only [Int.toNat_natCast]
      refine ⟨fun h1 => ends_isl (no ?_), fun h1 => ⟨fun h2 => ends_isl (no ?_), fun h2 => ⟨fun h3 => ends_isl (no ?_), fun h3 => ⟨fun h4 => ?_, fun h4 => ⟨⟨by omega, by omega⟩, ?_⟩⟩⟩⟩⟩
      · show (!(decide ((es.getD k dE).1 = ByteArray.empty) || _ || _ || _)) = false
        rw [show decide ((es.getD k dE).1 = ByteArray.empty) = true from h1]; rfl
      · show (!(_ || decide (((es.getD k dE).1.size : Int) > 24) || _ || _)) = false
        rw [show decide (((es.getD k dE).1.size : Int) > 24) = true from h2]; simp
      · show (!(_ || _ || decide (((es.getD k dE).2.1.size : Int) > 100) || _)) = false
        rw [show decide (((es.getD k dE).2.1.size : Int) > 100) = true from h3]; simp
      · have h0 : (k : Int) > 0 := of_decide_eq_true h4
        rw [show ((k : Int) - 1).toNat = k - 1 from by omega]
        refine ⟨⟨by omega, by omega⟩, by omega, by omega, fun h5 => ends_isl (no ?_), fun h5 => ⟨⟨by omega, by omega⟩, ih (k + 1) (by omega) (fun j hj => ?_)⟩⟩
        · show (!(_ || _ || _ || (decide (0 < k) && !slt (es.getD (k - 1) dE).1 (es.getD k dE).1))) = false
          rw [show (!slt (es.getD (k - 1) dE).1 (es.getD k dE).1) = true from h5, show decide (0 < k) = true from decide_eq_true (by omega)]; simp
        · by_cases hj2 : j = k
          · subst hj2
            show (!(decide ((es.getD j dE).1 = ByteArray.empty) || decide (((es.getD j dE).1.size : Int) > 24) || decide (((es.getD j dE).2.1.size : Int) > 100) || (decide (0 < j) && !slt (es.getD (j - 1) dE).1 (es.getD j dE).1))) = true
            rw [show (!slt (es.getD (j - 1) dE).1 (es.getD j dE).1) = false from h5, show decide (((es.getD j dE).2.1.size : Int) > 100) = false from h3, show decide (((es.getD j dE).1.size : Int) > 24) = false from h2, show decide ((es.getD j dE).1 = ByteArray.empty) = false from h1]
            simp
          · exact hp j (by omega)
      · have h0 : ¬ (k : Int) > 0 := of_decide_eq_false h4
        refine ih (k + 1) (by omega) (fun j hj => ?_)
        by_cases hj2 : j = k
        · subst hj2
          show (!(decide ((es.getD j dE).1 = ByteArray.empty) || decide (((es.getD j dE).1.size : Int) > 24) || decide (((es.getD j dE).2.1.size : Int) > 100) || (decide (0 < j) && !slt (es.getD (j - 1) dE).1 (es.getD j dE).1))) = true
          rw [show decide (((es.getD j dE).2.1.size : Int) > 100) = false from h3, show decide (((es.getD j dE).1.size : Int) > 24) = false from h2, show decide ((es.getD j dE).1 = ByteArray.empty) = false from h1, decide_eq_false (by omega)]
          rfl
        · exact hp j (by omega)
  refine go hz hX Tab.Ok.nil Try.func19 (treeMay l es bs) ⟨fun hl => ⟨fun h1 => ends_isl ?_, fun h1 => ⟨fun h2 => ?_, fun h2 => first ?_ es.length 0 (by omega) (fun j hj => by omega)⟩⟩, fun hl => ⟨fun h1 => ⟨fun h2 => ends_isl ?_, fun h2 => first ?_ es.length 0 (by omega) (fun j hj => by omega)⟩, fun h1 => ?_⟩⟩
  · show (!((l && decide ((bs.length : Int) > 0)) || _) && _ && _) = false
    rw [hl, h1]; rfl
  · subst hl; cases h2
  · show (!((l && decide ((bs.length : Int) > 0)) || (!l && _)) && _ && _) = _
    rw [hl, h1]; rfl
  · show (!((l && _) || (!l && decide ((es.length : Int) > 0))) && _ && _) = false
    rw [hl, h2]; rfl
  · show (!((l && _) || (!l && decide ((es.length : Int) > 0))) && _ && _) = _
    rw [hl, h2]; rfl
  · subst hl; cases h1
end Lf

namespace Lf
open Go Go.Sx Go.Proofs
theorem take_snoc {α : Type} {l : List α} {k : Nat} {d : α} (h : k < l.length) : l.take k ++ [l.getD k d] = l.take (k + 1) := by
  rw [getD_lt h, List.take_succ_eq_append_getElem h]
theorem en_eta (x : En) : (x.1, x.2.1, ()) = x := rfl
theorem br_eta (x : Br) : (x.1, x.2.1, ()) = x := rfl

/-! ### large -/
def bigE (es : List En) (i : Nat) : Bool := decide (((es.getD i dE).1.size : Int) > 300) || decide (((es.getD i dE).2.1.size : Int) > 300)
def bigB (bs : List Br) (i : Nat) : Bool := decide (((bs.getD i dB).1.size : Int) > 300)
def largeN (es : List En) (bs : List Br) : Bool := (decide ((es.length : Int) > 200) || decide ((bs.length : Int) > 200)) || (List.range es.length).any (bigE es) || (List.range bs.length).any (bigB bs)

/-! ### strings.Compare -/
abbrev sCmp0 := sumOf [tStr, tStr] [tInt] (fun _ => []) (fun (a, b, ()) => (cmpS a b, ()))
def tabCmp : Tab := [(72, sCmp0)]
theorem treeCmp (a b : ByteArray) : run P tabCmp.sum Try.f68 [] (start Try.f68 [.s (.str a), .s (.str b)] []) =
  Tree.ret [] (AV.s (SV.int IntKind.i64 (cmpS a b))) := by kernel_rfl
def tabCmp1 : Tab := [(68, sCmp0)]
theorem treePlace1 (x : Br) (b : ByteArray) : run P tabCmp1.sum Try.f67 [] (start Try.f67 [.agg [.s (.str x.1), .s (.int .i64 x.2.1)], .s (.str b)] []) =
  Tree.ret [AObj.own [AV.s (SV.str x.fst), AV.s (SV.int IntKind.i64 x.snd.fst)] (45 : Nat)] (AV.s (SV.int IntKind.i64 (cmpS x.fst b))) := by kernel_rfl
set_option maxHeartbeats 1000000 in
set_option maxRecDepth 100000 in
theorem cmpstr_calls (a b : ByteArray) (w : World) : Calls P 72 #[.string a, .string b] w fun e w' => e = .returned (.int .i64 (cmpS a b)) ∧ w' = w := by
  have mixed := mixed
  have t3 := Try.underlying3
  have t9 := Try.underlying9
  have u3 := run_underlying t3; have u9 := run_underlying t9
  go_enter Try.func72, Try.ntmps72
  go_wp2
  rw [run_callFunc_extern Try.func76 (by kernel_rfl) (by kernel_rfl) (by kernel_rfl) (e := Extern.BytealgCompare.compare) (by kernel_rfl), Lib.run_compareString]
  simp only [Result.andThen]
  rw [Oper.upon_value]
  go_wp2
  go_ret
  exact ⟨rfl, rfl⟩
theorem cmp0_ok {Z : Glob} : FnOk P Z 72 [tStr, tStr] [tInt] (fun _ => []) (fun (a, b, ()) => (cmpS a b, ())) := by
  rintro ⟨(a : ByteArray), (b : ByteArray), ⟨⟩⟩ _ _ G w vs hG hz hd
  obtain ⟨v, rest, rfl, h1, h2⟩ := DenL_cons.1 hd
  obtain ⟨u, rest, rfl, h3, h4⟩ := DenL_cons.1 h2
  obtain rfl := DenL_nil.1 h4
  obtain rfl := str_den h1
  obtain rfl := str_den h3
  refine (cmpstr_calls a b w).mono ?_
  rintro e w' ⟨rfl, rfl⟩
  refine ⟨_, rfl, Good.val ⟨fun id o ho => by simp at ho, fun i j oi oj b hi => by simp at hi, fun b hb => ?_, hG⟩ ?_⟩
  · obtain ⟨id, o, ho, _⟩ := hb; cases ho
  · exact DenV_s (.int .i64 _)
theorem cmp_ok {Z : Glob} : FnOk P Z 68 [tStr, tStr] [tInt] (fun _ => []) (fun (a, b, ()) => (cmpS a b, ())) := by
  refine fnOk_of_safe Try.func68 (by kernel_rfl) (by kernel_rfl) ?_
  rintro ⟨(a : ByteArray), (b : ByteArray), ⟨⟩⟩ _ _ X hX hz
  exact go hz hX (Tab.Ok.cons cmp0_ok.sum Tab.Ok.nil) Try.func68 (treeCmp a b) ends_i
abbrev tBr : Ty := .st [.str, .int .i64]
abbrev tEn : Ty := .st [.str, .str]
theorem place1_ok {Z : Glob} : FnOk P Z 67 [tBr, tStr] [tInt] (fun _ => []) (fun ((a, _, ()), b, ()) => (cmpS a b, ())) := by
  refine fnOk_of_safe Try.func67 (by kernel_rfl) (by kernel_rfl) ?_
  rintro ⟨⟨(a : ByteArray), (n : Int), ⟨⟩⟩, (b : ByteArray), ⟨⟩⟩ _ _ X hX hz
  exact go hz hX (Tab.Ok.cons cmp_ok.sum Tab.Ok.nil) Try.func67 (treePlace1 (a, n, ()) b) ends_i
end Lf

namespace Lf
open Go Go.Sx Go.Proofs
abbrev sPl1 := sumOf [tBr, tStr] [tInt] (fun _ => []) (fun ((a, _, ()), b, ()) => (cmpS a b, ()))
abbrev sSe1 := sumOf [tEn, tStr] [tInt] (fun _ => []) (fun ((a, _, ()), b, ()) => (cmpS a b, ()))
def tabBS : Tab := [(67, sPl1)
  ]
def nsBS : List (Nat × Norm) := [(3, ⟨[], [0, 1, 2, 8, 9, 10], 0, []⟩)]
noncomputable def cBSB (bs : List Br) (key : ByteArray) (i j : Int) : Cfg := ⟨sl 49 [(0, .s (.ro (.typ cB bs))), (1, .s (.str key)), (2, .s (.fn0 67)), (8, .s (.int .i64 (bs.length : Int))), (9, .s (.int .i64 i)), (10, .s (.int .i64 j))], [], hd Try.f66 3, {}⟩
theorem treeBSB (bs : List Br) (key : ByteArray) : run P tabBS.sum Try.f66 nsBS (start Try.f66 [.s (.ro (.typ cB bs)), .s (.str key), .s (.fn0 67)] []) =
  Tree.at (Cfg.mk (sl (49 : Nat) [((0 : Nat), AV.s (SV.ro (Con.typ [CK.str, CK.int IntKind.i64] bs))), ((1 : Nat), AV.s (SV.str key)), ((2 : Nat), AV.s (SV.fn0 (67 : Nat))), ((8 : Nat), AV.s (SV.int IntKind.i64 (↑bs.length : Int))), ((9 : Nat), AV.s (SV.int IntKind.i64 (0 : Int))), ((10 : Nat), AV.s (SV.int IntKind.i64 (↑bs.length : Int)))]) [] (hd Try.f66 (3 : Nat)) (Stk.mk none false (0 : Nat) [] (0 : Nat))) := by kernel_rfl
theorem loopBSB (bs : List Br) (key : ByteArray) (i j : Int) : run P tabBS.sum Try.f66 nsBS (cBSB bs key i j) =
  Tree.ite (decide (i < j)) (Tree.need (inI64 (i + j)) (Tree.need ((0 : Int) ≤ (1 : Int)) (Tree.need ((0 : Int) ≤ IntKind.i64.wrap ((IntKind.u64.wrap (i + j)).fdiv ((2 : Int) ^ min (Int.toNat (1 : Int)) IntKind.u64.bits))) (Tree.need (IntKind.i64.wrap ((IntKind.u64.wrap (i + j)).fdiv ((2 : Int) ^ min (Int.toNat (1 : Int)) IntKind.u64.bits)) < (↑bs.length : Int)) (Tree.ite (decide (cmpS (bs.getD (IntKind.i64.wrap ((IntKind.u64.wrap (i + j)).fdiv ((2 : Int) ^ min (Int.toNat (1 : Int)) IntKind.u64.bits))).toNat (CL.d [CK.str, CK.int IntKind.i64])).fst key < (0 : Int))) (Tree.need (inI64 (IntKind.i64.wrap ((IntKind.u64.wrap (i + j)).fdiv ((2 : Int) ^ min (Int.toNat (1 : Int)) IntKind.u64.bits)) + (1 : Int))) (Tree.at (Cfg.mk (sl (49 : Nat) [((0 : Nat), AV.s (SV.ro (Con.typ [CK.str, CK.int IntKind.i64] bs))), ((1 : Nat), AV.s (SV.str key)), ((2 : Nat), AV.s (SV.fn0 (67 : Nat))), ((8 : Nat), AV.s (SV.int IntKind.i64 (↑bs.length : Int))), ((9 : Nat), AV.s (SV.int IntKind.i64 (IntKind.i64.wrap ((IntKind.u64.wrap (i + j)).fdiv ((2 : Int) ^ min (Int.toNat (1 : Int)) IntKind.u64.bits)) + (1 : Int)))), ((10 : Nat), AV.s (SV.int IntKind.i64 j))]) [] (hd Try.f66 (3 : Nat)) (Stk.mk none false (0 : Nat) [] (0 : Nat))))) (Tree.at (Cfg.mk (sl (49 : Nat) [((0 : Nat), AV.s (SV.ro (Con.typ [CK.str, CK.int IntKind.i64] bs))), ((1 : Nat), AV.s (SV.str key)), ((2 : Nat), AV.s (SV.fn0 (67 : Nat))), ((8 : Nat), AV.s (SV.int IntKind.i64 (↑bs.length : Int))), ((9 : Nat), AV.s (SV.int IntKind.i64 i)), ((10 : Nat), AV.s (SV.int IntKind.i64 (IntKind.i64.wrap ((IntKind.u64.wrap (i + j)).fdiv ((2 : Int) ^ min (Int.toNat (1 : Int)) IntKind.u64.bits)))))]) [] (hd Try.f66 (3 : Nat)) (Stk.mk none false (0 : Nat) [] (0 : Nat))))))))) (Tree.ite (decide (i < (↑bs.length : Int))) (Tree.need ((0 : Int) ≤ i) (Tree.need (i < (↑bs.length : Int)) (Tree.ret [] (AV.tup [AV.s (SV.int IntKind.i64 i), AV.s (SV.bool (cmpS (bs.getD i.toNat (CL.d [CK.str, CK.int IntKind.i64])).fst key == (0 : Int)))])))) (Tree.ret [] (AV.tup [AV.s (SV.int IntKind.i64 i), AV.s (SV.blit false)]))) := by kernel_rfl
abbrev keyB (x : Br) : ByteArray := x.1
abbrev keyE (x : En) : ByteArray := x.1
abbrev ksB (l : List Br) : List ByteArray := l.map keyB
abbrev ksE (l : List En) : List ByteArray := l.map keyE
def lbP (ks : List ByteArray) (key : ByteArray) : Nat := (ks.takeWhile (fun k => slt k key)).length
def atK (ks : List ByteArray) (key : ByteArray) : Bool := decide (ks[lbP ks key]? = some key)
def srt (ks : List ByteArray) : Prop := ∀ i j, i < j → j < ks.length → slt (ks.getD i ByteArray.empty) (ks.getD j ByteArray.empty) = true

theorem map_getD {α : Type} (l : List α) (f : α → ByteArray) (d : α) (t : Nat) (hd : f d = ByteArray.empty := by rfl) : (l.map f).getD t ByteArray.empty = f (l.getD t d) := by
  simp only [List.getD, List.getElem?_map]
  cases l[t]? with
  | none => exact hd.symm
  | some x => rfl

theorem lbP_eq : ∀ {ks : List ByteArray} {key : ByteArray} {i : Nat}, i ≤ ks.length → (∀ t, t < i → slt (ks.getD t ByteArray.empty) key = true) → (i < ks.length → slt (ks.getD i ByteArray.empty) key = false) → lbP ks key = i
  | [], key, i, h, _, _ => by
    simp only [List.length_nil, Nat.le_zero] at h
    subst h; rfl
  | k :: ks, key, 0, h, _, h2 => by
    have := h2 (by simp)
    simp only [List.getD_cons_zero] at this
    simp [lbP, List.takeWhile, this]
  | k :: ks, key, i + 1, h, h1, h2 => by
    have h0 := h1 0 (by omega)
    simp only [List.getD_cons_zero] at h0
    have := lbP_eq (ks := ks) (key := key) (i := i) (by simpa using h) (fun t ht => by simpa using h1 (t + 1) (by omega)) (fun hi => by simpa using h2 (by simpa using hi))
    simp only [lbP] at this ⊢
    simp [List.takeWhile, h0, this]

theorem beq_decide (n : Int) : (n == 0) = decide (n = 0) := by
  by_cases h : n = 0 <;> simp [h]

theorem mid_eq {s : Int} (h0 : 0 ≤ s) (h1 : s < 9223372036854775808) : (IntKind.u64.wrap s).fdiv (2 ^ min (Int.toNat 1) IntKind.u64.bits) = s / 2 := by
  have e1 : IntKind.u64.wrap s = s := by
    show s % 18446744073709551616 = s
    omega
  rw [e1]
  show s.fdiv 2 = s / 2
  rw [Int.fdiv_eq_ediv_of_nonneg _ (by omega)]

theorem tabBS_ok {Z : Glob} : tabBS.Ok P Z := Tab.Ok.cons place1_ok.sum (
  Tab.Ok.nil)

theorem bsB_ok {Z : Glob} : FnOk P Z 66 [tBs, tStr, .b .fn] [tInt, tBool] (fun (l, _, f, ()) => [(f : Nat) = 67, (l : List Br).length ≤ 1000000, srt (ksB l)]) (fun (l, key, _, ()) => ((lbP (ksB l) key : Nat), atK (ksB l) key, ())) := by
  refine fnOk_of_safe Try.func66 (by kernel_rfl) (by kernel_rfl) ?_
  rintro ⟨(l : List Br), (key : ByteArray), (f : Nat), ⟨⟩⟩ _ ⟨(hf : f = 67), (hl : l.length ≤ 1000000), (hs : srt (ksB l)), _⟩ X hX hz
  subst hf
  have hk : ∀ t, (ksB l).getD t ByteArray.empty = (l.getD t dB).1 := fun t => map_getD l keyB dB t
  have hn : (ksB l).length = l.length := List.length_map _
  have loop : ∀ (n i j : Nat), j - i ≤ n → i ≤ j → j ≤ l.length → (∀ t, t < i → slt (l.getD t dB).1 key = true) → (∀ t, j ≤ t → t < l.length → slt (l.getD t dB).1 key = false) →
      Safe P 66 X (Ends [tInt, tBool] ((lbP (ksB l) key : Nat), atK (ksB l) key, ())) (cBSB l key (i : Int) (j : Int)) := by
    intro n
    induction n with
    | zero =>
      intro i j h1 h2 h3 h4 h5
      have hlb : lbP (ksB l) key = i := lbP_eq (by rw [hn]; omega) (fun t ht => by rw [hk]; exact h4 t ht) (fun h => by rw [hn] at h; rw [hk]; exact h5 i (by omega) h)
      refine go hz hX tabBS_ok Try.func66 (loopBSB l key i j) ⟨fun h => absurd (of_decide_eq_true h) (by omega), fun h => ⟨fun h6 => ⟨by omega, of_decide_eq_true h6, ?_⟩, fun h6 => ?_⟩⟩
      · have h7 : i < l.length := by have := of_decide_eq_true h6; omega
        simp only [Int.toNat_natCast]
        rw [atK, hlb]
        refine ends_eq ((i : Int), cmpS (l.getD i dB).1 key == 0, ()) ?_ (by kernel_rfl)
        congr 2
        rw [List.getElem?_map, List.getElem?_eq_getElem h7, getD_lt h7]
        simp only [Option.map_some, Option.some.injEq]
        rw [beq_decide, decide_eq_decide.2 (cmpS_eq _ _)]
      · have h7 : ¬ i < l.length := by have := of_decide_eq_false h6; omega
        rw [atK, hlb]
        refine ends_eq ((i : Int), false, ()) ?_ (by kernel_rfl)
        congr 2
        rw [List.getElem?_map, List.getElem?_eq_none (Nat.le_of_not_lt h7)]
        rfl
    | succ n ih =>
      intro i j h1 h2 h3 h4 h5
      by_cases hij : i < j
      · have e := mid_eq (s := (i : Int) + (j : Int)) (by omega) (by omega)
        have e2 : ((i : Int) + (j : Int)) / 2 = ((i + j) / 2 : Nat) := by omega
        refine go hz hX tabBS_ok Try.func66 (loopBSB l key i j) ?_
        have e3 : IntKind.i64.wrap (((i + j) / 2 : Nat) : Int) = (((i + j) / 2 : Nat) : Int) := wrap_i64_in ⟨by omega, by omega⟩
        rw [e, e2, e3]
        simp only [Int.toNat_natCast]
        refine ⟨fun h => ⟨⟨by omega, by omega⟩, by decide, by omega, by omega, fun h6 => ⟨⟨by omega, by omega⟩, ?_⟩, fun h6 => ?_⟩, fun h => absurd (of_decide_eq_false h) (by omega)⟩
        · have h7 : slt (l.getD ((i + j) / 2) dB).1 key = true := (cmpS_lt _ _).1 (of_decide_eq_true h6)
          refine ih ((i + j) / 2 + 1) j (by omega) (by omega) h3 (fun t ht => ?_) h5
          by_cases hte : t = (i + j) / 2
          · rw [hte]; exact h7
          · have := hs t ((i + j) / 2) (by omega) (by omega)
            rw [hk, hk] at this
            exact slt_trans this h7
        · have h7 : slt (l.getD ((i + j) / 2) dB).1 key = false := by
            cases h8 : slt (l.getD ((i + j) / 2) dB).1 key
            · rfl
            · exact absurd ((cmpS_lt _ _).2 h8) (of_decide_eq_false h6)
          refine ih i ((i + j) / 2) (by omega) (by omega) (by omega) h4 (fun t ht htl => ?_)
          by_cases hte : t = (i + j) / 2
          · rw [hte]; exact h7
          · have := hs ((i + j) / 2) t (by omega) (by omega)
            rw [hk, hk] at this
            cases h8 : slt (l.getD t dB).1 key
            · rfl
            · rw [slt_trans this h8] at h7; cases h7
      · exact ih i j (by omega) h2 h3 h4 h5
  exact go hz hX tabBS_ok Try.func66 (treeBSB l key) (loop l.length 0 l.length (by omega) (by omega) (by omega) (fun t ht => by omega) (fun t ht htl => by omega))

end Lf

namespace Lf
open Go Go.Sx Go.Proofs
abbrev sBSB := sumOf [tBs, tStr, .b .fn] [tInt, tBool] (fun (l, _, f, ()) => [(f : Nat) = 67, (l : List Br).length ≤ 1000000, srt (ksB l)]) (fun (l, key, _, ()) => ((lbP (ksB l) key : Nat), atK (ksB l) key, ()))
def tabPl : Tab := [(66, sBSB)
  ]
theorem treePlace (l : List Br) (key : ByteArray) : run P tabPl.sum Try.f53 [] (start Try.f53 [.s (.ro (.typ cB l)), .s (.str key)] []) =
  Tree.need ((67 : Nat) = (67 : (Ty.b B.fn).V)) (Tree.need (l.length ≤ (1000000 : Nat)) (Tree.need (srt (ksB l)) (Tree.ite (!atK (ksB l) key) (Tree.need (inI64 ((↑(lbP (ksB l) key) : tInt.V) - (1 : Int))) (Tree.ret [] (AV.s (SV.int IntKind.i64 (imax (0 : Int) ((↑(lbP (ksB l) key) : tInt.V) - (1 : Int))))))) (Tree.ret [] (AV.s (SV.int IntKind.i64 (imax (0 : Int) (↑(lbP (ksB l) key) : tInt.V)))))))) := by kernel_rfl

/-! ### sizes -/
def nsSizes : List (Nat × Norm) := [(3, ⟨[(3, .ints .i64 [], 3)], [1, 3, 9, 10, 11], 0, []⟩), (8, ⟨[(3, .ints .i64 [], 3)], [3, 28, 29, 30], 0, []⟩)]
noncomputable def cSizes1 (l : Bool) (es : List En) (bs : List Br) (acc : List Int) (i : Int) : Cfg := ⟨sl 43 [(1, .ptr 0 0), (3, .vec 1), (9, .s (.ro (.typ cE es))), (10, .s (.int .i64 (es.length : Int))), (11, .s (.int .i64 i))], [obN l es bs 43, .vec (.ints .i64 acc) 3], hd Try.f48 3, {}⟩
noncomputable def cSizes2 (bs : List Br) (acc : List Int) (i : Int) : Cfg := ⟨sl 43 [(3, .vec 0), (28, .s (.ro (.typ cB bs))), (29, .s (.int .i64 (bs.length : Int))), (30, .s (.int .i64 i))], [.vec (.ints .i64 acc) 3], hd Try.f48 8, {}⟩
theorem treeSizes (l : Bool) (es : List En) (bs : List Br) : run P tab0.sum Try.f48 nsSizes (start Try.f48 [avN l es bs] []) =
  Tree.at (Cfg.mk (sl (43 : Nat) [((1 : Nat), AV.ptr (0 : Nat) (0 : Nat)), ((3 : Nat), AV.vec (1 : Nat)), ((9 : Nat), AV.s (SV.ro (Con.typ [CK.str, CK.str] es))), ((10 : Nat), AV.s (SV.int IntKind.i64 (↑es.length : Int))), ((11 : Nat), AV.s (SV.int IntKind.i64 (0 : Int)))]) [AObj.own [AV.s (SV.bool l), AV.s (SV.ro (Con.typ [CK.str, CK.str] es)), AV.s (SV.ro (Con.typ [CK.str, CK.int IntKind.i64] bs))] (43 : Nat), AObj.vec (Con.ints IntKind.i64 []) (3 : Nat)] (hd Try.f48 (3 : Nat)) (Stk.mk none false (0 : Nat) [] (0 : Nat))) := by kernel_rfl
theorem loopSizes1 (l : Bool) (es : List En) (bs : List Br) (acc : List Int) (i : Int) : run P tab0.sum Try.f48 nsSizes (cSizes1 l es bs acc i) =
  Tree.ite (decide (i < (↑es.length : Int))) (Tree.need ((0 : Int) ≤ i) (Tree.need (i < (↑es.length : Int)) (Tree.need (inI64 ((2 : Int) + (↑(ByteArray.size (es.getD i.toNat (CL.d [CK.str, CK.str])).fst) : Int))) (Tree.need (inI64 ((2 : Int) + (↑(ByteArray.size (es.getD i.toNat (CL.d [CK.str, CK.str])).fst) : Int) + (↑(ByteArray.size (es.getD i.toNat (CL.d [CK.str, CK.str])).snd.fst) : Int))) (Tree.need (acc.length + (1 : Nat) ≤ (4294967296 : Nat)) (Tree.need (inI64 (i + (1 : Int))) (Tree.at (Cfg.mk (sl (43 : Nat) [((1 : Nat), AV.ptr (0 : Nat) (0 : Nat)), ((3 : Nat), AV.vec (1 : Nat)), ((9 : Nat), AV.s (SV.ro (Con.typ [CK.str, CK.str] es))), ((10 : Nat), AV.s (SV.int IntKind.i64 (↑es.length : Int))), ((11 : Nat), AV.s (SV.int IntKind.i64 (i + (1 : Int))))]) [AObj.own [AV.s (SV.bool l), AV.s (SV.ro (Con.typ [CK.str, CK.str] es)), AV.s (SV.ro (Con.typ [CK.str, CK.int IntKind.i64] bs))] (43 : Nat), AObj.vec (Con.ints IntKind.i64 (acc ++ [(2 : Int) + (↑(ByteArray.size (es.getD i.toNat (CL.d [CK.str, CK.str])).fst) : Int) + (↑(ByteArray.size (es.getD i.toNat (CL.d [CK.str, CK.str])).snd.fst) : Int)])) (3 : Nat)] (hd Try.f48 (3 : Nat)) (Stk.mk none false (0 : Nat) [] (0 : Nat)))))))))) (Tree.at (Cfg.mk (sl (43 : Nat) [((3 : Nat), AV.vec (0 : Nat)), ((28 : Nat), AV.s (SV.ro (Con.typ [CK.str, CK.int IntKind.i64] bs))), ((29 : Nat), AV.s (SV.int IntKind.i64 (↑bs.length : Int))), ((30 : Nat), AV.s (SV.int IntKind.i64 (0 : Int)))]) [AObj.vec (Con.ints IntKind.i64 acc) (3 : Nat)] (hd Try.f48 (8 : Nat)) (Stk.mk none false (0 : Nat) [] (0 : Nat)))) := by kernel_rfl
theorem loopSizes2 (bs : List Br) (acc : List Int) (i : Int) : run P tab0.sum Try.f48 nsSizes (cSizes2 bs acc i) =
  Tree.ite (decide (i < (↑bs.length : Int))) (Tree.need ((0 : Int) ≤ i) (Tree.need (i < (↑bs.length : Int)) (Tree.need (inI64 ((3 : Int) + (↑(ByteArray.size (bs.getD i.toNat (CL.d [CK.str, CK.int IntKind.i64])).fst) : Int))) (Tree.need (acc.length + (1 : Nat) ≤ (4294967296 : Nat)) (Tree.need (inI64 (i + (1 : Int))) (Tree.at (Cfg.mk (sl (43 : Nat) [((3 : Nat), AV.vec (0 : Nat)), ((28 : Nat), AV.s (SV.ro (Con.typ [CK.str, CK.int IntKind.i64] bs))), ((29 : Nat), AV.s (SV.int IntKind.i64 (↑bs.length : Int))), ((30 : Nat), AV.s (SV.int IntKind.i64 (i + (1 : Int))))]) [AObj.vec (Con.ints IntKind.i64 (acc ++ [(3 : Int) + (↑(ByteArray.size (bs.getD i.toNat (CL.d [CK.str, CK.int IntKind.i64])).fst) : Int)])) (3 : Nat)] (hd Try.f48 (8 : Nat)) (Stk.mk none false (0 : Nat) [] (0 : Nat))))))))) (Tree.ret [AObj.vec (Con.ints IntKind.i64 acc) (3 : Nat)] (AV.vec (0 : Nat))) := by kernel_rfl
def szE (x : En) : Int := 2 + (x.1.size : Int) + (x.2.1.size : Int)
def szB (x : Br) : Int := 3 + (x.1.size : Int)
def sizesF (es : List En) (bs : List Br) : List Int := es.map szE ++ bs.map szB
def sumI (l : List Int) : Int := l.foldl (· + ·) 0
def sizeN (es : List En) (bs : List Br) : Int := 1 + ((es.map szE).sum + (bs.map szB).sum)
def smallE (es : List En) : Prop := es.length ≤ 1000 ∧ ∀ x ∈ es, x.1.size ≤ 1000 ∧ x.2.1.size ≤ 1000
def smallB (bs : List Br) : Prop := bs.length ≤ 1000 ∧ ∀ x ∈ bs, x.1.size ≤ 1000
abbrev sSizes := sumOf [tNode] [tInts] (fun ((_, es, bs, ()), ()) => [smallE es, smallB bs]) (fun ((_, es, bs, ()), ()) => (sizesF es bs, ()))
def tabSz : Tab := [(48, sSizes)]
def nsSize : List (Nat × Norm) := [(3, ⟨[], [3, 7, 8, 9], 0, []⟩)]
noncomputable def cSize (l : List Int) (a i : Int) : Cfg := ⟨sl 18 [(3, .s (.int .i64 a)), (7, .vec 0), (8, .s (.int .i64 (l.length : Int))), (9, .s (.int .i64 i))], [.vec (.ints .i64 l) 3], hd Try.f21 3, {}⟩
theorem treeSize (l : Bool) (es : List En) (bs : List Br) : run P tabSz.sum Try.f21 nsSize (start Try.f21 [avN l es bs] []) =
  Tree.need (smallE es) (Tree.need (smallB bs) (Tree.at (Cfg.mk (sl (18 : Nat) [((3 : Nat), AV.s (SV.int IntKind.i64 (1 : Int))), ((7 : Nat), AV.vec (0 : Nat)), ((8 : Nat), AV.s (SV.int IntKind.i64 (↑(sizesF es bs).length : Int))), ((9 : Nat), AV.s (SV.int IntKind.i64 (0 : Int)))]) [AObj.vec (Con.ints IntKind.i64 (sizesF es bs)) (3 : Nat)] (hd Try.f21 (3 : Nat)) (Stk.mk none false (0 : Nat) [] (0 : Nat))))) := by kernel_rfl
theorem loopSize (l : List Int) (a i : Int) : run P tabSz.sum Try.f21 nsSize (cSize l a i) =
  Tree.ite (decide (i < (↑l.length : Int))) (Tree.need ((0 : Int) ≤ i) (Tree.need (i < (↑l.length : Int)) (Tree.need (inI64 (a + l.getD i.toNat (0 : Int))) (Tree.need (inI64 (i + (1 : Int))) (Tree.at (Cfg.mk (sl (18 : Nat) [((3 : Nat), AV.s (SV.int IntKind.i64 (a + l.getD i.toNat (0 : Int)))), ((7 : Nat), AV.vec (0 : Nat)), ((8 : Nat), AV.s (SV.int IntKind.i64 (↑l.length : Int))), ((9 : Nat), AV.s (SV.int IntKind.i64 (i + (1 : Int))))]) [AObj.vec (Con.ints IntKind.i64 l) (3 : Nat)] (hd Try.f21 (3 : Nat)) (Stk.mk none false (0 : Nat) [] (0 : Nat)))))))) (Tree.ret [AObj.vec (Con.ints IntKind.i64 l) (3 : Nat)] (AV.s (SV.int IntKind.i64 a))) := by kernel_rfl
abbrev sSize := sumOf [tNode] [tInt] (fun ((_, es, bs, ()), ()) => [smallE es, smallB bs]) (fun ((_, es, bs, ()), ()) => (sizeN es bs, ()))
def tabFi : Tab := [(21, sSize)]
theorem treeFits (l : Bool) (es : List En) (bs : List Br) : run P tabFi.sum Try.f46 [] (start Try.f46 [avN l es bs] []) =
  Tree.need (smallE es) (Tree.need (smallB bs) (Tree.ret [AObj.own [AV.s (SV.bool l), AV.s (SV.ro (Con.typ [CK.str, CK.str] es)), AV.s (SV.ro (Con.typ [CK.str, CK.int IntKind.i64] bs))] (43 : Nat)] (AV.s (SV.bool (decide (sizeN es bs ≤ (254 : Int))))))) := by kernel_rfl
theorem tabPl_ok {Z : Glob} : tabPl.Ok P Z := Tab.Ok.cons bsB_ok.sum (
  Tab.Ok.nil)
def placeF (l : List Br) (key : ByteArray) : Int := imax 0 (if atK (ksB l) key = true then (lbP (ksB l) key : Int) else (lbP (ksB l) key : Int) - 1)
theorem lbP_le (ks : List ByteArray) (key : ByteArray) : lbP ks key ≤ ks.length := by
  unfold lbP
  exact (List.takeWhile_sublist _).length_le
theorem place_ok {Z : Glob} : FnOk P Z 53 [tBs, tStr] [tInt] (fun (l, _, ()) => [(l : List Br).length ≤ 1000000, srt (ksB l)]) (fun (l, key, ()) => (placeF l key, ())) := by
  refine fnOk_of_safe Try.func53 (by kernel_rfl) (by kernel_rfl) ?_
  rintro ⟨(l : List Br), (key : ByteArray), ⟨⟩⟩ _ ⟨(hl : l.length ≤ 1000000), (hs : srt (ksB l)), _⟩ X hX hz
  have hb := lbP_le (ksB l) key
  rw [show (ksB l).length = l.length from List.length_map _] at hb
  refine go hz hX tabPl_ok Try.func53 (treePlace l key) ⟨rfl, hl, hs, fun h => ⟨⟨by omega, by omega⟩, ends_ii ?_⟩, fun h => ends_ii ?_⟩
  · have h : atK (ksB l) key = false := by simpa using h
    simp [placeF, h]
  · have h : atK (ksB l) key = true := by simpa using h
    simp [placeF, h]
theorem small_getE {es : List En} (h : smallE es) (i : Nat) : (es.getD i dE).1.size ≤ 1000 ∧ (es.getD i dE).2.1.size ≤ 1000 := by
  by_cases hi : i < es.length
  · rw [getD_lt hi]; exact h.2 _ (List.getElem_mem hi)
  · rw [show es.getD i dE = dE from by simp [List.getD, List.getElem?_eq_none (Nat.le_of_not_lt hi)]]
    exact ⟨by decide, by decide⟩
theorem small_getB {bs : List Br} (h : smallB bs) (i : Nat) : (bs.getD i dB).1.size ≤ 1000 := by
  by_cases hi : i < bs.length
  · rw [getD_lt hi]; exact h.2 _ (List.getElem_mem hi)
  · rw [show bs.getD i dB = dB from by simp [List.getD, List.getElem?_eq_none (Nat.le_of_not_lt hi)]]
    decide

theorem map_take_snoc {α : Type} {l : List α} {k : Nat} {d : α} (f : α → Int) (h : k < l.length) : (l.take k).map f ++ [f (l.getD k d)] = (l.take (k + 1)).map f := by
  rw [← take_snoc (d := d) h, List.map_append]; rfl

theorem sizes_ok {Z : Glob} : FnOk P Z 48 [tNode] [tInts] (fun ((_, es, bs, ()), ()) => [smallE es, smallB bs]) (fun ((_, es, bs, ()), ()) => (sizesF es bs, ())) := by
  refine fnOk_of_safe Try.func48 (by kernel_rfl) (by kernel_rfl) ?_
  rintro ⟨⟨(l : Bool), (es : List En), (bs : List Br), ⟨⟩⟩, ⟨⟩⟩ _ ⟨(he : smallE es), (hb : smallB bs), _⟩ X hX hz
  have he1 := he.1
  have hb1 := hb.1
  have second : ∀ (n k : Nat), k + n = bs.length → Safe P 48 X (Ends [tInts] (sizesF es bs, ())) (cSizes2 bs (es.map szE ++ (bs.take k).map szB) (k : Int)) := by
    intro n
    induction n with
    | zero =>
      intro k hk
      refine go hz hX Tab.Ok.nil Try.func48 (loopSizes2 bs _ k) ⟨fun h => absurd (of_decide_eq_true h) (by omega), fun h => ?_⟩
      rw [List.take_of_length_le (by omega)]
      exact ends_eq (sizesF es bs, ()) rfl (by kernel_rfl)
    | succ n ih =>
      intro k hk
      have hsz := small_getB hb k
      refine go hz hX Tab.Ok.nil Try.func48 (loopSizes2 bs _ k) ⟨fun h => ⟨by omega, by omega, ?_, ?_, ⟨by omega, by omega⟩, ?_⟩, fun h => absurd (of_decide_eq_false h) (by omega)⟩
      · simp only [Int.toNat_natCast]
        show inI64 (3 + ((bs.getD k dB).1.size : Int))
        exact ⟨by omega, by omega⟩
      · simp only [List.length_append, List.length_map, List.length_take]; omega
      · simp only [Int.toNat_natCast]
        have := ih (k + 1) (by omega)
        rw [← map_take_snoc (d := dB) szB (by omega), ← List.append_assoc] at this
        exact this
  have first : ∀ (n k : Nat), k + n = es.length → Safe P 48 X (Ends [tInts] (sizesF es bs, ())) (cSizes1 l es bs ((es.take k).map szE) (k : Int)) := by
    intro n
    induction n with
    | zero =>
      intro k hk
      refine go hz hX Tab.Ok.nil Try.func48 (loopSizes1 l es bs _ k) ⟨fun h => absurd (of_decide_eq_true h) (by omega), fun h => ?_⟩
      rw [List.take_of_length_le (by omega)]
      have := second bs.length 0 (by omega)
      simp only [List.take_zero, List.map_nil, List.append_nil] at this
      exact this
    | succ n ih =>
      intro k hk
      obtain ⟨hs1, hs2⟩ := small_getE he k
      refine go hz hX Tab.Ok.nil Try.func48 (loopSizes1 l es bs _ k) ⟨fun h => ⟨by omega, by omega, ?_, ?_, ?_, ⟨by omega, by omega⟩, ?_⟩, fun h => absurd (of_decide_eq_false h) (by omega)⟩
      · simp only [Int.toNat_natCast]
        show inI64 (2 + ((es.getD k dE).1.size : Int))
        exact ⟨by omega, by omega⟩
      · simp only [Int.toNat_natCast]
        show inI64 (2 + ((es.getD k dE).1.size : Int) + ((es.getD k dE).2.1.size : Int))
        exact ⟨by omega, by omega⟩
      · simp only [List.length_map, List.length_take]; omega
      · simp only [Int.toNat_natCast]
        have := ih (k + 1) (by omega)
        rw [← map_take_snoc (d := dE) szE (by omega)] at this
        exact this
  exact go hz hX Tab.Ok.nil Try.func48 (treeSizes l es bs) (first es.length 0 (by omega))

theorem szs_range {es : List En} {bs : List Br} (he : smallE es) (hb : smallB bs) : ∀ x ∈ sizesF es bs, 0 ≤ x ∧ x ≤ 2002 := by
  intro x hx
  rcases List.mem_append.1 hx with hx | hx
  · obtain ⟨y, hy, rfl⟩ := List.mem_map.1 hx
    have := he.2 y hy
    simp only [szE]; omega
  · obtain ⟨y, hy, rfl⟩ := List.mem_map.1 hx
    have := hb.2 y hy
    simp only [szB]; omega

theorem sum_range {l : List Int} {m : Int} (h : ∀ x ∈ l, 0 ≤ x ∧ x ≤ m) (hm : 0 ≤ m) : 0 ≤ l.sum ∧ l.sum ≤ m * l.length := by
  induction l with
  | nil => simp
  | cons x l ih =>
    have h1 := h x (by simp)
    obtain ⟨h2, h3⟩ := ih (fun y hy => h y (by simp [hy]))
    simp only [List.sum_cons, List.length_cons]
    refine ⟨by omega, ?_⟩
    rw [show ((l.length + 1 : Nat) : Int) = (l.length : Int) + 1 from rfl, Int.mul_add]
    omega

theorem sum_take_snoc {l : List Int} {k : Nat} (h : k < l.length) : (l.take k).sum + l.getD k 0 = (l.take (k + 1)).sum := by
  rw [← take_snoc (d := (0 : Int)) h, List.sum_append]; simp

theorem sizeN_eq (es : List En) (bs : List Br) : sizeN es bs = 1 + (sizesF es bs).sum := by
  simp [sizeN, sizesF, List.sum_append]

theorem size_ok {Z : Glob} : FnOk P Z 21 [tNode] [tInt] (fun ((_, es, bs, ()), ()) => [smallE es, smallB bs]) (fun ((_, es, bs, ()), ()) => (sizeN es bs, ())) := by
  refine fnOk_of_safe Try.func21 (by kernel_rfl) (by kernel_rfl) ?_
  rintro ⟨⟨(l : Bool), (es : List En), (bs : List Br), ⟨⟩⟩, ⟨⟩⟩ _ ⟨(he : smallE es), (hb : smallB bs), _⟩ X hX hz
  have hr := szs_range he hb
  have hlen : (sizesF es bs).length ≤ 2000 := by
    have := he.1; have := hb.1
    simp only [sizesF, List.length_append, List.length_map]; omega
  show Safe P 21 X (Ends [tInt] (sizeN es bs, ())) _
  rw [sizeN_eq]
  have loop : ∀ (n k : Nat), k + n = (sizesF es bs).length → Safe P 21 X (Ends [tInt] (1 + (sizesF es bs).sum, ())) (cSize (sizesF es bs) (1 + ((sizesF es bs).take k).sum) (k : Int)) := by
    intro n
    induction n with
    | zero =>
      intro k hk
      refine go hz hX (Tab.Ok.cons sizes_ok.sum Tab.Ok.nil) Try.func21 (loopSize _ _ k) ⟨fun h => absurd (of_decide_eq_true h) (by omega), fun h => ?_⟩
      rw [List.take_of_length_le (by omega)]
      exact ends_i
    | succ n ih =>
      intro k hk
      have h1 := sum_range (l := (sizesF es bs).take k) (m := 2002) (fun x hx => hr x (List.mem_of_mem_take hx)) (by omega)
      have h2 : 0 ≤ (sizesF es bs).getD k 0 ∧ (sizesF es bs).getD k 0 ≤ 2002 := by
        rw [getD_lt (by omega)]; exact hr _ (List.getElem_mem _)
      have h3 : ((sizesF es bs).take k).length ≤ 2000 := by rw [List.length_take]; omega
      refine go hz hX (Tab.Ok.cons sizes_ok.sum Tab.Ok.nil) Try.func21 (loopSize _ _ k) ?_
      simp only [Int.toNat_natCast]
      refine ⟨fun h => ⟨by omega, by omega, ⟨by omega, by omega⟩, ⟨by omega, by omega⟩, ?_⟩, fun h => absurd (of_decide_eq_false h) (by omega)⟩
      have := ih (k + 1) (by omega)
      rw [← sum_take_snoc (by omega), ← Int.add_assoc] at this
      exact this
  have := loop (sizesF es bs).length 0 (by omega)
  exact go hz hX (Tab.Ok.cons sizes_ok.sum Tab.Ok.nil) Try.func21 (treeSize l es bs) ⟨he, hb, this⟩

theorem fits_ok {Z : Glob} : FnOk P Z 46 [tNode] [tBool] (fun ((_, es, bs, ()), ()) => [smallE es, smallB bs]) (fun ((_, es, bs, ()), ()) => (decide (sizeN es bs ≤ 254), ())) := by
  refine fnOk_of_safe Try.func46 (by kernel_rfl) (by kernel_rfl) ?_
  rintro ⟨⟨(l : Bool), (es : List En), (bs : List Br), ⟨⟩⟩, ⟨⟩⟩ _ ⟨(he : smallE es), (hb : smallB bs), _⟩ X hX hz
  exact go hz hX (Tab.Ok.cons size_ok.sum Tab.Ok.nil) Try.func46 (treeFits l es bs) ⟨he, hb, ends_b⟩
end Lf

namespace Lf
open Go Go.Sx Go.Proofs
def bytesI (s : ByteArray) : List Int := s.data.toList.map fun b => (b.toNat : Int)
def txt (s : ByteArray) : List Int := IntKind.u8.wrap (s.size : Int) :: bytesI s
abbrev XEnc : Type := ByteArray × List Int
def specEnc1 : Spec XEnc := ⟨fun x => [.s (.str x.1), .ptr 0 0], fun x => [.own [.vec 1] 35, .vec (.ints .u8 x.2) 5], fun x => [x.2.length ≤ 100000000, x.1.size ≤ 1000000], fun x => [.own [.vec 2] 35, .dead, .vec (.ints .u8 (x.2 ++ txt x.1)) 5], fun _ => .tup []⟩
def mEnc1 : List AV → RM (XEnc × List Nat)
  | [.s (.str s), .ptr id 0] => .look id fun
    | some (.own [.vec j] _) => .look j fun
      | some (.vec (.ints .u8 zs) _) => .ret ((s, zs), [id, j])
      | _ => .fail "enc1: no bytes"
    | _ => .fail "enc1: no box"
  | _ => .fail "enc1"
theorem treeEnc1 (s : ByteArray) (zs : List Int) : run P tab0.sum Try.f47 [] (start Try.f47 [.s (.str s), .ptr 0 0] [.own [.vec 1] 35, .vec (.ints .u8 zs) 5]) =
  Tree.need (zs.length + (1 : Nat) ≤ (4294967296 : Nat)) (Tree.need ((zs ++ [IntKind.u8.wrap (↑s.size : Int)]).length + (List.map (fun (b : UInt8) => (↑b.toNat : Int)) s.data.toList).length ≤ (4294967296 : Nat)) (Tree.ret [AObj.own [AV.vec (4 : Nat)] (35 : Nat), AObj.dead, AObj.vec (Con.ints IntKind.u8 [IntKind.u8.wrap (↑s.size : Int)]) (5 : Nat), AObj.dead, AObj.vec (Con.ints IntKind.u8 (zs ++ [IntKind.u8.wrap (↑s.size : Int)] ++ List.map (fun (b : UInt8) => (↑b.toNat : Int)) s.data.toList)) (5 : Nat)] (AV.tup []))) := by kernel_rfl

abbrev sMay := sumOf [tNode] [tBool] (fun _ => []) (fun ((l, es, bs, ()), ()) => (mayN l es bs, ()))
abbrev sFits := sumOf [tNode] [tBool] (fun ((_, es, bs, ()), ()) => [smallE es, smallB bs]) (fun ((_, es, bs, ()), ()) => (decide (sizeN es bs ≤ 254), ()))
def tabEnc : Tab := [(19, sMay), (46, sFits), (47, sumS specEnc1 mEnc1)]
def nsEnc : List (Nat × Norm) := [(8, ⟨[], [1, 4], 0, []⟩), (10, ⟨[], [1, 4, 5, 25, 26, 27], 0, []⟩), (16, ⟨[], [4, 5, 41, 42, 43], 0, []⟩)]
noncomputable def cEnc0 (l : Bool) (es : List En) (bs : List Br) (zs : List Int) : Cfg := ⟨sl 64 [(1, .ptr 0 0), (4, .ptr 1 0)], [obN l es bs 43, .own [.vec 2] 35, .vec (.ints .u8 zs) 5], hr Try.f17 8, {}⟩
noncomputable def cEnc1 (l : Bool) (es : List En) (bs : List Br) (zs : List Int) (i : Int) : Cfg := ⟨sl 64 [(1, .ptr 0 0), (4, .ptr 1 0), (5, .fn 47 [.ptr 1 0]), (25, .s (.ro (.typ cE es))), (26, .s (.int .i64 (es.length : Int))), (27, .s (.int .i64 i))], [obN l es bs 43, .own [.vec 2] 35, .vec (.ints .u8 zs) 5], hd Try.f17 10, {}⟩
noncomputable def cEnc2 (bs : List Br) (zs : List Int) (i : Int) : Cfg := ⟨sl 64 [(4, .ptr 0 0), (5, .fn 47 [.ptr 0 0]), (41, .s (.ro (.typ cB bs))), (42, .s (.int .i64 (bs.length : Int))), (43, .s (.int .i64 i))], [.own [.vec 1] 35, .vec (.ints .u8 zs) 5], hd Try.f17 16, {}⟩
theorem treeEnc (l : Bool) (es : List En) (bs : List Br) : run P tabEnc.sum Try.f17 nsEnc (start Try.f17 [avN l es bs] []) =
  Tree.ite (!mayN l es bs) (Tree.ret [AObj.own [AV.s (SV.bool l), AV.s (SV.ro (Con.typ [CK.str, CK.str] es)), AV.s (SV.ro (Con.typ [CK.str, CK.int IntKind.i64] bs))] (43 : Nat)] (AV.tup [AV.s (SV.str ByteArray.empty), AV.s (SV.ilit IntKind.i64 (4 : Int))])) (Tree.need (smallE es) (Tree.need (smallB bs) (Tree.ite (!decide (sizeN es bs ≤ (254 : Int))) (Tree.ret [AObj.own [AV.s (SV.bool l), AV.s (SV.ro (Con.typ [CK.str, CK.str] es)), AV.s (SV.ro (Con.typ [CK.str, CK.int IntKind.i64] bs))] (43 : Nat)] (AV.tup [AV.s (SV.str ByteArray.empty), AV.s (SV.ilit IntKind.i64 (40 : Int))])) (Tree.ite l (Tree.need ((0 : Int) ≤ (0 : Int)) (Tree.need ((0 : Int) < (↑(1 : Nat) : Int)) (Tree.at (Cfg.mk (sl (64 : Nat) [((1 : Nat), AV.ptr (0 : Nat) (0 : Nat)), ((4 : Nat), AV.ptr (1 : Nat) (0 : Nat))]) [AObj.own [AV.s (SV.bool l), AV.s (SV.ro (Con.typ [CK.str, CK.str] es)), AV.s (SV.ro (Con.typ [CK.str, CK.int IntKind.i64] bs))] (43 : Nat), AObj.own [AV.vec (2 : Nat)] (35 : Nat), AObj.vec (Con.ints IntKind.u8 ([(2 : Int)].set (0 : Nat) (1 : Int))) (5 : Nat)] (hr Try.f17 (8 : Nat)) (Stk.mk none false (0 : Nat) [] (0 : Nat)))))) (Tree.at (Cfg.mk (sl (64 : Nat) [((1 : Nat), AV.ptr (0 : Nat) (0 : Nat)), ((4 : Nat), AV.ptr (1 : Nat) (0 : Nat))]) [AObj.own [AV.s (SV.bool l), AV.s (SV.ro (Con.typ [CK.str, CK.str] es)), AV.s (SV.ro (Con.typ [CK.str, CK.int IntKind.i64] bs))] (43 : Nat), AObj.own [AV.vec (2 : Nat)] (35 : Nat), AObj.vec (Con.ints IntKind.u8 [(2 : Int)]) (5 : Nat)] (hr Try.f17 (8 : Nat)) (Stk.mk none false (0 : Nat) [] (0 : Nat)))))))) := by kernel_rfl
theorem stopEnc (l : Bool) (es : List En) (bs : List Br) (zs : List Int) : run P tabEnc.sum Try.f17 nsEnc (cEnc0 l es bs zs) =
  Tree.at (Cfg.mk (sl (64 : Nat) [((1 : Nat), AV.ptr (0 : Nat) (0 : Nat)), ((4 : Nat), AV.ptr (1 : Nat) (0 : Nat)), ((5 : Nat), AV.fn (47 : Nat) [AV.ptr (1 : Nat) (0 : Nat)]), ((25 : Nat), AV.s (SV.ro (Con.typ [CK.str, CK.str] es))), ((26 : Nat), AV.s (SV.int IntKind.i64 (↑es.length : Int))), ((27 : Nat), AV.s (SV.int IntKind.i64 (0 : Int)))]) [AObj.own [AV.s (SV.bool l), AV.s (SV.ro (Con.typ [CK.str, CK.str] es)), AV.s (SV.ro (Con.typ [CK.str, CK.int IntKind.i64] bs))] (43 : Nat), AObj.own [AV.vec (2 : Nat)] (35 : Nat), AObj.vec (Con.ints IntKind.u8 zs) (5 : Nat)] (hd Try.f17 (10 : Nat)) (Stk.mk none false (0 : Nat) [] (0 : Nat))) := by kernel_rfl
theorem loopEnc1 (l : Bool) (es : List En) (bs : List Br) (zs : List Int) (i : Int) : run P tabEnc.sum Try.f17 nsEnc (cEnc1 l es bs zs i) =
  Tree.ite (decide (i < (↑es.length : Int))) (Tree.need ((0 : Int) ≤ i) (Tree.need (i < (↑es.length : Int)) (Tree.need (Slf (some [AV.s (SV.str (es.getD i.toNat (CL.d [CK.str, CK.str])).fst), AV.ptr (0 : Nat) (0 : Nat)])) (Tree.need (Slf (some [AObj.own [AV.vec (1 : Nat)] (35 : Nat), AObj.vec (Con.ints IntKind.u8 zs) (5 : Nat)])) (Tree.need (zs.length ≤ (100000000 : Nat)) (Tree.need (ByteArray.size (es.getD i.toNat (CL.d [CK.str, CK.str])).fst ≤ (1000000 : Nat)) (Tree.need (Slf (some [AV.s (SV.str (es.getD i.toNat (CL.d [CK.str, CK.str])).snd.fst), AV.ptr (0 : Nat) (0 : Nat)])) (Tree.need (Slf (some [AObj.own [AV.vec (1 : Nat)] (35 : Nat), AObj.vec (Con.ints IntKind.u8 (zs ++ txt (es.getD i.toNat (CL.d [CK.str, CK.str])).fst)) (5 : Nat)])) (Tree.need ((zs ++ txt (es.getD i.toNat (CL.d [CK.str, CK.str])).fst).length ≤ (100000000 : Nat)) (Tree.need (ByteArray.size (es.getD i.toNat (CL.d [CK.str, CK.str])).snd.fst ≤ (1000000 : Nat)) (Tree.need (inI64 (i + (1 : Int))) (Tree.at (Cfg.mk (sl (64 : Nat) [((1 : Nat), AV.ptr (0 : Nat) (0 : Nat)), ((4 : Nat), AV.ptr (1 : Nat) (0 : Nat)), ((5 : Nat), AV.fn (47 : Nat) [AV.ptr (1 : Nat) (0 : Nat)]), ((25 : Nat), AV.s (SV.ro (Con.typ [CK.str, CK.str] es))), ((26 : Nat), AV.s (SV.int IntKind.i64 (↑es.length : Int))), ((27 : Nat), AV.s (SV.int IntKind.i64 (i + (1 : Int))))]) [AObj.own [AV.s (SV.bool l), AV.s (SV.ro (Con.typ [CK.str, CK.str] es)), AV.s (SV.ro (Con.typ [CK.str, CK.int IntKind.i64] bs))] (43 : Nat), AObj.own [AV.vec (2 : Nat)] (35 : Nat), AObj.vec (Con.ints IntKind.u8 (zs ++ txt (es.getD i.toNat (CL.d [CK.str, CK.str])).fst ++ txt (es.getD i.toNat (CL.d [CK.str, CK.str])).snd.fst)) (5 : Nat)] (hd Try.f17 (10 : Nat)) (Stk.mk none false (0 : Nat) [] (0 : Nat))))))))))))))) (Tree.at (Cfg.mk (sl (64 : Nat) [((4 : Nat), AV.ptr (0 : Nat) (0 : Nat)), ((5 : Nat), AV.fn (47 : Nat) [AV.ptr (0 : Nat) (0 : Nat)]), ((41 : Nat), AV.s (SV.ro (Con.typ [CK.str, CK.int IntKind.i64] bs))), ((42 : Nat), AV.s (SV.int IntKind.i64 (↑bs.length : Int))), ((43 : Nat), AV.s (SV.int IntKind.i64 (0 : Int)))]) [AObj.own [AV.vec (1 : Nat)] (35 : Nat), AObj.vec (Con.ints IntKind.u8 zs) (5 : Nat)] (hd Try.f17 (16 : Nat)) (Stk.mk none false (0 : Nat) [] (0 : Nat)))) := by kernel_rfl
theorem loopEnc2 (bs : List Br) (zs : List Int) (i : Int) : run P tabEnc.sum Try.f17 nsEnc (cEnc2 bs zs i) =
  Tree.ite (decide (i < (↑bs.length : Int))) (Tree.need ((0 : Int) ≤ i) (Tree.need (i < (↑bs.length : Int)) (Tree.need (Slf (some [AV.s (SV.str (bs.getD i.toNat (CL.d [CK.str, CK.int IntKind.i64])).fst), AV.ptr (0 : Nat) (0 : Nat)])) (Tree.need (Slf (some [AObj.own [AV.vec (1 : Nat)] (35 : Nat), AObj.vec (Con.ints IntKind.u8 zs) (5 : Nat)])) (Tree.need (zs.length ≤ (100000000 : Nat)) (Tree.need (ByteArray.size (bs.getD i.toNat (CL.d [CK.str, CK.int IntKind.i64])).fst ≤ (1000000 : Nat)) (Tree.need ((0 : Int) ≤ (8 : Int)) (Tree.need ((zs ++ txt (bs.getD i.toNat (CL.d [CK.str, CK.int IntKind.i64])).fst).length + (2 : Nat) ≤ (4294967296 : Nat)) (Tree.need (inI64 (i + (1 : Int))) (Tree.at (Cfg.mk (sl (64 : Nat) [((4 : Nat), AV.ptr (0 : Nat) (0 : Nat)), ((5 : Nat), AV.fn (47 : Nat) [AV.ptr (0 : Nat) (0 : Nat)]), ((41 : Nat), AV.s (SV.ro (Con.typ [CK.str, CK.int IntKind.i64] bs))), ((42 : Nat), AV.s (SV.int IntKind.i64 (↑bs.length : Int))), ((43 : Nat), AV.s (SV.int IntKind.i64 (i + (1 : Int))))]) [AObj.own [AV.vec (1 : Nat)] (35 : Nat), AObj.vec (Con.ints IntKind.u8 (zs ++ txt (bs.getD i.toNat (CL.d [CK.str, CK.int IntKind.i64])).fst ++ [IntKind.u8.wrap (Int.fdiv (bs.getD i.toNat (CL.d [CK.str, CK.int IntKind.i64])).snd.fst ((2 : Int) ^ min (Int.toNat (8 : Int)) IntKind.i64.bits)), IntKind.u8.wrap (bs.getD i.toNat (CL.d [CK.str, CK.int IntKind.i64])).snd.fst])) (5 : Nat)] (hd Try.f17 (16 : Nat)) (Stk.mk none false (0 : Nat) [] (0 : Nat))))))))))))) (Tree.ret [AObj.own [AV.vec (1 : Nat)] (35 : Nat), AObj.vec (Con.ints IntKind.u8 zs) (5 : Nat)] (AV.tup [AV.s (SV.str (bytesStr zs)), AV.s (SV.ilit IntKind.i64 (0 : Int))])) := by kernel_rfl
theorem goS {Z : Glob} {X : Ctx} {t : Tab} {f : FuncId} {fn : Func} {ns : List (Nat × Norm)} {c : Cfg} {tr : Tree} {K : List AObj → AV → Prop} {L : List AObj} (hz : ZCtx Z X) (hX : X.H = lk L) (hm : ∀ x ∈ ns, L.length ≤ x.2.m) (hT : t.Ok P Z) (hf : P.funcs[f]? = some fn)
    (e : run P t.sum fn ns c = tr) (h : tr.Holds K (Safe P f X K)) : Safe P f X K c := safe_of_run (Tab.sOk hT) hz mixed hf (fun x hx id hid => by rw [hX]; exact List.getElem?_eq_none (Nat.le_trans (hm x hx) hid)) e h

theorem enc1_ok {Z : Glob} : FnS P Z 47 specEnc1 := by
  refine fnS_of_safe Try.func47 (by kernel_rfl) (fun x => Nat.le_of_ble_eq_true (by kernel_rfl)) ?_
  rintro ⟨(s : ByteArray), (zs : List Int)⟩ ⟨(h1 : zs.length ≤ 100000000), (h2 : s.size ≤ 1000000), _⟩ X hX hz
  have hs : s.data.toList.length = s.size := Array.length_toList
  refine goS hz hX (by simp) Tab.Ok.nil Try.func47 (treeEnc1 s zs) ⟨by omega, by simp only [List.length_append, List.length_map, List.length_singleton]; omega, ⟨[], [0], 2, []⟩, Nat.le_refl _, ?_⟩
  have e : zs ++ txt s = zs ++ [IntKind.u8.wrap (s.size : Int)] ++ bytesI s := by simp [txt]
  show Norm.run _ _ = some ⟨[AV.tup []], [.own [.vec 2] 35, .dead, .vec (.ints .u8 (zs ++ txt s)) 5], [], {}⟩
  rw [e]
  kernel_rfl

def encE (x : En) : List Int := txt x.1 ++ txt x.2.1
def encB (x : Br) : List Int := txt x.1 ++ [IntKind.u8.wrap (Int.fdiv x.2.1 (2 ^ min (Int.toNat 8) IntKind.i64.bits)), IntKind.u8.wrap x.2.1]
def encH (l : Bool) : List Int := [if l = true then 1 else 2]
def encZ (l : Bool) (es : List En) (bs : List Br) : List Int := encH l ++ es.flatMap encE ++ bs.flatMap encB
def encOk (l : Bool) (es : List En) (bs : List Br) : Bool := mayN l es bs && decide (sizeN es bs ≤ 254)
def encS (l : Bool) (es : List En) (bs : List Br) : ByteArray := if encOk l es bs = true then bytesStr (encZ l es bs) else ByteArray.empty
def encN (l : Bool) (es : List En) (bs : List Br) : Int := if mayN l es bs = true then (if sizeN es bs ≤ 254 then 0 else 40) else 4

theorem txt_length (s : ByteArray) : (txt s).length = s.size + 1 := by
  have hs : s.data.toList.length = s.size := Array.length_toList
  simp [txt, bytesI, hs]
theorem flat_snoc {α β : Type} {l : List α} {k : Nat} {d : α} (f : α → List β) (h : k < l.length) : (l.take k).flatMap f ++ f (l.getD k d) = (l.take (k + 1)).flatMap f := by
  rw [← take_snoc (d := d) h, List.flatMap_append]; simp
theorem flat_len {α β : Type} (f : α → List β) (m : Nat) : ∀ {l : List α}, (∀ x ∈ l, (f x).length ≤ m) → (l.flatMap f).length ≤ m * l.length
  | [], _ => by simp
  | x :: l, h => by
    have h1 := h x (by simp)
    have h2 := flat_len f m (l := l) (fun y hy => h y (by simp [hy]))
    simp only [List.flatMap_cons, List.length_append, List.length_cons, Nat.mul_add]
    omega
theorem encE_len {x : En} (h : x.1.size ≤ 1000 ∧ x.2.1.size ≤ 1000) : (encE x).length ≤ 2002 := by
  simp only [encE, List.length_append, txt_length]; omega
theorem encB_len {x : Br} (h : x.1.size ≤ 1000) : (encB x).length ≤ 1003 := by
  simp only [encB, List.length_append, txt_length, List.length_cons, List.length_nil]; omega

theorem tabEnc_ok {Z : Glob} : tabEnc.Ok P Z := Tab.Ok.cons may_ok.sum (Tab.Ok.cons fits_ok.sum (Tab.Ok.cons (enc1_ok.sum mEnc1) Tab.Ok.nil))

theorem encode_ok {Z : Glob} : FnOk P Z 17 [tNode] [tStr, tInt] (fun ((_, es, bs, ()), ()) => [smallE es, smallB bs]) (fun ((l, es, bs, ()), ()) => (encS l es bs, encN l es bs, ())) := by
  refine fnOk_of_safe Try.func17 (by kernel_rfl) (by kernel_rfl) ?_
  rintro ⟨⟨(l : Bool), (es : List En), (bs : List Br), ⟨⟩⟩, ⟨⟩⟩ _ ⟨(he : smallE es), (hb : smallB bs), _⟩ X hX hz
  have he1 := he.1
  have hb1 := hb.1
  show Safe P 17 X (Ends [tStr, tInt] (encS l es bs, encN l es bs, ())) _
  have second : encS l es bs = bytesStr (encZ l es bs) → encN l es bs = 0 → ∀ (n k : Nat), k + n = bs.length → Safe P 17 X (Ends [tStr, tInt] (encS l es bs, encN l es bs, ())) (cEnc2 bs (encH l ++ es.flatMap encE ++ (bs.take k).flatMap encB) (k : Int)) := by
    intro hS hN n
    induction n with
    | zero =>
      intro k hk
      refine go hz hX tabEnc_ok Try.func17 (loopEnc2 bs _ k) ⟨fun h => absurd (of_decide_eq_true h) (by omega), fun h => ?_⟩
      rw [List.take_of_length_le (by omega), hS, hN]
      exact ends_si
    | succ n ih =>
      intro k hk
      have hsz := small_getB hb k
      have hl1 : (es.flatMap encE).length ≤ 2002 * es.length := flat_len encE 2002 (fun x hx => encE_len (he.2 x hx))
      have hl2 : ((bs.take k).flatMap encB).length ≤ 1003 * (bs.take k).length := flat_len encB 1003 (fun x hx => encB_len (hb.2 x (List.mem_of_mem_take hx)))
      have hl3 : (bs.take k).length ≤ 1000 := by rw [List.length_take]; omega
      have hl : (encH l ++ es.flatMap encE ++ (bs.take k).flatMap encB).length ≤ 4000000 := by
        simp only [List.length_append, encH, List.length_singleton]; omega
      refine go hz hX tabEnc_ok Try.func17 (loopEnc2 bs _ k) ?_
      simp only [Int.toNat_natCast]
      refine ⟨fun h => ⟨by omega, by omega, trivial, trivial, by omega, ?_, by decide, ?_, ⟨by omega, by omega⟩, ?_⟩, fun h => absurd (of_decide_eq_false h) (by omega)⟩
      · show (bs.getD k dB).1.size ≤ 1000000
        omega
      · rw [List.length_append, txt_length]
        show _ + ((bs.getD k dB).1.size + 1) + 2 ≤ _
        omega
      · have := ih (k + 1) (by omega)
        rw [← flat_snoc (d := dB) encB (by omega), ← List.append_assoc] at this
        rw [List.append_assoc (encH l ++ es.flatMap encE ++ (bs.take k).flatMap encB)]
        exact this
  have first : encS l es bs = bytesStr (encZ l es bs) → encN l es bs = 0 → ∀ (n k : Nat), k + n = es.length → Safe P 17 X (Ends [tStr, tInt] (encS l es bs, encN l es bs, ())) (cEnc1 l es bs (encH l ++ (es.take k).flatMap encE) (k : Int)) := by
    intro hS hN n
    induction n with
    | zero =>
      intro k hk
      refine go hz hX tabEnc_ok Try.func17 (loopEnc1 l es bs _ k) ⟨fun h => absurd (of_decide_eq_true h) (by omega), fun h => ?_⟩
      rw [List.take_of_length_le (by omega)]
      have := second hS hN bs.length 0 (by omega)
      simp only [List.take_zero, List.flatMap_nil, List.append_nil] at this
      exact this
    | succ n ih =>
      intro k hk
      obtain ⟨hs1, hs2⟩ := small_getE he k
      have hl2 : ((es.take k).flatMap encE).length ≤ 2002 * (es.take k).length := flat_len encE 2002 (fun x hx => encE_len (he.2 x (List.mem_of_mem_take hx)))
      have hl3 : (es.take k).length ≤ 1000 := by rw [List.length_take]; omega
      have hl : (encH l ++ (es.take k).flatMap encE).length ≤ 4000000 := by
        simp only [List.length_append, encH, List.length_singleton]; omega
      refine go hz hX tabEnc_ok Try.func17 (loopEnc1 l es bs _ k) ?_
      simp only [Int.toNat_natCast]
      refine ⟨fun h => ⟨by omega, by omega, trivial, trivial, by omega, ?_, trivial, trivial, ?_, ?_, ⟨by omega, by omega⟩, ?_⟩, fun h => absurd (of_decide_eq_false h) (by omega)⟩
      · show (es.getD k dE).1.size ≤ 1000000
        omega
      · rw [List.length_append, txt_length]
        show _ + ((es.getD k dE).1.size + 1) ≤ _
        omega
      · show (es.getD k dE).2.1.size ≤ 1000000
        omega
      · have := ih (k + 1) (by omega)
        rw [← flat_snoc (d := dE) encE (by omega), ← List.append_assoc] at this
        rw [List.append_assoc (encH l ++ (es.take k).flatMap encE)]
        exact this
  refine go hz hX tabEnc_ok Try.func17 (treeEnc l es bs) ⟨fun h => ?_, fun h => ⟨he, hb, fun h2 => ?_, fun h2 => ?_⟩⟩
  · have h : mayN l es bs = false := by simpa using h
    have e1 : encS l es bs = ByteArray.empty := by simp [encS, encOk, h]
    have e2 : encN l es bs = 4 := by simp [encN, h]
    rw [e1, e2]; exact ends_si
  · have h : mayN l es bs = true := by simpa using h
    have h2 : ¬ sizeN es bs ≤ 254 := by simpa using h2
    have e1 : encS l es bs = ByteArray.empty := by simp [encS, encOk, h, h2]
    have e2 : encN l es bs = 40 := by simp [encN, h, h2]
    rw [e1, e2]; exact ends_si
  · have h : mayN l es bs = true := by simpa using h
    have h2 : sizeN es bs ≤ 254 := by simpa using h2
    have e1 : encS l es bs = bytesStr (encZ l es bs) := by simp [encS, encOk, h, h2]
    have e2 : encN l es bs = 0 := by simp [encN, h, h2]
    have st : Safe P 17 X (Ends [tStr, tInt] (encS l es bs, encN l es bs, ())) (cEnc0 l es bs (encH l)) := by
      refine go hz hX tabEnc_ok Try.func17 (stopEnc l es bs _) ?_
      have := first e1 e2 es.length 0 (by omega)
      simp only [List.take_zero, List.flatMap_nil, List.append_nil] at this
      exact this
    refine ⟨fun h3 => ⟨by decide, by decide, ?_⟩, fun h3 => ?_⟩
    · subst h3; exact st
    · subst h3; exact st
end Lf

namespace Lf
open Go Go.Sx Go.Proofs
abbrev sEnc := sumOf [tNode] [tStr, tInt] (fun ((_, es, bs, ()), ()) => [smallE es, smallB bs]) (fun ((l, es, bs, ()), ()) => (encS l es bs, encN l es bs, ()))
abbrev sPlace := sumOf [tBs, tStr] [tInt] (fun (l, _, ()) => [(l : List Br).length ≤ 1000000, srt (ksB l)]) (fun (l, key, ()) => (placeF l key, ()))
def tabAw : Tab := [(17, sEnc), (21, sSize), (53, sPlace)]
theorem treeAwake  : run P tabAw.sum Try.f22 [] (start Try.f22 [] []) =
  Tree.need (smallE [(ByteArray.mk #[(97 : UInt8)], ByteArray.mk #[(49 : UInt8)], ()), (ByteArray.mk #[(98 : UInt8)], ByteArray.mk #[(50 : UInt8), (50 : UInt8)], ())]) (Tree.need (smallB []) (Tree.ite true (Tree.ite true (Tree.need (smallE [(ByteArray.mk #[(97 : UInt8)], ByteArray.mk #[(49 : UInt8)], ()), (ByteArray.mk #[(98 : UInt8)], ByteArray.mk #[(50 : UInt8), (50 : UInt8)], ())]) (Tree.need (smallB []) (Tree.ite true (Tree.need ([(ByteArray.empty, (2 : Int), ()), (ByteArray.mk #[(98 : UInt8)], (3 : Int), ()), (ByteArray.mk #[(99 : UInt8)], (4 : Int), ())].length ≤ (1000000 : Nat)) (Tree.need (srt (ksB [(ByteArray.empty, (2 : Int), ()), (ByteArray.mk #[(98 : UInt8)], (3 : Int), ()), (ByteArray.mk #[(99 : UInt8)], (4 : Int), ())])) (Tree.ite true (Tree.need ([(ByteArray.empty, (2 : Int), ()), (ByteArray.mk #[(98 : UInt8)], (3 : Int), ()), (ByteArray.mk #[(99 : UInt8)], (4 : Int), ())].length ≤ (1000000 : Nat)) (Tree.need (srt (ksB [(ByteArray.empty, (2 : Int), ()), (ByteArray.mk #[(98 : UInt8)], (3 : Int), ()), (ByteArray.mk #[(99 : UInt8)], (4 : Int), ())])) (Tree.ret [AObj.vec (Con.typ [CK.str, CK.str] [(ByteArray.mk #[(97 : UInt8)], ByteArray.mk #[(49 : UInt8)], ()), (ByteArray.mk #[(98 : UInt8)], ByteArray.mk #[(50 : UInt8), (50 : UInt8)], ())]) (39 : Nat), AObj.own [AV.s (SV.blit true), AV.vec (0 : Nat), AV.emp] (43 : Nat), AObj.vec (Con.typ [CK.str, CK.int IntKind.i64] [(ByteArray.empty, (2 : Int), ()), (ByteArray.mk #[(98 : UInt8)], (3 : Int), ()), (ByteArray.mk #[(99 : UInt8)], (4 : Int), ())]) (45 : Nat)] (AV.s (SV.bool true))))) (Tree.ret [AObj.vec (Con.typ [CK.str, CK.str] [(ByteArray.mk #[(97 : UInt8)], ByteArray.mk #[(49 : UInt8)], ()), (ByteArray.mk #[(98 : UInt8)], ByteArray.mk #[(50 : UInt8), (50 : UInt8)], ())]) (39 : Nat), AObj.own [AV.s (SV.blit true), AV.vec (0 : Nat), AV.emp] (43 : Nat), AObj.vec (Con.typ [CK.str, CK.int IntKind.i64] [(ByteArray.empty, (2 : Int), ()), (ByteArray.mk #[(98 : UInt8)], (3 : Int), ()), (ByteArray.mk #[(99 : UInt8)], (4 : Int), ())]) (45 : Nat)] (AV.s (SV.blit false)))))) (Tree.ret [AObj.vec (Con.typ [CK.str, CK.str] [(ByteArray.mk #[(97 : UInt8)], ByteArray.mk #[(49 : UInt8)], ()), (ByteArray.mk #[(98 : UInt8)], ByteArray.mk #[(50 : UInt8), (50 : UInt8)], ())]) (39 : Nat), AObj.own [AV.s (SV.blit true), AV.vec (0 : Nat), AV.emp] (43 : Nat), AObj.vec (Con.typ [CK.str, CK.int IntKind.i64] [(ByteArray.empty, (2 : Int), ()), (ByteArray.mk #[(98 : UInt8)], (3 : Int), ()), (ByteArray.mk #[(99 : UInt8)], (4 : Int), ())]) (45 : Nat)] (AV.s (SV.blit false)))))) (Tree.ret [AObj.vec (Con.typ [CK.str, CK.str] [(ByteArray.mk #[(97 : UInt8)], ByteArray.mk #[(49 : UInt8)], ()), (ByteArray.mk #[(98 : UInt8)], ByteArray.mk #[(50 : UInt8), (50 : UInt8)], ())]) (39 : Nat), AObj.own [AV.s (SV.blit true), AV.vec (0 : Nat), AV.emp] (43 : Nat), AObj.vec (Con.typ [CK.str, CK.int IntKind.i64] [(ByteArray.empty, (2 : Int), ()), (ByteArray.mk #[(98 : UInt8)], (3 : Int), ()), (ByteArray.mk #[(99 : UInt8)], (4 : Int), ())]) (45 : Nat)] (AV.s (SV.blit false)))) (Tree.ret [AObj.vec (Con.typ [CK.str, CK.str] [(ByteArray.mk #[(97 : UInt8)], ByteArray.mk #[(49 : UInt8)], ()), (ByteArray.mk #[(98 : UInt8)], ByteArray.mk #[(50 : UInt8), (50 : UInt8)], ())]) (39 : Nat), AObj.own [AV.s (SV.blit true), AV.vec (0 : Nat), AV.emp] (43 : Nat), AObj.vec (Con.typ [CK.str, CK.int IntKind.i64] [(ByteArray.empty, (2 : Int), ()), (ByteArray.mk #[(98 : UInt8)], (3 : Int), ()), (ByteArray.mk #[(99 : UInt8)], (4 : Int), ())]) (45 : Nat)] (AV.s (SV.blit false))))) := by kernel_rfl
abbrev sLarge := sumOf [tRN] [tBool] (fun _ => []) (fun ((_, es, bs, ()), ()) => (largeN es bs, ()))
abbrev sGiven := sumOf [tRN] [tNode] (fun ((_, es, bs, ()), ()) => [(es : List En).length ≤ 100000, (bs : List Br).length ≤ 100000]) (fun (n, ()) => (n, ()))
abbrev sTrue := sumOf [] [tBool] (fun _ => []) (fun _ => (true, ()))
theorem yes_then {A B : Prop} (h : A) : (true = true → A) ∧ (true = false → B) := ⟨fun _ => h, fun h => (by cases h)⟩
theorem no_then {A B : Prop} (h : B) : (false = true → A) ∧ (false = false → B) := ⟨fun h => (by cases h), fun _ => h⟩

theorem srt_of_b {ks : List ByteArray} (h : ((List.range ks.length).all fun j => (List.range j).all fun i => slt (ks.getD i ByteArray.empty) (ks.getD j ByteArray.empty)) = true) : srt ks := by
  intro i j hij hj
  rw [all_range] at h
  have := h j hj
  rw [all_range] at this
  exact this i hij

theorem okB_step {bs : List Br} (h : okBs bs = true) {i : Nat} (hi : i + 1 < bs.length) : slt (bs.getD i dB).1 (bs.getD (i + 1) dB).1 = true := by
  have := all_range.1 h (i + 1) hi
  simp only [okB, Bool.not_eq_true', Bool.or_eq_false_iff, Bool.and_eq_false_iff, decide_eq_false_iff_not, Bool.not_eq_false'] at this
  have h2 := this.2
  rcases h2 with h2 | h2
  · omega
  · simpa using h2
theorem okE_step {es : List En} (h : okEs es = true) {i : Nat} (hi : i + 1 < es.length) : slt (es.getD i dE).1 (es.getD (i + 1) dE).1 = true := by
  have := all_range.1 h (i + 1) hi
  simp only [okE, Bool.not_eq_true', Bool.or_eq_false_iff, Bool.and_eq_false_iff, decide_eq_false_iff_not, Bool.not_eq_false'] at this
  have h2 := this.2
  rcases h2 with h2 | h2
  · omega
  · simpa using h2

theorem srt_of_step {ks : List ByteArray} (h : ∀ i, i + 1 < ks.length → slt (ks.getD i ByteArray.empty) (ks.getD (i + 1) ByteArray.empty) = true) : srt ks := by
  intro i j hij hj
  induction j with
  | zero => omega
  | succ j ih =>
    by_cases he : i = j
    · subst he; exact h i hj
    · exact slt_trans (ih (by omega) (by omega)) (h j hj)

theorem srtB {bs : List Br} (h : okBs bs = true) : srt (ksB bs) := srt_of_step fun i hi => by
  rw [List.length_map] at hi
  rw [map_getD bs keyB dB, map_getD bs keyB dB]
  exact okB_step h hi
theorem srtE {es : List En} (h : okEs es = true) : srt (ksE es) := srt_of_step fun i hi => by
  rw [List.length_map] at hi
  rw [map_getD es keyE dE, map_getD es keyE dE]
  exact okE_step h hi

theorem mayN_iff {l : Bool} {es : List En} {bs : List Br} (h : mayN l es bs = true) : (l = true → bs = []) ∧ (l = false → es = []) ∧ okEs es = true ∧ okBs bs = true := by
  simp only [mayN, Bool.and_eq_true, Bool.not_eq_true', Bool.or_eq_false_iff, Bool.and_eq_false_iff, decide_eq_false_iff_not] at h
  obtain ⟨⟨⟨h1, h2⟩, h3⟩, h4⟩ := h
  refine ⟨fun hl => ?_, fun hl => ?_, h3, h4⟩
  · subst hl
    rcases h1 with h1 | h1
    · cases h1
    · exact List.eq_nil_of_length_eq_zero (by omega)
  · subst hl
    rcases h2 with h2 | h2
    · cases h2
    · exact List.eq_nil_of_length_eq_zero (by omega)

/-! where lbP lies -/
theorem lbP_lt : ∀ {ks : List ByteArray} {key : ByteArray} {t : Nat}, t < lbP ks key → slt (ks.getD t ByteArray.empty) key = true
  | [], key, t, h => by simp [lbP] at h
  | k :: ks, key, t, h => by
    simp only [lbP, List.takeWhile] at h
    split at h
    · rename_i hk
      cases t with
      | zero => simpa using hk
      | succ t =>
        simp only [List.length_cons] at h
        simpa using lbP_lt (ks := ks) (key := key) (t := t) (by simp only [lbP]; omega)
    · simp at h
theorem lbP_at : ∀ {ks : List ByteArray} {key : ByteArray}, lbP ks key < ks.length → slt (ks.getD (lbP ks key) ByteArray.empty) key = false
  | [], key, h => by simp at h
  | k :: ks, key, h => by
    by_cases hk : slt k key = true
    · have e : lbP (k :: ks) key = lbP ks key + 1 := by simp [lbP, List.takeWhile, hk]
      rw [e] at h ⊢
      simpa using lbP_at (ks := ks) (key := key) (by simpa using h)
    · have hk : slt k key = false := by simpa using hk
      have e : lbP (k :: ks) key = 0 := by simp [lbP, List.takeWhile, hk]
      rw [e]
      simpa using hk
theorem lbP_ge {ks : List ByteArray} {key : ByteArray} (hs : srt ks) {t : Nat} (h1 : lbP ks key ≤ t) (h2 : t < ks.length) : slt (ks.getD t ByteArray.empty) key = false := by
  have h := lbP_at (ks := ks) (key := key) (by omega)
  by_cases he : t = lbP ks key
  · rw [he]; exact h
  · have h3 := hs (lbP ks key) t (by omega) h2
    cases h4 : slt (ks.getD t ByteArray.empty) key
    · rfl
    · rw [slt_trans h3 h4] at h; cases h
theorem atK_iff {ks : List ByteArray} {key : ByteArray} : atK ks key = true ↔ lbP ks key < ks.length ∧ ks.getD (lbP ks key) ByteArray.empty = key := by
  simp only [atK, decide_eq_true_eq]
  constructor
  · intro h
    have h1 := (List.getElem?_eq_some_iff.1 h).1
    exact ⟨h1, by simp [List.getD, h]⟩
  · rintro ⟨h1, h2⟩
    rw [getD_lt h1] at h2
    rw [List.getElem?_eq_getElem h1, h2]

/-- The place, told outright. -/
theorem place_spec {ks : List ByteArray} {key : ByteArray} (hs : srt ks) (h0 : ks ≠ []) : ∃ p : Nat, imax 0 (if atK ks key = true then (lbP ks key : Int) else (lbP ks key : Int) - 1) = (p : Int) ∧ p < ks.length ∧
    (p = 0 ∨ slt key (ks.getD p ByteArray.empty) = false) ∧ (∀ t, p < t → t < ks.length → slt key (ks.getD t ByteArray.empty) = true) := by
  have hlen : 0 < ks.length := by
    cases ks with
    | nil => exact absurd rfl h0
    | cons k ks => simp
  have hle := lbP_le ks key
  have up : ∀ t, lbP ks key ≤ t → t < ks.length → ks.getD t ByteArray.empty ≠ key → slt key (ks.getD t ByteArray.empty) = true := fun t h1 h2 h3 => slt_of_not (lbP_ge hs h1 h2) h3
  by_cases hk : atK ks key = true
  · obtain ⟨h1, h2⟩ := atK_iff.1 hk
    rw [if_pos hk]
    refine ⟨lbP ks key, by unfold imax; split <;> omega, h1, .inr (by rw [h2]; exact slt_irrefl key), fun t ht htl => ?_⟩
    rw [← h2]
    have := hs (lbP ks key) t ht htl
    rw [h2] at this ⊢
    exact this
  · rw [if_neg hk]
    have hne : ∀ t, lbP ks key ≤ t → t < ks.length → ks.getD t ByteArray.empty ≠ key := by
      intro t h1 h2 h3
      by_cases he : t = lbP ks key
      · subst he; exact hk (atK_iff.2 ⟨h2, h3⟩)
      · have h4 := hs (lbP ks key) t (by omega) h2
        rw [h3] at h4
        rw [lbP_at (by omega)] at h4
        cases h4
    rcases Nat.eq_zero_or_pos (lbP ks key) with hz | hz
    · refine ⟨0, by rw [hz]; rfl, hlen, .inl rfl, fun t ht htl => up t (by omega) htl (hne t (by omega) htl)⟩
    · refine ⟨lbP ks key - 1, by unfold imax; split <;> omega, by omega, .inr (slt_asymm (lbP_lt (by omega))), fun t ht htl => up t (by omega) htl (hne t (by omega) htl)⟩

theorem tabAw_ok {Z : Glob} : tabAw.Ok P Z := Tab.Ok.cons encode_ok.sum (Tab.Ok.cons size_ok.sum (Tab.Ok.cons place_ok.sum Tab.Ok.nil))
theorem awake_ok {Z : Glob} : FnOk P Z 22 [] [tBool] (fun _ => []) (fun _ => (true, ())) := by
  refine fnOk_of_safe Try.func22 (by kernel_rfl) (by kernel_rfl) ?_
  rintro ⟨⟩ _ _ X hX hz
  have h1 : smallE [(ByteArray.mk #[(97 : UInt8)], ByteArray.mk #[(49 : UInt8)], ()), (ByteArray.mk #[(98 : UInt8)], ByteArray.mk #[(50 : UInt8), (50 : UInt8)], ())] := ⟨by decide, by simp; decide⟩
  have h2 : smallB [] := ⟨by decide, by simp⟩
  have h3 : srt (ksB [(ByteArray.empty, 2, ()), (ByteArray.mk #[(98 : UInt8)], 3, ()), (ByteArray.mk #[(99 : UInt8)], 4, ())]) := srt_of_b (by kernel_rfl)
  exact go hz hX tabAw_ok Try.func22 treeAwake ⟨h1, h2, yes_then (yes_then ⟨h1, h2, yes_then ⟨by decide, h3, yes_then ⟨by decide, h3, ends_b⟩⟩⟩)⟩

theorem notLarge {es : List En} {bs : List Br} (h : largeN es bs = false) : es.length ≤ 200 ∧ bs.length ≤ 200 ∧ (∀ x ∈ es, x.1.size ≤ 300 ∧ x.2.1.size ≤ 300) ∧ ∀ x ∈ bs, x.1.size ≤ 300 := by
  simp only [largeN, Bool.or_eq_false_iff, decide_eq_false_iff_not] at h
  obtain ⟨⟨⟨h1, h2⟩, h3⟩, h4⟩ := h
  rw [List.any_eq_false] at h3 h4
  refine ⟨by omega, by omega, fun x hx => ?_, fun x hx => ?_⟩
  · obtain ⟨i, hi, rfl⟩ := List.getElem_of_mem hx
    have := h3 i (List.mem_range.2 hi)
    simp only [bigE, getD_lt hi, Bool.or_eq_true, decide_eq_true_eq, not_or] at this
    omega
  · obtain ⟨i, hi, rfl⟩ := List.getElem_of_mem hx
    have := h4 i (List.mem_range.2 hi)
    simp only [bigB, getD_lt hi, decide_eq_true_eq] at this
    omega
theorem smallE_of {es : List En} {bs : List Br} (h : largeN es bs = false) : smallE es := by
  obtain ⟨h1, _, h3, _⟩ := notLarge h
  exact ⟨by omega, fun x hx => by have := h3 x hx; omega⟩
theorem smallB_of {es : List En} {bs : List Br} (h : largeN es bs = false) : smallB bs := by
  obtain ⟨_, h1, _, h3⟩ := notLarge h
  exact ⟨by omega, fun x hx => by have := h3 x hx; omega⟩

end Lf

namespace Lf
open Go Go.Sx Go.Proofs
/-! ### equality -/
def nsEq : List (Nat × Norm) := [(4, ⟨[], [0, 1, 12, 13], 0, []⟩)]
def eqEs (a b : List En) : Bool := decide (a = b)
def eqBs (a b : List Br) : Bool := decide (a = b)
abbrev sEqE := sumOf [tEs, tEs] [tBool] (fun _ => []) (fun (a, b, ()) => (eqEs a b, ()))
abbrev sEqB := sumOf [tBs, tBs] [tBool] (fun _ => []) (fun (a, b, ()) => (eqBs a b, ()))
def tkT (k : Int) (s : ByteArray) : ByteArray := if k > (s.size : Int) then ByteArray.empty else s.extract 0 k.toNat
def tkB (k : Int) (s : ByteArray) : Bool := !decide (k > (s.size : Int))
def tkR (k : Int) (s : ByteArray) : ByteArray := if k > (s.size : Int) then s else s.extract k.toNat s.size
def specTake : Spec (Int × ByteArray) := ⟨fun x => [.s (.int .i64 x.1), .ptr 0 0], fun x => [.own [.s (.str x.2)] 9], fun x => [0 ≤ x.1], fun x => [.own [.s (.str (tkR x.1 x.2))] 9], fun x => .tup [.s (.str (tkT x.1 x.2)), .s (.bool (tkB x.1 x.2))]⟩
def mTake : List AV → RM ((Int × ByteArray) × List Nat)
  | [.s (.int .i64 k), .ptr id 0] => .look id fun
    | some (.own [.s (.str s)] _) => .ret ((k, s), [id])
    | _ => .fail "take: no text"
  | [.s (.ilit .i64 k), .ptr id 0] => .look id fun
    | some (.own [.s (.str s)] _) => .ret ((k, s), [id])
    | _ => .fail "take: no text"
  | _ => .fail "take"
theorem treeTake (k : Int) (s : ByteArray) : run P tab0.sum Try.f51 [] (start Try.f51 [.s (.int .i64 k), .ptr 0 0] [.own [.s (.str s)] 9]) =
  Tree.ite (decide (k > (↑s.size : Int))) (Tree.ret [AObj.own [AV.s (SV.str s)] (9 : Nat)] (AV.tup [AV.s (SV.str ByteArray.empty), AV.s (SV.blit false)])) (Tree.need ((0 : Int) ≤ (0 : Int)) (Tree.need ((0 : Int) ≤ k) (Tree.need (k ≤ (↑s.size : Int)) (Tree.need ((0 : Int) ≤ k) (Tree.need (k ≤ (↑s.size : Int)) (Tree.need ((↑s.size : Int) ≤ (↑s.size : Int)) (Tree.ret [AObj.own [AV.s (SV.str (s.extract k.toNat (↑s.size : Int).toNat))] (9 : Nat)] (AV.tup [AV.s (SV.str (s.extract (Int.toNat (0 : Int)) k.toNat)), AV.s (SV.blit true)])))))))) := by kernel_rfl
def rdK (s : ByteArray) : Int := byteAt (tkT 1 s) 0
def rdT (s : ByteArray) : ByteArray := if tkB 1 s = true then tkT (rdK s) (tkR 1 s) else ByteArray.empty
def rdB (s : ByteArray) : Bool := tkB 1 s && tkB (rdK s) (tkR 1 s)
def rdR (s : ByteArray) : ByteArray := if tkB 1 s = true then tkR (rdK s) (tkR 1 s) else tkR 1 s
def specText : Spec ByteArray := ⟨fun _ => [.ptr 0 0], fun s => [.own [.fn 51 [.ptr 1 0]] 104, .own [.s (.str s)] 9], fun _ => [], fun s => [.own [.fn 51 [.ptr 1 0]] 104, .own [.s (.str (rdR s))] 9], fun s => .tup [.s (.str (rdT s)), .s (.bool (rdB s))]⟩
def mText : List AV → RM (ByteArray × List Nat)
  | [.ptr id 0] => .look id fun
    | some (.own [.fn _ [.ptr j 0]] _) => .look j fun
      | some (.own [.s (.str s)] _) => .ret (s, [id, j])
      | _ => .fail "text: no text"
    | _ => .fail "text: no take"
  | _ => .fail "text"
def tabText : Tab := [(51, sumS specTake mTake)]
theorem treeText (s : ByteArray) : run P tabText.sum Try.f52 [] (start Try.f52 [.ptr 0 0] [.own [.fn 51 [.ptr 1 0]] 104, .own [.s (.str s)] 9]) =
  Tree.need (Slf (some [AV.s (SV.int IntKind.i64 (1 : Int)), AV.ptr (0 : Nat) (0 : Nat)])) (Tree.need (Slf (some [AObj.own [AV.s (SV.str s)] (9 : Nat)])) (Tree.need ((0 : Int) ≤ (1 : Int)) (Tree.ite (!tkB (1 : Int) s) (Tree.ret [AObj.own [AV.fn (51 : Nat) [AV.ptr (1 : Nat) (0 : Nat)]] (104 : Nat), AObj.own [AV.s (SV.str (tkR (1 : Int) s))] (9 : Nat)] (AV.tup [AV.s (SV.str ByteArray.empty), AV.s (SV.blit false)])) (Tree.need ((0 : Int) ≤ (0 : Int)) (Tree.need ((0 : Int) < (↑(tkT (1 : Int) s).size : Int)) (Tree.need (inI64 (byteAt (tkT (1 : Int) s) (Int.toNat (0 : Int)))) (Tree.need (Slf (some [AV.s (SV.int IntKind.i64 (byteAt (tkT (1 : Int) s) (Int.toNat (0 : Int)))), AV.ptr (0 : Nat) (0 : Nat)])) (Tree.need (Slf (some [AObj.own [AV.s (SV.str (tkR (1 : Int) s))] (9 : Nat)])) (Tree.need ((0 : Int) ≤ byteAt (tkT (1 : Int) s) (Int.toNat (0 : Int))) (Tree.ret [AObj.own [AV.fn (51 : Nat) [AV.ptr (1 : Nat) (0 : Nat)]] (104 : Nat), AObj.own [AV.s (SV.str (tkR (byteAt (tkT (1 : Int) s) (Int.toNat (0 : Int))) (tkR (1 : Int) s)))] (9 : Nat)] (AV.tup [AV.s (SV.str (tkT (byteAt (tkT (1 : Int) s) (Int.toNat (0 : Int))) (tkR (1 : Int) s))), AV.s (SV.bool (tkB (byteAt (tkT (1 : Int) s) (Int.toNat (0 : Int))) (tkR (1 : Int) s)))]))))))))))) := by kernel_rfl
def tabDec : Tab := [(51, sumS specTake mTake), (52, sumS specText mText), (19, sMay)]
def nsDec : List (Nat × Norm) := [(7, ⟨[], [1, 2], 0, []⟩), (11, ⟨[], [1, 2, 4, 5, 6], 0, [(2, 1, false, .typ cE [], eE), (2, 2, false, .typ cB [], eB)]⟩), (22, ⟨[], [1, 2, 4, 5, 6, 8], 0, []⟩)]
def obZ : AObj := .own [.s (.bool false), .emp, .emp] 43
noncomputable def cDec0 (s : ByteArray) : Cfg := ⟨sl 93 [(1, .ptr 0 0), (2, .ptr 1 0)], [.own [.s (.str s)] 9, obZ], hr Try.f20 7, {}⟩
noncomputable def cDec (s : ByteArray) (l : Bool) (es : List En) (bs : List Br) : Cfg := ⟨sl 93 [(1, .ptr 0 0), (2, .ptr 1 0), (4, .ptr 2 0), (5, .ptr 3 0), (6, .fn 52 [.ptr 3 0])], [.own [.s (.str s)] 9, obZ, .own [.s (.bool l), .vec 4, .vec 5] 43, .own [.fn 51 [.ptr 0 0]] 104, .vec (.typ cE es) eE, .vec (.typ cB bs) eB], hd Try.f20 11, {}⟩
noncomputable def cDec1 (s : ByteArray) (l : Bool) (es : List En) (bs : List Br) (is : Bool) : Cfg := ⟨sl 93 [(1, .ptr 0 0), (2, .ptr 1 0), (4, .ptr 2 0), (5, .ptr 3 0), (6, .fn 52 [.ptr 3 0]), (8, .s (.bool is))], [.own [.s (.str s)] 9, obZ, .own [.s (.bool l), .vec 4, .vec 5] 43, .own [.fn 51 [.ptr 0 0]] 104, .vec (.typ cE es) eE, .vec (.typ cB bs) eB], hr Try.f20 22, {}⟩
theorem treeDec (s : ByteArray) : run P tabDec.sum Try.f20 nsDec (start Try.f20 [.s (.str s)] []) =
  Tree.ite (decide ((↑s.size : Int) > (254 : Int))) (Tree.ret [AObj.own [AV.s (SV.str s)] (9 : Nat), AObj.own [AV.s (SV.blit false), AV.emp, AV.emp] (43 : Nat)] (AV.tup [AV.agg [AV.s (SV.blit false), AV.emp, AV.emp], AV.s (SV.ilit IntKind.i64 (40 : Int))])) (Tree.ite (decide (s = ByteArray.empty)) (Tree.ret [AObj.own [AV.s (SV.str s)] (9 : Nat), AObj.own [AV.s (SV.blit false), AV.emp, AV.emp] (43 : Nat)] (AV.tup [AV.agg [AV.s (SV.blit false), AV.emp, AV.emp], AV.s (SV.ilit IntKind.i64 (8 : Int))])) (Tree.need ((0 : Int) ≤ (0 : Int)) (Tree.need ((0 : Int) < (↑s.size : Int)) (Tree.ite (byteAt s (Int.toNat (0 : Int)) != (1 : Int)) (Tree.need ((0 : Int) ≤ (0 : Int)) (Tree.need ((0 : Int) < (↑s.size : Int)) (Tree.ite (byteAt s (Int.toNat (0 : Int)) != (2 : Int)) (Tree.ret [AObj.own [AV.s (SV.str s)] (9 : Nat), AObj.own [AV.s (SV.blit false), AV.emp, AV.emp] (43 : Nat)] (AV.tup [AV.agg [AV.s (SV.blit false), AV.emp, AV.emp], AV.s (SV.ilit IntKind.i64 (4 : Int))])) (Tree.at (Cfg.mk (sl (93 : Nat) [((1 : Nat), AV.ptr (0 : Nat) (0 : Nat)), ((2 : Nat), AV.ptr (1 : Nat) (0 : Nat))]) [AObj.own [AV.s (SV.str s)] (9 : Nat), AObj.own [AV.s (SV.bool false), AV.emp, AV.emp] (43 : Nat)] (hr Try.f20 (7 : Nat)) (Stk.mk none false (0 : Nat) [] (0 : Nat))))))) (Tree.at (Cfg.mk (sl (93 : Nat) [((1 : Nat), AV.ptr (0 : Nat) (0 : Nat)), ((2 : Nat), AV.ptr (1 : Nat) (0 : Nat))]) [AObj.own [AV.s (SV.str s)] (9 : Nat), AObj.own [AV.s (SV.bool false), AV.emp, AV.emp] (43 : Nat)] (hr Try.f20 (7 : Nat)) (Stk.mk none false (0 : Nat) [] (0 : Nat)))))))) := by kernel_rfl
theorem stopDec0 (s : ByteArray) : run P tabDec.sum Try.f20 nsDec (cDec0 s) =
  Tree.need ((0 : Int) ≤ (0 : Int)) (Tree.need ((0 : Int) < (↑s.size : Int)) (Tree.need ((0 : Int) ≤ (1 : Int)) (Tree.need ((1 : Int) ≤ (↑s.size : Int)) (Tree.need ((↑s.size : Int) ≤ (↑s.size : Int)) (Tree.at (Cfg.mk (sl (93 : Nat) [((1 : Nat), AV.ptr (0 : Nat) (0 : Nat)), ((2 : Nat), AV.ptr (1 : Nat) (0 : Nat)), ((4 : Nat), AV.ptr (2 : Nat) (0 : Nat)), ((5 : Nat), AV.ptr (3 : Nat) (0 : Nat)), ((6 : Nat), AV.fn (52 : Nat) [AV.ptr (3 : Nat) (0 : Nat)])]) [AObj.own [AV.s (SV.str (s.extract (Int.toNat (1 : Int)) (↑s.size : Int).toNat))] (9 : Nat), AObj.own [AV.s (SV.bool false), AV.emp, AV.emp] (43 : Nat), AObj.own [AV.s (SV.bool (byteAt s (Int.toNat (0 : Int)) == (1 : Int))), AV.vec (4 : Nat), AV.vec (5 : Nat)] (43 : Nat), AObj.own [AV.fn (51 : Nat) [AV.ptr (0 : Nat) (0 : Nat)]] (104 : Nat), AObj.vec (Con.typ [CK.str, CK.str] []) (39 : Nat), AObj.vec (Con.typ [CK.str, CK.int IntKind.i64] []) (45 : Nat)] (hd Try.f20 (11 : Nat)) (Stk.mk none false (0 : Nat) [] (0 : Nat)))))))) := by kernel_rfl
theorem loopDec (s : ByteArray) (l : Bool) (es : List En) (bs : List Br) : run P tabDec.sum Try.f20 nsDec (cDec s l es bs) =
  Tree.ite (!decide (s = ByteArray.empty))
  (Tree.need (Slf (some [AV.ptr (0 : Nat) (0 : Nat)]))
    (Tree.need (Slf (some [AObj.own [AV.fn (51 : Nat) [AV.ptr (1 : Nat) (0 : Nat)]] (104 : Nat), AObj.own [AV.s (SV.str s)] (9 : Nat)]))
      (Tree.ite l
        (Tree.ite (rdB s) (Tree.need (Slf (some [AV.ptr (0 : Nat) (0 : Nat)])) (Tree.need (Slf (some [AObj.own [AV.fn (51 : Nat) [AV.ptr (1 : Nat) (0 : Nat)]] (104 : Nat), AObj.own [AV.s (SV.str (rdR s))] (9 : Nat)])) (Tree.need (es.length + (1 : Nat) ≤ (4294967296 : Nat)) (Tree.at (Cfg.mk (sl (93 : Nat) [((1 : Nat), AV.ptr (0 : Nat) (0 : Nat)), ((2 : Nat), AV.ptr (1 : Nat) (0 : Nat)), ((4 : Nat), AV.ptr (2 : Nat) (0 : Nat)), ((5 : Nat), AV.ptr (3 : Nat) (0 : Nat)), ((6 : Nat), AV.fn (52 : Nat) [AV.ptr (3 : Nat) (0 : Nat)]), ((8 : Nat), AV.s (SV.bool (rdB (rdR s))))]) [AObj.own [AV.s (SV.str (rdR (rdR s)))] (9 : Nat), AObj.own [AV.s (SV.bool false), AV.emp, AV.emp] (43 : Nat), AObj.own [AV.s (SV.bool l), AV.vec (4 : Nat), AV.vec (5 : Nat)] (43 : Nat), AObj.own [AV.fn (51 : Nat) [AV.ptr (0 : Nat) (0 : Nat)]] (104 : Nat), AObj.vec (Con.typ [CK.str, CK.str] (es ++ [(rdT s, rdT (rdR s), ())])) (39 : Nat), AObj.vec (Con.typ [CK.str, CK.int IntKind.i64] bs) (45 : Nat)] (hr Try.f20 (22 : Nat)) (Stk.mk none false (0 : Nat) [] (0 : Nat)))))))
          (Tree.ite (rdB s) (Tree.need (Slf (some [AV.s (SV.int IntKind.i64 (2 : Int)), AV.ptr (0 : Nat) (0 : Nat)])) (Tree.need (Slf (some [AObj.own [AV.s (SV.str (rdR s))] (9 : Nat)])) (Tree.need ((0 : Int) ≤ (2 : Int)) (Tree.ite (tkB (2 : Int) (rdR s)) (Tree.need ((0 : Int) ≤ (0 : Int)) (Tree.need ((0 : Int) < (↑(tkT (2 : Int) (rdR s)).size : Int)) (Tree.need (inI64 (byteAt (tkT (2 : Int) (rdR s)) (Int.toNat (0 : Int)))) (Tree.need ((0 : Int) ≤ (8 : Int)) (Tree.need ((0 : Int) ≤ (1 : Int)) (Tree.need ((1 : Int) < (↑(tkT (2 : Int) (rdR s)).size : Int)) (Tree.need (inI64 (byteAt (tkT (2 : Int) (rdR s)) (Int.toNat (1 : Int)))) (Tree.need (bs.length + (1 : Nat) ≤ (4294967296 : Nat)) (Tree.at (Cfg.mk (sl (93 : Nat) [((1 : Nat), AV.ptr (0 : Nat) (0 : Nat)), ((2 : Nat), AV.ptr (1 : Nat) (0 : Nat)), ((4 : Nat), AV.ptr (2 : Nat) (0 : Nat)), ((5 : Nat), AV.ptr (3 : Nat) (0 : Nat)), ((6 : Nat), AV.fn (52 : Nat) [AV.ptr (3 : Nat) (0 : Nat)]), ((8 : Nat), AV.s (SV.bool (tkB (2 : Int) (rdR s))))]) [AObj.own [AV.s (SV.str (tkR (2 : Int) (rdR s)))] (9 : Nat), AObj.own [AV.s (SV.bool false), AV.emp, AV.emp] (43 : Nat), AObj.own [AV.s (SV.bool l), AV.vec (4 : Nat), AV.vec (5 : Nat)] (43 : Nat), AObj.own [AV.fn (51 : Nat) [AV.ptr (0 : Nat) (0 : Nat)]] (104 : Nat), AObj.vec (Con.typ [CK.str, CK.str] es) (39 : Nat), AObj.vec (Con.typ [CK.str, CK.int IntKind.i64] (bs ++ [(rdT s, bitop BinOp.or IntKind.i64 (IntKind.i64.wrap (byteAt (tkT (2 : Int) (rdR s)) (Int.toNat (0 : Int)) * (2 : Int) ^ min (Int.toNat (8 : Int)) IntKind.i64.bits)) (byteAt (tkT (2 : Int) (rdR s)) (Int.toNat (1 : Int))), ())])) (45 : Nat)] (hr Try.f20 (22 : Nat)) (Stk.mk none false (0 : Nat) [] (0 : Nat)))))))))))) (Tree.at (Cfg.mk (sl (93 : Nat) [((1 : Nat), AV.ptr (0 : Nat) (0 : Nat)), ((2 : Nat), AV.ptr (1 : Nat) (0 : Nat)), ((4 : Nat), AV.ptr (2 : Nat) (0 : Nat)), ((5 : Nat), AV.ptr (3 : Nat) (0 : Nat)), ((6 : Nat), AV.fn (52 : Nat) [AV.ptr (3 : Nat) (0 : Nat)]), ((8 : Nat), AV.s (SV.bool (tkB (2 : Int) (rdR s))))]) [AObj.own [AV.s (SV.str (tkR (2 : Int) (rdR s)))] (9 : Nat), AObj.own [AV.s (SV.bool false), AV.emp, AV.emp] (43 : Nat), AObj.own [AV.s (SV.bool l), AV.vec (4 : Nat), AV.vec (5 : Nat)] (43 : Nat), AObj.own [AV.fn (51 : Nat) [AV.ptr (0 : Nat) (0 : Nat)]] (104 : Nat), AObj.vec (Con.typ [CK.str, CK.str] es) (39 : Nat), AObj.vec (Con.typ [CK.str, CK.int IntKind.i64] bs) (45 : Nat)] (hr Try.f20 (22 : Nat)) (Stk.mk none false (0 : Nat) [] (0 : Nat)))))))) (Tree.at (Cfg.mk (sl (93 : Nat) [((1 : Nat), AV.ptr (0 : Nat) (0 : Nat)), ((2 : Nat), AV.ptr (1 : Nat) (0 : Nat)), ((4 : Nat), AV.ptr (2 : Nat) (0 : Nat)), ((5 : Nat), AV.ptr (3 : Nat) (0 : Nat)), ((6 : Nat), AV.fn (52 : Nat) [AV.ptr (3 : Nat) (0 : Nat)]), ((8 : Nat), AV.s (SV.bool (rdB s)))]) [AObj.own [AV.s (SV.str (rdR s))] (9 : Nat), AObj.own [AV.s (SV.bool false), AV.emp, AV.emp] (43 : Nat), AObj.own [AV.s (SV.bool l), AV.vec (4 : Nat), AV.vec (5 : Nat)] (43 : Nat), AObj.own [AV.fn (51 : Nat) [AV.ptr (0 : Nat) (0 : Nat)]] (104 : Nat), AObj.vec (Con.typ [CK.str, CK.str] es) (39 : Nat), AObj.vec (Con.typ [CK.str, CK.int IntKind.i64] bs) (45 : Nat)] (hr Try.f20 (22 : Nat)) (Stk.mk none false (0 : Nat) [] (0 : Nat))))))
        (Tree.ite (rdB s) (Tree.need (Slf (some [AV.s (SV.int IntKind.i64 (2 : Int)), AV.ptr (0 : Nat) (0 : Nat)])) (Tree.need (Slf (some [AObj.own [AV.s (SV.str (rdR s))] (9 : Nat)])) (Tree.need ((0 : Int) ≤ (2 : Int)) (Tree.ite (tkB (2 : Int) (rdR s)) (Tree.need ((0 : Int) ≤ (0 : Int)) (Tree.need ((0 : Int) < (↑(tkT (2 : Int) (rdR s)).size : Int)) (Tree.need (inI64 (byteAt (tkT (2 : Int) (rdR s)) (Int.toNat (0 : Int)))) (Tree.need ((0 : Int) ≤ (8 : Int)) (Tree.need ((0 : Int) ≤ (1 : Int)) (Tree.need ((1 : Int) < (↑(tkT (2 : Int) (rdR s)).size : Int)) (Tree.need (inI64 (byteAt (tkT (2 : Int) (rdR s)) (Int.toNat (1 : Int)))) (Tree.need (bs.length + (1 : Nat) ≤ (4294967296 : Nat)) (Tree.at (Cfg.mk (sl (93 : Nat) [((1 : Nat), AV.ptr (0 : Nat) (0 : Nat)), ((2 : Nat), AV.ptr (1 : Nat) (0 : Nat)), ((4 : Nat), AV.ptr (2 : Nat) (0 : Nat)), ((5 : Nat), AV.ptr (3 : Nat) (0 : Nat)), ((6 : Nat), AV.fn (52 : Nat) [AV.ptr (3 : Nat) (0 : Nat)]), ((8 : Nat), AV.s (SV.bool (tkB (2 : Int) (rdR s))))]) [AObj.own [AV.s (SV.str (tkR (2 : Int) (rdR s)))] (9 : Nat), AObj.own [AV.s (SV.bool false), AV.emp, AV.emp] (43 : Nat), AObj.own [AV.s (SV.bool l), AV.vec (4 : Nat), AV.vec (5 : Nat)] (43 : Nat), AObj.own [AV.fn (51 : Nat) [AV.ptr (0 : Nat) (0 : Nat)]] (104 : Nat), AObj.vec (Con.typ [CK.str, CK.str] es) (39 : Nat), AObj.vec (Con.typ [CK.str, CK.int IntKind.i64] (bs ++ [(rdT s, bitop BinOp.or IntKind.i64 (IntKind.i64.wrap (byteAt (tkT (2 : Int) (rdR s)) (Int.toNat (0 : Int)) * (2 : Int) ^ min (Int.toNat (8 : Int)) IntKind.i64.bits)) (byteAt (tkT (2 : Int) (rdR s)) (Int.toNat (1 : Int))), ())])) (45 : Nat)] (hr Try.f20 (22 : Nat)) (Stk.mk none false (0 : Nat) [] (0 : Nat)))))))))))) (Tree.at (Cfg.mk (sl (93 : Nat) [((1 : Nat), AV.ptr (0 : Nat) (0 : Nat)), ((2 : Nat), AV.ptr (1 : Nat) (0 : Nat)), ((4 : Nat), AV.ptr (2 : Nat) (0 : Nat)), ((5 : Nat), AV.ptr (3 : Nat) (0 : Nat)), ((6 : Nat), AV.fn (52 : Nat) [AV.ptr (3 : Nat) (0 : Nat)]), ((8 : Nat), AV.s (SV.bool (tkB (2 : Int) (rdR s))))]) [AObj.own [AV.s (SV.str (tkR (2 : Int) (rdR s)))] (9 : Nat), AObj.own [AV.s (SV.bool false), AV.emp, AV.emp] (43 : Nat), AObj.own [AV.s (SV.bool l), AV.vec (4 : Nat), AV.vec (5 : Nat)] (43 : Nat), AObj.own [AV.fn (51 : Nat) [AV.ptr (0 : Nat) (0 : Nat)]] (104 : Nat), AObj.vec (Con.typ [CK.str, CK.str] es) (39 : Nat), AObj.vec (Con.typ [CK.str, CK.int IntKind.i64] bs) (45 : Nat)] (hr Try.f20 (22 : Nat)) (Stk.mk none false (0 : Nat) [] (0 : Nat)))))))) (Tree.at (Cfg.mk (sl (93 : Nat) [((1 : Nat), AV.ptr (0 : Nat) (0 : Nat)), ((2 : Nat), AV.ptr (1 : Nat) (0 : Nat)), ((4 : Nat), AV.ptr (2 : Nat) (0 : Nat)), ((5 : Nat), AV.ptr (3 : Nat) (0 : Nat)), ((6 : Nat), AV.fn (52 : Nat) [AV.ptr (3 : Nat) (0 : Nat)]), ((8 : Nat), AV.s (SV.bool (rdB s)))]) [AObj.own [AV.s (SV.str (rdR s))] (9 : Nat), AObj.own [AV.s (SV.bool false), AV.emp, AV.emp] (43 : Nat), AObj.own [AV.s (SV.bool l), AV.vec (4 : Nat), AV.vec (5 : Nat)] (43 : Nat), AObj.own [AV.fn (51 : Nat) [AV.ptr (0 : Nat) (0 : Nat)]] (104 : Nat), AObj.vec (Con.typ [CK.str, CK.str] es) (39 : Nat), AObj.vec (Con.typ [CK.str, CK.int IntKind.i64] bs) (45 : Nat)] (hr Try.f20 (22 : Nat)) (Stk.mk none false (0 : Nat) [] (0 : Nat))))))))
  (Tree.ite (!mayN l es bs) (Tree.ret [AObj.own [AV.s (SV.str s)] (9 : Nat), AObj.own [AV.s (SV.blit false), AV.emp, AV.emp] (43 : Nat), AObj.own [AV.s (SV.bool l), AV.vec (4 : Nat), AV.vec (5 : Nat)] (43 : Nat), AObj.own [AV.fn (51 : Nat) [AV.ptr (0 : Nat) (0 : Nat)]] (104 : Nat), AObj.vec (Con.typ [CK.str, CK.str] es) (39 : Nat), AObj.vec (Con.typ [CK.str, CK.int IntKind.i64] bs) (45 : Nat)] (AV.tup [AV.agg [AV.s (SV.blit false), AV.emp, AV.emp], AV.s (SV.ilit IntKind.i64 (4 : Int))])) (Tree.ret [AObj.own [AV.s (SV.str s)] (9 : Nat), AObj.own [AV.s (SV.bool l), AV.vec (4 : Nat), AV.vec (5 : Nat)] (43 : Nat), AObj.own [AV.s (SV.bool l), AV.vec (4 : Nat), AV.vec (5 : Nat)] (43 : Nat), AObj.own [AV.fn (51 : Nat) [AV.ptr (0 : Nat) (0 : Nat)]] (104 : Nat), AObj.vec (Con.typ [CK.str, CK.str] es) (39 : Nat), AObj.vec (Con.typ [CK.str, CK.int IntKind.i64] bs) (45 : Nat)] (AV.tup [AV.agg [AV.s (SV.bool l), AV.vec (4 : Nat), AV.vec (5 : Nat)], AV.s (SV.ilit IntKind.i64 (0 : Int))]))) := by kernel_rfl
theorem stopDec1 (s : ByteArray) (l : Bool) (es : List En) (bs : List Br) (is : Bool) : run P tabDec.sum Try.f20 nsDec (cDec1 s l es bs is) =
  Tree.ite (!is) (Tree.ret [AObj.own [AV.s (SV.str s)] (9 : Nat), AObj.own [AV.s (SV.blit false), AV.emp, AV.emp] (43 : Nat), AObj.own [AV.s (SV.bool l), AV.vec (4 : Nat), AV.vec (5 : Nat)] (43 : Nat), AObj.own [AV.fn (51 : Nat) [AV.ptr (0 : Nat) (0 : Nat)]] (104 : Nat), AObj.vec (Con.typ [CK.str, CK.str] es) (39 : Nat), AObj.vec (Con.typ [CK.str, CK.int IntKind.i64] bs) (45 : Nat)] (AV.tup [AV.agg [AV.s (SV.blit false), AV.emp, AV.emp], AV.s (SV.ilit IntKind.i64 (8 : Int))])) (Tree.at (Cfg.mk (sl (93 : Nat) [((1 : Nat), AV.ptr (0 : Nat) (0 : Nat)), ((2 : Nat), AV.ptr (1 : Nat) (0 : Nat)), ((4 : Nat), AV.ptr (2 : Nat) (0 : Nat)), ((5 : Nat), AV.ptr (3 : Nat) (0 : Nat)), ((6 : Nat), AV.fn (52 : Nat) [AV.ptr (3 : Nat) (0 : Nat)])]) [AObj.own [AV.s (SV.str s)] (9 : Nat), AObj.own [AV.s (SV.bool false), AV.emp, AV.emp] (43 : Nat), AObj.own [AV.s (SV.bool l), AV.vec (4 : Nat), AV.vec (5 : Nat)] (43 : Nat), AObj.own [AV.fn (51 : Nat) [AV.ptr (0 : Nat) (0 : Nat)]] (104 : Nat), AObj.vec (Con.typ [CK.str, CK.str] es) (39 : Nat), AObj.vec (Con.typ [CK.str, CK.int IntKind.i64] bs) (45 : Nat)] (hd Try.f20 (11 : Nat)) (Stk.mk none false (0 : Nat) [] (0 : Nat)))) := by kernel_rfl
theorem en_eq (x y : En) : (decide (x.1 = y.1) && (decide (x.2.1 = y.2.1) && true)) = decide (x = y) := by
  obtain ⟨a, b, ⟨⟩⟩ := x
  obtain ⟨c, d, ⟨⟩⟩ := y
  by_cases h1 : a = c <;> by_cases h2 : b = d <;> simp [h1, h2]
theorem br_eq (x y : Br) : (decide (x.1 = y.1) && ((x.2.1 == y.2.1) && true)) = decide (x = y) := by
  obtain ⟨a, b, ⟨⟩⟩ := x
  obtain ⟨c, d, ⟨⟩⟩ := y
  by_cases h1 : a = c <;> by_cases h2 : b = d <;> simp [h1, h2]

def sameN (l : Bool) (es : List En) (bs : List Br) (l' : Bool) (es' : List En) (bs' : List Br) : Bool := (l == l') && (eqEs es es' && eqBs bs bs')
theorem size_extract' (s : ByteArray) (i j : Nat) : (s.extract i j).size = min j s.size - i := by simp
theorem byteAt_range (s : ByteArray) (i : Nat) : 0 ≤ byteAt s i ∧ byteAt s i ≤ 255 := by
  have := (s.data.toList.getD i 0).toNat_lt
  unfold byteAt
  omega
theorem tkB_iff {k : Int} {s : ByteArray} : tkB k s = true ↔ k ≤ (s.size : Int) := by simp [tkB]
theorem tkT_size {k : Int} {s : ByteArray} (h0 : 0 ≤ k) (h : tkB k s = true) : ((tkT k s).size : Int) = k := by
  have h := tkB_iff.1 h
  rw [tkT, if_neg (by omega), size_extract']
  omega
theorem tkR_size {k : Int} {s : ByteArray} (h0 : 0 ≤ k) (h : tkB k s = true) : ((tkR k s).size : Int) = s.size - k := by
  have h := tkB_iff.1 h
  rw [tkR, if_neg (by omega), size_extract']
  omega
theorem tkR_le (k : Int) (s : ByteArray) : (tkR k s).size ≤ s.size := by
  unfold tkR
  split
  · exact Nat.le_refl _
  · rw [size_extract']; omega
theorem take_ok {Z : Glob} : FnS P Z 51 specTake := by
  refine fnS_of_safe Try.func51 (by kernel_rfl) (fun x => Nat.le_of_ble_eq_true (by kernel_rfl)) ?_
  rintro ⟨(k : Int), (s : ByteArray)⟩ ⟨(h1 : 0 ≤ k), _⟩ X hX hz
  refine goS hz hX (by simp) Tab.Ok.nil Try.func51 (treeTake k s) ⟨fun h => ⟨⟨[], [0], 1, []⟩, Nat.le_refl _, ?_⟩, fun h => ?_⟩
  · show Norm.run _ _ = some ⟨[.tup [.s (.str (tkT k s)), .s (.bool (tkB k s))]], [.own [.s (.str (tkR k s))] 9], [], {}⟩
    rw [tkT, tkR, tkB, if_pos (of_decide_eq_true h), if_pos (of_decide_eq_true h), h]
    kernel_rfl
  · have h2 := of_decide_eq_false h
    refine ⟨by omega, h1, by omega, h1, by omega, by omega, ⟨[], [0], 1, []⟩, Nat.le_refl _, ?_⟩
    show Norm.run _ _ = some ⟨[.tup [.s (.str (tkT k s)), .s (.bool (tkB k s))]], [.own [.s (.str (tkR k s))] 9], [], {}⟩
    rw [tkT, tkR, tkB, if_neg h2, if_neg h2, h]
    kernel_rfl
theorem tabText_ok {Z : Glob} : tabText.Ok P Z := Tab.Ok.cons (take_ok.sum mTake) Tab.Ok.nil
theorem text_ok {Z : Glob} : FnS P Z 52 specText := by
  refine fnS_of_safe Try.func52 (by kernel_rfl) (fun x => Nat.le_of_ble_eq_true (by kernel_rfl)) ?_
  rintro (s : ByteArray) _ X hX hz
  refine goS hz hX (by simp) tabText_ok Try.func52 (treeText s) ⟨rfl, rfl, by decide, fun h => ⟨⟨[], [0], 2, []⟩, Nat.le_refl _, ?_⟩, fun h => ?_⟩
  · have h : tkB 1 s = false := by simpa using h
    show Norm.run _ _ = some ⟨[.tup [.s (.str (rdT s)), .s (.bool (rdB s))]], [.own [.fn 51 [.ptr 1 0]] 104, .own [.s (.str (rdR s))] 9], [], {}⟩
    rw [rdT, rdR, rdB, h]
    kernel_rfl
  · have h : tkB 1 s = true := by simpa using h
    have h1 := tkT_size (by omega) h
    have h2 := byteAt_range (tkT 1 s) 0
    refine ⟨by decide, by omega, ⟨by show _ ≤ byteAt (tkT 1 s) 0; omega, by show byteAt (tkT 1 s) 0 ≤ _; omega⟩, rfl, rfl, h2.1, ⟨[], [0], 2, []⟩, Nat.le_refl _, ?_⟩
    show Norm.run _ _ = some ⟨[.tup [.s (.str (rdT s)), .s (.bool (rdB s))]], [.own [.fn 51 [.ptr 1 0]] 104, .own [.s (.str (rdR s))] 9], [], {}⟩
    rw [rdT, rdR, rdB, h]
    kernel_rfl
theorem tabDec_ok {Z : Glob} : tabDec.Ok P Z := Tab.Ok.cons (take_ok.sum mTake) (Tab.Ok.cons (text_ok.sum mText) (Tab.Ok.cons may_ok.sum Tab.Ok.nil))

theorem rdR_size {s : ByteArray} (h : rdB s = true) : (rdR s).size + 1 ≤ s.size := by
  simp only [rdB, Bool.and_eq_true] at h
  have h1 := tkR_size (by omega) h.1
  have h2 := tkR_le (rdK s) (tkR 1 s)
  rw [rdR, if_pos h.1]
  omega

/-! ### Decode -/
def pgOf (t : ByteArray) : Int := bitop BinOp.or IntKind.i64 (IntKind.i64.wrap (byteAt t (Int.toNat 0) * 2 ^ min (Int.toNat 8) IntKind.i64.bits)) (byteAt t (Int.toNat 1))
def decL (l : Bool) : Nat → ByteArray → List En → List Br → Int × List En × List Br
  | 0, _, es, bs => if mayN l es bs = true then (0, es, bs) else (4, [], [])
  | n + 1, s, es, bs =>
    if s = ByteArray.empty then (if mayN l es bs = true then (0, es, bs) else (4, [], []))
    else if rdB s = false then (8, [], [])
    else if l = true then (if rdB (rdR s) = true then decL l n (rdR (rdR s)) (es ++ [(rdT s, rdT (rdR s), ())]) bs else (8, [], []))
    else (if tkB 2 (rdR s) = true then decL l n (tkR 2 (rdR s)) es (bs ++ [(rdT s, pgOf (tkT 2 (rdR s)), ())]) else (8, [], []))
def decA (s : ByteArray) : Int × List En × List Br :=
  if (s.size : Int) > 254 then (40, [], []) else if s = ByteArray.empty then (8, [], []) else if byteAt s 0 ≠ 1 ∧ byteAt s 0 ≠ 2 then (4, [], [])
  else decL (byteAt s 0 == 1) s.size (s.extract 1 s.size) [] []
def decC (s : ByteArray) : Int := (decA s).1
def decE (s : ByteArray) : List En := (decA s).2.1
def decB (s : ByteArray) : List Br := (decA s).2.2
def decLf (s : ByteArray) : Bool := decide (decC s = 0) && (byteAt s 0 == 1)
abbrev decR (l : Bool) (r : Int × List En × List Br) : AL [tNode, tInt] := ((decide (r.1 = 0) && l, r.2.1, r.2.2, ()), r.1, ())
abbrev decY (s : ByteArray) : AL [tNode, tInt] := ((decLf s, decE s, decB s, ()), decC s, ())

theorem dec_ok {Z : Glob} : FnOk P Z 20 [tStr] [tNode, tInt] (fun _ => []) (fun (s, ()) => ((decLf s, decE s, decB s, ()), decC s, ())) := by
  refine fnOk_of_safe Try.func20 (by kernel_rfl) (by kernel_rfl) ?_
  rintro ⟨(s0 : ByteArray), ⟨⟩⟩ _ _ X hX hz
  show Safe P 20 X (Ends [tNode, tInt] (decY s0)) _
  have loop : ∀ (l : Bool) (n : Nat) (s : ByteArray) (es : List En) (bs : List Br), s.size ≤ n → es.length + bs.length + s.size ≤ 254 → decR l (decL l n s es bs) = decY s0 →
      Safe P 20 X (Ends [tNode, tInt] (decY s0)) (cDec s l es bs) := by
    intro l n
    induction n with
    | zero =>
      intro s es bs hn hb hy
      obtain rfl := size_zero (Nat.le_zero.1 hn)
      refine go hz hX tabDec_ok Try.func20 (loopDec ByteArray.empty l es bs) ⟨fun h => absurd h (by simp), fun _ => ⟨fun h => ?_, fun h => ?_⟩⟩
      · refine ends_eq ((false, [], [], ()), 4, ()) ?_ (by kernel_rfl)
        rw [← hy, decL, if_neg (by simpa using h)]; rfl
      · refine ends_eq ((l, es, bs, ()), 0, ()) ?_ (by kernel_rfl)
        rw [← hy, decL, if_pos (by simpa using h)]; rfl
    | succ n ih =>
      intro s es bs hn hb hy
      refine go hz hX tabDec_ok Try.func20 (loopDec s l es bs) ⟨fun h => ?_, fun h => ?_⟩
      · have h : s ≠ ByteArray.empty := by simpa using h
        have bad : decL l (n + 1) s es bs = (8, [], []) → ∀ (s' : ByteArray) (es' : List En) (bs' : List Br), Safe P 20 X (Ends [tNode, tInt] (decY s0)) (cDec1 s' l es' bs' false) := fun e s' es' bs' => by
          refine go hz hX tabDec_ok Try.func20 (stopDec1 s' l es' bs' false) ⟨fun _ => ?_, fun h => by cases h⟩
          refine ends_eq ((false, [], [], ()), 8, ()) ?_ (by kernel_rfl)
          rw [← hy, e]; rfl
        have cont : ∀ (s' : ByteArray) (es' : List En) (bs' : List Br), s'.size ≤ n → es'.length + bs'.length + s'.size ≤ 254 → decR l (decL l n s' es' bs') = decY s0 → Safe P 20 X (Ends [tNode, tInt] (decY s0)) (cDec1 s' l es' bs' true) := fun s' es' bs' h1 h2 h3 => by
          refine go hz hX tabDec_ok Try.func20 (stopDec1 s' l es' bs' true) ⟨fun h => (by cases h), fun _ => ih s' es' bs' h1 h2 h3⟩
        have hr := fun hB => rdR_size (s := s) hB
        refine ⟨rfl, rfl, fun hl => ⟨fun hB => ⟨rfl, rfl, by omega, ?_⟩, fun hB => ?_⟩, fun hl => ⟨fun hB => ⟨rfl, rfl, by decide, fun h2 => ?_, fun h2 => ?_⟩, fun hB => ?_⟩⟩
        · subst hl
          have hr := hr hB
          cases h2 : rdB (rdR s)
          · exact bad (by rw [decL, if_neg h, if_neg (by simp [hB]), if_pos rfl, if_neg (by simp [h2])]) _ _ _
          · have := rdR_size h2
            exact cont _ _ _ (by omega) (by simp only [List.length_append, List.length_cons, List.length_nil]; omega) (by rw [← hy, decL, if_neg h, if_neg (by simp [hB]), if_pos rfl, if_pos h2])
        · exact ⟨fun h => (by rw [hB] at h; cases h), fun _ => by rw [hB]; exact bad (by rw [decL, if_neg h, if_pos hB]) _ _ _⟩
        · subst hl
          have hr := hr hB
          have e1 := tkT_size (by decide) h2
          have e2 := tkR_size (by decide) h2
          have b0 := byteAt_range (tkT 2 (rdR s)) 0
          have b1 := byteAt_range (tkT 2 (rdR s)) 1
          refine ⟨by decide, by omega, ⟨by show _ ≤ byteAt _ 0; omega, by show byteAt _ 0 ≤ _; omega⟩, by decide, by decide, by omega, ⟨by show _ ≤ byteAt _ 1; omega, by show byteAt _ 1 ≤ _; omega⟩, by omega, ?_⟩
          rw [h2]
          exact cont _ _ _ (by omega) (by simp only [List.length_append, List.length_cons, List.length_nil]; omega) (by rw [← hy, decL, if_neg h, if_neg (by simp [hB]), if_neg (by simp), if_pos h2]; rfl)
        · subst hl
          rw [h2]
          exact bad (by rw [decL, if_neg h, if_neg (by simp [hB]), if_neg (by simp), if_neg (by simp [h2])]) _ _ _
        · rw [hB]
          exact bad (by rw [decL, if_neg h, if_pos hB]) _ _ _
      · have h : s = ByteArray.empty := by simpa using h
        refine ⟨fun h2 => ?_, fun h2 => ?_⟩
        · refine ends_eq ((false, [], [], ()), 4, ()) ?_ (by kernel_rfl)
          rw [← hy, decL, if_pos h, if_neg (by simpa using h2)]; rfl
        · refine ends_eq ((l, es, bs, ()), 0, ()) ?_ (by kernel_rfl)
          rw [← hy, decL, if_pos h, if_pos (by simpa using h2)]; rfl
  have first : (s0.size : Int) ≤ 254 → s0 ≠ ByteArray.empty → ¬ (byteAt s0 0 ≠ 1 ∧ byteAt s0 0 ≠ 2) → Safe P 20 X (Ends [tNode, tInt] (decY s0)) (cDec0 s0) := fun h1 h2 h3 => by
    have hp : 0 < s0.size := Nat.pos_of_ne_zero fun e => h2 (size_zero e)
    refine go hz hX tabDec_ok Try.func20 (stopDec0 s0) ⟨by omega, by omega, by omega, by omega, by omega, ?_⟩
    have e : decA s0 = decL (byteAt s0 0 == 1) s0.size (s0.extract 1 s0.size) [] [] := by rw [decA, if_neg (by omega), if_neg h2, if_neg h3]
    refine loop (byteAt s0 0 == 1) s0.size (s0.extract 1 s0.size) [] [] (by rw [size_extract']; omega) (by rw [size_extract']; simp only [List.length_nil]; omega) ?_
    rw [← e]; rfl
  have err : ∀ (c : Int) (hc : decide (c = 0) = false), decA s0 = (c, [], []) → decY s0 = ((false, [], [], ()), c, ()) := fun c hc e => by
    show ((decide ((decA s0).1 = 0) && (byteAt s0 0 == 1), (decA s0).2.1, (decA s0).2.2, ()), (decA s0).1, ()) = _
    rw [e, hc]; rfl
  refine go hz hX tabDec_ok Try.func20 (treeDec s0) ⟨fun h => ends_eq ((false, [], [], ()), 40, ()) (err 40 rfl ?_) (by kernel_rfl), fun h => ⟨fun h2 => ends_eq ((false, [], [], ()), 8, ()) (err 8 rfl ?_) (by kernel_rfl), fun h2 => ?_⟩⟩
  · rw [decA, if_pos (of_decide_eq_true h)]
  · rw [decA, if_neg (of_decide_eq_false h), if_pos (of_decide_eq_true h2)]
  · have h := of_decide_eq_false h
    have h2 := of_decide_eq_false h2
    have hp : 0 < s0.size := Nat.pos_of_ne_zero fun e => h2 (size_zero e)
    refine ⟨by omega, by omega, fun h3 => ⟨by omega, by omega, fun h4 => ends_eq ((false, [], [], ()), 4, ()) (err 4 rfl ?_) (by kernel_rfl), fun h4 => first (by omega) h2 ?_⟩, fun h3 => first (by omega) h2 ?_⟩
    · have h3 : byteAt s0 0 ≠ 1 := by simpa using h3
      have h4 : byteAt s0 0 ≠ 2 := by simpa using h4
      rw [decA, if_neg h, if_neg h2, if_pos ⟨h3, h4⟩]
    · have h4 : byteAt s0 0 = 2 := by simpa using h4
      exact fun e => e.2 h4
    · have h3 : byteAt s0 0 = 1 := by simpa using h3
      exact fun e => e.1 h3
end Lf

namespace Lf
open Go Go.Sx Go.Proofs
theorem treeClE (a : List En) : run P tab0.sum Try.f64 [] (start Try.f64 [.s (.ro (.typ cE a))] []) =
  Tree.both (a.length = (0 : Nat)) True (Tree.ret [] AV.emp) (Tree.need ((0 : Nat) + a.length ≤ (4294967296 : Nat)) (Tree.ret [AObj.dead, AObj.vec (Con.typ [CK.str, CK.str] ([] ++ a)) (39 : Nat)] (AV.vec (1 : Nat)))) := by kernel_rfl
theorem treeClB (a : List Br) : run P tab0.sum Try.f65 [] (start Try.f65 [.s (.ro (.typ cB a))] []) =
  Tree.both (a.length = (0 : Nat)) True (Tree.ret [] AV.emp) (Tree.need ((0 : Nat) + a.length ≤ (4294967296 : Nat)) (Tree.ret [AObj.dead, AObj.vec (Con.typ [CK.str, CK.int IntKind.i64] ([] ++ a)) (45 : Nat)] (AV.vec (1 : Nat)))) := by kernel_rfl
abbrev sClE := sumOf [tEs] [tEs] (fun (l, ()) => [(l : List En).length ≤ 100000]) (fun (l, ()) => (l, ()))
abbrev sClB := sumOf [tBs] [tBs] (fun (l, ()) => [(l : List Br).length ≤ 100000]) (fun (l, ()) => (l, ()))
def tabCut : Tab := [(64, sClE), (65, sClB)]
theorem treeCutE (a : List En) (k : Int) : run P tabCut.sum Try.f49 [] (start Try.f49 [.s (.ro (.typ cE a)), .s (.int .i64 k)] []) =
  Tree.ite ((↑a.length : Int) == (0 : Int)) (Tree.ret [] (AV.tup [AV.emp, AV.emp])) (Tree.need ((0 : Int) ≤ (0 : Int)) (Tree.need ((0 : Int) ≤ k) (Tree.need (k ≤ (↑a.length : Int)) (Tree.need ((List.drop (Int.toNat (0 : Int)) (List.take k.toNat a)).length ≤ (100000 : Nat)) (Tree.need ((0 : Int) ≤ k) (Tree.need (k ≤ (↑a.length : Int)) (Tree.need ((↑a.length : Int) ≤ (↑a.length : Int)) (Tree.need ((List.drop k.toNat (List.take (↑a.length : Int).toNat a)).length ≤ (100000 : Nat)) (Tree.ret [AObj.vec (Con.typ [CK.str, CK.str] (List.drop (Int.toNat (0 : Int)) (List.take k.toNat a))) (39 : Nat), AObj.vec (Con.typ [CK.str, CK.str] (List.drop k.toNat (List.take (↑a.length : Int).toNat a))) (39 : Nat)] (AV.tup [AV.vec (0 : Nat), AV.vec (1 : Nat)])))))))))) := by kernel_rfl
theorem treeCutB (a : List Br) (k : Int) : run P tabCut.sum Try.f50 [] (start Try.f50 [.s (.ro (.typ cB a)), .s (.int .i64 k)] []) =
  Tree.ite ((↑a.length : Int) == (0 : Int)) (Tree.ret [] (AV.tup [AV.emp, AV.emp])) (Tree.need ((0 : Int) ≤ (0 : Int)) (Tree.need ((0 : Int) ≤ k) (Tree.need (k ≤ (↑a.length : Int)) (Tree.need ((List.drop (Int.toNat (0 : Int)) (List.take k.toNat a)).length ≤ (100000 : Nat)) (Tree.need ((0 : Int) ≤ k) (Tree.need (k ≤ (↑a.length : Int)) (Tree.need ((↑a.length : Int) ≤ (↑a.length : Int)) (Tree.need ((List.drop k.toNat (List.take (↑a.length : Int).toNat a)).length ≤ (100000 : Nat)) (Tree.ret [AObj.vec (Con.typ [CK.str, CK.int IntKind.i64] (List.drop (Int.toNat (0 : Int)) (List.take k.toNat a))) (45 : Nat), AObj.vec (Con.typ [CK.str, CK.int IntKind.i64] (List.drop k.toNat (List.take (↑a.length : Int).toNat a))) (45 : Nat)] (AV.tup [AV.vec (0 : Nat), AV.vec (1 : Nat)])))))))))) := by kernel_rfl
abbrev sCutE := sumOf [tEs, tInt] [tEs, tEs] (fun (l, k, ()) => [(l : List En).length ≤ 100000, 0 ≤ (k : Int), (l = [] ∨ k ≤ (l.length : Int))]) (fun (l, k, ()) => (List.take (Int.toNat k) l, List.drop (Int.toNat k) l, ()))
abbrev sCutB := sumOf [tBs, tInt] [tBs, tBs] (fun (l, k, ()) => [(l : List Br).length ≤ 100000, 0 ≤ (k : Int), (l = [] ∨ k ≤ (l.length : Int))]) (fun (l, k, ()) => (List.take (Int.toNat k) l, List.drop (Int.toNat k) l, ()))
def tabSpl : Tab := [(48, sSizes), (19, sMay), (21, sSize), (49, sCutE), (50, sCutB)]
def nsSpl : List (Nat × Norm) := [(7, ⟨[], [1, 2, 3, 6, 7, 8, 9, 34, 35, 36], 0, []⟩)]
theorem treeSpl (l : Bool) (es : List En) (bs : List Br) : run P tabSpl.sum Try.f18 nsSpl (start Try.f18 [avN l es bs] []) =
  Tree.need (smallE es) (Tree.need (smallB bs) (Tree.ite (!mayN l es bs) (Tree.ret [AObj.own [AV.s (SV.bool l), AV.s (SV.ro (Con.typ [CK.str, CK.str] es)), AV.s (SV.ro (Con.typ [CK.str, CK.int IntKind.i64] bs))] (43 : Nat), AObj.own [AV.s (SV.blit false), AV.emp, AV.emp] (43 : Nat), AObj.own [AV.s (SV.blit false), AV.emp, AV.emp] (43 : Nat), AObj.vec (Con.ints IntKind.i64 (sizesF es bs)) (3 : Nat)] (AV.tup [AV.agg [AV.s (SV.blit false), AV.emp, AV.emp], AV.agg [AV.s (SV.blit false), AV.emp, AV.emp], AV.s (SV.ilit IntKind.i64 (4 : Int))])) (Tree.ite (decide ((↑(sizesF es bs).length : Int) < (2 : Int))) (Tree.ret [AObj.own [AV.s (SV.bool l), AV.s (SV.ro (Con.typ [CK.str, CK.str] es)), AV.s (SV.ro (Con.typ [CK.str, CK.int IntKind.i64] bs))] (43 : Nat), AObj.own [AV.s (SV.blit false), AV.emp, AV.emp] (43 : Nat), AObj.own [AV.s (SV.blit false), AV.emp, AV.emp] (43 : Nat), AObj.vec (Con.ints IntKind.i64 (sizesF es bs)) (3 : Nat)] (AV.tup [AV.agg [AV.s (SV.blit false), AV.emp, AV.emp], AV.agg [AV.s (SV.blit false), AV.emp, AV.emp], AV.s (SV.ilit IntKind.i64 (4 : Int))])) (Tree.need (smallE es) (Tree.need (smallB bs) (Tree.need (inI64 (sizeN es bs - (1 : Int))) (Tree.need (inI64 ((↑(sizesF es bs).length : Int) - (1 : Int))) (Tree.need ((0 : Int) ≤ (0 : Int)) (Tree.need ((0 : Int) ≤ (↑(sizesF es bs).length : Int) - (1 : Int)) (Tree.need ((↑(0 : Nat) : Int) + ((↑(sizesF es bs).length : Int) - (1 : Int)) ≤ (↑(sizesF es bs).length : Int)) (Tree.at (Cfg.mk (sl (87 : Nat) [((1 : Nat), AV.ptr (0 : Nat) (0 : Nat)), ((2 : Nat), AV.ptr (1 : Nat) (0 : Nat)), ((3 : Nat), AV.ptr (2 : Nat) (0 : Nat)), ((6 : Nat), AV.s (SV.int IntKind.i64 (0 : Int))), ((7 : Nat), AV.s (SV.int IntKind.i64 (sizeN es bs - (1 : Int)))), ((8 : Nat), AV.s (SV.int IntKind.i64 (0 : Int))), ((9 : Nat), AV.s (SV.int IntKind.i64 (0 : Int))), ((34 : Nat), AV.part (3 : Nat) (0 : Nat) (((↑(sizesF es bs).length : Int) - (1 : Int)).toNat - Int.toNat (0 : Int))), ((35 : Nat), AV.s (SV.int IntKind.i64 (↑(((↑(sizesF es bs).length : Int) - (1 : Int)).toNat - Int.toNat (0 : Int)) : Int))), ((36 : Nat), AV.s (SV.int IntKind.i64 (0 : Int)))]) [AObj.own [AV.s (SV.bool l), AV.s (SV.ro (Con.typ [CK.str, CK.str] es)), AV.s (SV.ro (Con.typ [CK.str, CK.int IntKind.i64] bs))] (43 : Nat), AObj.own [AV.s (SV.bool false), AV.emp, AV.emp] (43 : Nat), AObj.own [AV.s (SV.bool false), AV.emp, AV.emp] (43 : Nat), AObj.vec (Con.ints IntKind.i64 (sizesF es bs)) (3 : Nat)] (hd Try.f18 (7 : Nat)) (Stk.mk none false (0 : Nat) [] (0 : Nat)))))))))))))) := by kernel_rfl
def cutE (l : Bool) (es : List En) : List En := if l = true then es else []
def cutB (l : Bool) (bs : List Br) : List Br := if l = true then [] else bs
noncomputable def cSpl (l : Bool) (es : List En) (bs : List Br) (zs : List Int) (n : Nat) (first rest best least i : Int) : Cfg := ⟨sl 87 [(1, .ptr 0 0), (2, .ptr 1 0), (3, .ptr 2 0), (6, .s (.int .i64 first)), (7, .s (.int .i64 rest)), (8, .s (.int .i64 best)), (9, .s (.int .i64 least)), (34, .part 3 0 n), (35, .s (.int .i64 (n : Int))), (36, .s (.int .i64 i))],
  [obN l es bs 43, obZ, obZ, .vec (.ints .i64 zs) 3], hd Try.f18 7, {}⟩
theorem loopSpl (l : Bool) (es : List En) (bs : List Br) (zs : List Int) (n : Nat) (first rest best least i : Int) : run P tabSpl.sum Try.f18 nsSpl (cSpl l es bs zs n first rest best least i) =
  Tree.ite (decide (i < (↑n : Int))) (Tree.need ((0 : Int) ≤ i) (Tree.need (i < (↑n : Int)) (Tree.need (inI64 (first + zs.getD ((0 : Nat) + i.toNat) (0 : Int))) (Tree.need (inI64 (rest - zs.getD ((0 : Nat) + i.toNat) (0 : Int))) (Tree.ite (best == (0 : Int)) (Tree.need (inI64 (i + (1 : Int))) (Tree.need (inI64 (i + (1 : Int))) (Tree.at (Cfg.mk (sl (87 : Nat) [((1 : Nat), AV.ptr (0 : Nat) (0 : Nat)), ((2 : Nat), AV.ptr (1 : Nat) (0 : Nat)), ((3 : Nat), AV.ptr (2 : Nat) (0 : Nat)), ((6 : Nat), AV.s (SV.int IntKind.i64 (first + zs.getD ((0 : Nat) + i.toNat) (0 : Int)))), ((7 : Nat), AV.s (SV.int IntKind.i64 (rest - zs.getD ((0 : Nat) + i.toNat) (0 : Int)))), ((8 : Nat), AV.s (SV.int IntKind.i64 (i + (1 : Int)))), ((9 : Nat), AV.s (SV.int IntKind.i64 (imax (first + zs.getD ((0 : Nat) + i.toNat) (0 : Int)) (rest - zs.getD ((0 : Nat) + i.toNat) (0 : Int))))), ((34 : Nat), AV.part (3 : Nat) (0 : Nat) n), ((35 : Nat), AV.s (SV.int IntKind.i64 (↑n : Int))), ((36 : Nat), AV.s (SV.int IntKind.i64 (i + (1 : Int))))]) [AObj.own [AV.s (SV.bool l), AV.s (SV.ro (Con.typ [CK.str, CK.str] es)), AV.s (SV.ro (Con.typ [CK.str, CK.int IntKind.i64] bs))] (43 : Nat), AObj.own [AV.s (SV.bool false), AV.emp, AV.emp] (43 : Nat), AObj.own [AV.s (SV.bool false), AV.emp, AV.emp] (43 : Nat), AObj.vec (Con.ints IntKind.i64 zs) (3 : Nat)] (hd Try.f18 (7 : Nat)) (Stk.mk none false (0 : Nat) [] (0 : Nat)))))) (Tree.ite (decide (imax (first + zs.getD ((0 : Nat) + i.toNat) (0 : Int)) (rest - zs.getD ((0 : Nat) + i.toNat) (0 : Int)) < least)) (Tree.need (inI64 (i + (1 : Int))) (Tree.need (inI64 (i + (1 : Int))) (Tree.at (Cfg.mk (sl (87 : Nat) [((1 : Nat), AV.ptr (0 : Nat) (0 : Nat)), ((2 : Nat), AV.ptr (1 : Nat) (0 : Nat)), ((3 : Nat), AV.ptr (2 : Nat) (0 : Nat)), ((6 : Nat), AV.s (SV.int IntKind.i64 (first + zs.getD ((0 : Nat) + i.toNat) (0 : Int)))), ((7 : Nat), AV.s (SV.int IntKind.i64 (rest - zs.getD ((0 : Nat) + i.toNat) (0 : Int)))), ((8 : Nat), AV.s (SV.int IntKind.i64 (i + (1 : Int)))), ((9 : Nat), AV.s (SV.int IntKind.i64 (imax (first + zs.getD ((0 : Nat) + i.toNat) (0 : Int)) (rest - zs.getD ((0 : Nat) + i.toNat) (0 : Int))))), ((34 : Nat), AV.part (3 : Nat) (0 : Nat) n), ((35 : Nat), AV.s (SV.int IntKind.i64 (↑n : Int))), ((36 : Nat), AV.s (SV.int IntKind.i64 (i + (1 : Int))))]) [AObj.own [AV.s (SV.bool l), AV.s (SV.ro (Con.typ [CK.str, CK.str] es)), AV.s (SV.ro (Con.typ [CK.str, CK.int IntKind.i64] bs))] (43 : Nat), AObj.own [AV.s (SV.bool false), AV.emp, AV.emp] (43 : Nat), AObj.own [AV.s (SV.bool false), AV.emp, AV.emp] (43 : Nat), AObj.vec (Con.ints IntKind.i64 zs) (3 : Nat)] (hd Try.f18 (7 : Nat)) (Stk.mk none false (0 : Nat) [] (0 : Nat)))))) (Tree.need (inI64 (i + (1 : Int))) (Tree.at (Cfg.mk (sl (87 : Nat) [((1 : Nat), AV.ptr (0 : Nat) (0 : Nat)), ((2 : Nat), AV.ptr (1 : Nat) (0 : Nat)), ((3 : Nat), AV.ptr (2 : Nat) (0 : Nat)), ((6 : Nat), AV.s (SV.int IntKind.i64 (first + zs.getD ((0 : Nat) + i.toNat) (0 : Int)))), ((7 : Nat), AV.s (SV.int IntKind.i64 (rest - zs.getD ((0 : Nat) + i.toNat) (0 : Int)))), ((8 : Nat), AV.s (SV.int IntKind.i64 best)), ((9 : Nat), AV.s (SV.int IntKind.i64 least)), ((34 : Nat), AV.part (3 : Nat) (0 : Nat) n), ((35 : Nat), AV.s (SV.int IntKind.i64 (↑n : Int))), ((36 : Nat), AV.s (SV.int IntKind.i64 (i + (1 : Int))))]) [AObj.own [AV.s (SV.bool l), AV.s (SV.ro (Con.typ [CK.str, CK.str] es)), AV.s (SV.ro (Con.typ [CK.str, CK.int IntKind.i64] bs))] (43 : Nat), AObj.own [AV.s (SV.bool false), AV.emp, AV.emp] (43 : Nat), AObj.own [AV.s (SV.bool false), AV.emp, AV.emp] (43 : Nat), AObj.vec (Con.ints IntKind.i64 zs) (3 : Nat)] (hd Try.f18 (7 : Nat)) (Stk.mk none false (0 : Nat) [] (0 : Nat)))))))))))
  (Tree.need (es.length ≤ (100000 : Nat)) (Tree.need ((0 : tInt.V) ≤ best) (Tree.need (es = [] ∨ best ≤ (↑es.length : Int)) (Tree.need (bs.length ≤ (100000 : Nat)) (Tree.need ((0 : tInt.V) ≤ best) (Tree.need (bs = [] ∨ best ≤ (↑bs.length : Int)) (Tree.ret [AObj.own [AV.s (SV.bool l), AV.s (SV.ro (Con.typ [CK.str, CK.str] es)), AV.s (SV.ro (Con.typ [CK.str, CK.int IntKind.i64] bs))] (43 : Nat), AObj.own [AV.s (SV.bool l), AV.vec (6 : Nat), AV.vec (8 : Nat)] (43 : Nat), AObj.own [AV.s (SV.bool l), AV.vec (7 : Nat), AV.vec (9 : Nat)] (43 : Nat), AObj.vec (Con.ints IntKind.i64 zs) (3 : Nat), AObj.own [AV.s (SV.bool l), AV.vec (6 : Nat), AV.vec (8 : Nat)] (43 : Nat), AObj.own [AV.s (SV.bool l), AV.vec (7 : Nat), AV.vec (9 : Nat)] (43 : Nat), AObj.vec (Con.typ [CK.str, CK.str] (List.take best.toNat es)) (39 : Nat), AObj.vec (Con.typ [CK.str, CK.str] (List.drop best.toNat es)) (39 : Nat), AObj.vec (Con.typ [CK.str, CK.int IntKind.i64] (List.take best.toNat bs)) (45 : Nat), AObj.vec (Con.typ [CK.str, CK.int IntKind.i64] (List.drop best.toNat bs)) (45 : Nat)] (AV.tup [AV.agg [AV.s (SV.bool l), AV.vec (6 : Nat), AV.vec (8 : Nat)], AV.agg [AV.s (SV.bool l), AV.vec (7 : Nat), AV.vec (9 : Nat)], AV.s (SV.ilit IntKind.i64 (0 : Int))])))))))) := by kernel_rfl
theorem clE_ok {Z : Glob} : FnOk P Z 64 [tEs] [tEs] (fun (l, ()) => [(l : List En).length ≤ 100000]) (fun (l, ()) => (l, ())) := by
  refine fnOk_of_safe Try.func64 (by kernel_rfl) (by kernel_rfl) ?_
  rintro ⟨(l : List En), ⟨⟩⟩ _ ⟨(hl : l.length ≤ 100000), _⟩ X hX hz
  refine go hz hX Tab.Ok.nil Try.func64 (treeClE l) ⟨fun h => ?_, fun _ => ⟨by omega, ?_⟩⟩
  · obtain rfl := List.eq_nil_of_length_eq_zero h
    exact ends_eq ([], ()) rfl (by kernel_rfl)
  · exact ends_eq (l, ()) rfl (by kernel_rfl)
theorem clB_ok {Z : Glob} : FnOk P Z 65 [tBs] [tBs] (fun (l, ()) => [(l : List Br).length ≤ 100000]) (fun (l, ()) => (l, ())) := by
  refine fnOk_of_safe Try.func65 (by kernel_rfl) (by kernel_rfl) ?_
  rintro ⟨(l : List Br), ⟨⟩⟩ _ ⟨(hl : l.length ≤ 100000), _⟩ X hX hz
  refine go hz hX Tab.Ok.nil Try.func65 (treeClB l) ⟨fun h => ?_, fun _ => ⟨by omega, ?_⟩⟩
  · obtain rfl := List.eq_nil_of_length_eq_zero h
    exact ends_eq ([], ()) rfl (by kernel_rfl)
  · exact ends_eq (l, ()) rfl (by kernel_rfl)
theorem tabCut_ok {Z : Glob} : tabCut.Ok P Z := Tab.Ok.cons clE_ok.sum (Tab.Ok.cons clB_ok.sum Tab.Ok.nil)
theorem cutE_ok {Z : Glob} : FnOk P Z 49 [tEs, tInt] [tEs, tEs] (fun (l, k, ()) => [(l : List En).length ≤ 100000, 0 ≤ (k : Int), (l = [] ∨ k ≤ (l.length : Int))]) (fun (l, k, ()) => (List.take (Int.toNat k) l, List.drop (Int.toNat k) l, ())) := by
  refine fnOk_of_safe Try.func49 (by kernel_rfl) (by kernel_rfl) ?_
  rintro ⟨(l : List En), (k : Int), ⟨⟩⟩ _ ⟨(hl : l.length ≤ 100000), (h0 : 0 ≤ k), (hk : l = [] ∨ k ≤ (l.length : Int)), _⟩ X hX hz
  show Safe P 49 X (Ends [tEs, tEs] (l.take k.toNat, l.drop k.toNat, ())) _
  refine go hz hX tabCut_ok Try.func49 (treeCutE l k) ⟨fun h => ?_, fun h => ?_⟩
  · obtain rfl : l = [] := List.eq_nil_of_length_eq_zero (by have : (l.length : Int) = 0 := by simpa using h
                                                             omega)
    refine ends_eq (rs := [tEs, tEs]) ([], [], ()) ?_ (by kernel_rfl)
    show (List.take k.toNat ([] : List En), List.drop k.toNat ([] : List En), ()) = ([], [], ())
    rw [List.take_nil, List.drop_nil]
  · have hk : k ≤ (l.length : Int) := hk.elim (fun e => by subst e; simp at h) id
    have e1 : List.drop (Int.toNat 0) (List.take k.toNat l) = l.take k.toNat := rfl
    have e2 : List.drop k.toNat (List.take ((l.length : Int)).toNat l) = l.drop k.toNat := by rw [List.take_of_length_le (by omega)]
    refine ⟨by omega, h0, hk, ?_, h0, hk, by omega, ?_, ?_⟩
    · rw [e1, List.length_take]; omega
    · rw [e2, List.length_drop]; omega
    · exact ends_eq (List.drop (Int.toNat 0) (List.take k.toNat l), List.drop k.toNat (List.take ((l.length : Int)).toNat l), ()) (by rw [e2]; rfl) (by kernel_rfl)
theorem cutB_ok {Z : Glob} : FnOk P Z 50 [tBs, tInt] [tBs, tBs] (fun (l, k, ()) => [(l : List Br).length ≤ 100000, 0 ≤ (k : Int), (l = [] ∨ k ≤ (l.length : Int))]) (fun (l, k, ()) => (List.take (Int.toNat k) l, List.drop (Int.toNat k) l, ())) := by
  refine fnOk_of_safe Try.func50 (by kernel_rfl) (by kernel_rfl) ?_
  rintro ⟨(l : List Br), (k : Int), ⟨⟩⟩ _ ⟨(hl : l.length ≤ 100000), (h0 : 0 ≤ k), (hk : l = [] ∨ k ≤ (l.length : Int)), _⟩ X hX hz
  show Safe P 50 X (Ends [tBs, tBs] (l.take k.toNat, l.drop k.toNat, ())) _
  refine go hz hX tabCut_ok Try.func50 (treeCutB l k) ⟨fun h => ?_, fun h => ?_⟩
  · obtain rfl : l = [] := List.eq_nil_of_length_eq_zero (by have : (l.length : Int) = 0 := by simpa using h
                                                             omega)
    refine ends_eq (rs := [tBs, tBs]) ([], [], ()) ?_ (by kernel_rfl)
    show (List.take k.toNat ([] : List Br), List.drop k.toNat ([] : List Br), ()) = ([], [], ())
    rw [List.take_nil, List.drop_nil]
  · have hk : k ≤ (l.length : Int) := hk.elim (fun e => by subst e; simp at h) id
    have e1 : List.drop (Int.toNat 0) (List.take k.toNat l) = l.take k.toNat := rfl
    have e2 : List.drop k.toNat (List.take ((l.length : Int)).toNat l) = l.drop k.toNat := by rw [List.take_of_length_le (by omega)]
    refine ⟨by omega, h0, hk, ?_, h0, hk, by omega, ?_, ?_⟩
    · rw [e1, List.length_take]; omega
    · rw [e2, List.length_drop]; omega
    · exact ends_eq (List.drop (Int.toNat 0) (List.take k.toNat l), List.drop k.toNat (List.take ((l.length : Int)).toNat l), ()) (by rw [e2]; rfl) (by kernel_rfl)

/-! ### where a node is parted -/
def costS (zs : List Int) (k : Nat) : Int := imax (zs.take k).sum (zs.sum - (zs.take k).sum)
def splB (zs : List Int) : Nat → Nat × Int
  | 0 => (0, 0)
  | k + 1 => if (splB zs k).1 = 0 ∨ costS zs (k + 1) < (splB zs k).2 then (k + 1, costS zs (k + 1)) else splB zs k
theorem splB_le (zs : List Int) : ∀ k, (splB zs k).1 ≤ k
  | 0 => Nat.le_refl _
  | k + 1 => by
    have := splB_le zs k
    rw [splB]
    split
    · exact Nat.le_refl _
    · omega
theorem splB_pos (zs : List Int) : ∀ k, 0 < k → 0 < (splB zs k).1
  | 0, h => absurd h (by omega)
  | k + 1, _ => by
    rw [splB]
    split
    · exact Nat.succ_pos _
    · rename_i h
      exact Nat.pos_of_ne_zero (fun e => h (.inl e))
def bestS (es : List En) (bs : List Br) : Nat := (splB (sizesF es bs) (es.length + bs.length - 1)).1
def splOk (l : Bool) (es : List En) (bs : List Br) : Bool := mayN l es bs && decide (2 ≤ es.length + bs.length)
def spL (l : Bool) (es : List En) (bs : List Br) : Bool := splOk l es bs && l
def spE1 (l : Bool) (es : List En) (bs : List Br) : List En := if splOk l es bs = true then es.take (bestS es bs) else []
def spE2 (l : Bool) (es : List En) (bs : List Br) : List En := if splOk l es bs = true then es.drop (bestS es bs) else []
def spB1 (l : Bool) (es : List En) (bs : List Br) : List Br := if splOk l es bs = true then bs.take (bestS es bs) else []
def spB2 (l : Bool) (es : List En) (bs : List Br) : List Br := if splOk l es bs = true then bs.drop (bestS es bs) else []
def spC (l : Bool) (es : List En) (bs : List Br) : Int := if splOk l es bs = true then 0 else 4
abbrev spY (l : Bool) (es : List En) (bs : List Br) : AL [tNode, tNode, tInt] := ((spL l es bs, spE1 l es bs, spB1 l es bs, ()), (spL l es bs, spE2 l es bs, spB2 l es bs, ()), spC l es bs, ())
theorem spY_no {l : Bool} {es : List En} {bs : List Br} (h : splOk l es bs = false) : spY l es bs = ((false, [], [], ()), (false, [], [], ()), 4, ()) := by
  simp [spY, spL, spE1, spE2, spB1, spB2, spC, h]
  rfl
theorem spY_yes {l : Bool} {es : List En} {bs : List Br} (h : splOk l es bs = true) : spY l es bs = ((l, es.take (bestS es bs), bs.take (bestS es bs), ()), (l, es.drop (bestS es bs), bs.drop (bestS es bs), ()), 0, ()) := by
  simp [spY, spL, spE1, spE2, spB1, spB2, spC, h]
  rfl
theorem sizesF_len (es : List En) (bs : List Br) : (sizesF es bs).length = es.length + bs.length := by simp [sizesF]
theorem pre_range {zs : List Int} (h : ∀ x ∈ zs, 0 ≤ x ∧ x ≤ 2002) (hl : zs.length ≤ 2000) (k : Nat) : 0 ≤ (zs.take k).sum ∧ (zs.take k).sum ≤ 4004000 := by
  have := sum_range (l := zs.take k) (m := 2002) (fun x hx => h x (List.mem_of_mem_take hx)) (by omega)
  have h3 : (zs.take k).length ≤ 2000 := by rw [List.length_take]; omega
  omega

theorem split_ok {Z : Glob} : FnOk P Z 18 [tNode] [tNode, tNode, tInt] (fun ((_, es, bs, ()), ()) => [smallE es, smallB bs])
    (fun ((l, es, bs, ()), ()) => ((spL l es bs, spE1 l es bs, spB1 l es bs, ()), (spL l es bs, spE2 l es bs, spB2 l es bs, ()), spC l es bs, ())) := by
  refine fnOk_of_safe Try.func18 (by kernel_rfl) (by kernel_rfl) ?_
  rintro ⟨⟨(l : Bool), (es : List En), (bs : List Br), ⟨⟩⟩, ⟨⟩⟩ _ ⟨(he : smallE es), (hb : smallB bs), _⟩ X hX hz
  have hT : tabSpl.Ok P Z := Tab.Ok.cons sizes_ok.sum (Tab.Ok.cons may_ok.sum (Tab.Ok.cons size_ok.sum (Tab.Ok.cons cutE_ok.sum (Tab.Ok.cons cutB_ok.sum Tab.Ok.nil))))
  show Safe P 18 X (Ends [tNode, tNode, tInt] (spY l es bs)) _
  have hle := he.1
  have hlb := hb.1
  have hlen := sizesF_len es bs
  have hr := szs_range he hb
  have hpre := pre_range hr (by omega)
  have hsum := hpre (sizesF es bs).length
  rw [List.take_length] at hsum
  have hsz := sizeN_eq es bs
  have loop : splOk l es bs = true → ∀ (n k : Nat), k + n = es.length + bs.length - 1 → Safe P 18 X (Ends [tNode, tNode, tInt] (spY l es bs))
      (cSpl l es bs (sizesF es bs) (es.length + bs.length - 1) ((sizesF es bs).take k).sum ((sizesF es bs).sum - ((sizesF es bs).take k).sum) ((splB (sizesF es bs) k).1 : Int) (splB (sizesF es bs) k).2 (k : Int)) := by
    intro hok n
    have hok' := hok
    simp only [splOk, Bool.and_eq_true, decide_eq_true_eq] at hok'
    obtain ⟨hm, h2⟩ := hok'
    obtain ⟨m1, m2, m3, m4⟩ := mayN_iff hm
    induction n with
    | zero =>
      intro k hk
      have hle2 := splB_le (sizesF es bs) k
      have hE : es = [] ∨ ((splB (sizesF es bs) k).1 : Int) ≤ (es.length : Int) := by
        cases l
        · exact .inl (m2 rfl)
        · have := m1 rfl
          subst this
          simp only [List.length_nil] at hk
          exact .inr (by omega)
      have hB : bs = [] ∨ ((splB (sizesF es bs) k).1 : Int) ≤ (bs.length : Int) := by
        cases l
        · have := m2 rfl
          subst this
          simp only [List.length_nil] at hk
          exact .inr (by omega)
        · exact .inl (m1 rfl)
      refine go hz hX hT Try.func18 (loopSpl l es bs _ _ _ _ _ _ k) ⟨fun h => absurd (of_decide_eq_true h) (by omega), fun h => ⟨by omega, Int.natCast_nonneg _, hE, by omega, Int.natCast_nonneg _, hB, ?_⟩⟩
      have hbest : (splB (sizesF es bs) k).1 = bestS es bs := by rw [bestS, show k = es.length + bs.length - 1 from by omega]
      rw [hbest, spY_yes hok]
      exact ends_eq ((l, es.take (bestS es bs), bs.take (bestS es bs), ()), (l, es.drop (bestS es bs), bs.drop (bestS es bs), ()), 0, ()) rfl (by kernel_rfl)
    | succ n ih =>
      intro k hk
      have h1 := hpre k
      have h3 : 0 ≤ (sizesF es bs).getD k 0 ∧ (sizesF es bs).getD k 0 ≤ 2002 := by
        rw [getD_lt (by omega)]; exact hr _ (List.getElem_mem _)
      have hst := sum_take_snoc (l := sizesF es bs) (k := k) (by omega)
      have hc : imax (((sizesF es bs).take k).sum + (sizesF es bs).getD k 0) ((sizesF es bs).sum - ((sizesF es bs).take k).sum - (sizesF es bs).getD k 0) = costS (sizesF es bs) (k + 1) := by
        rw [costS, ← hst]; congr 1; omega
      have next := ih (k + 1) (by omega)
      rw [← hst, show (sizesF es bs).sum - (((sizesF es bs).take k).sum + (sizesF es bs).getD k 0) = (sizesF es bs).sum - ((sizesF es bs).take k).sum - (sizesF es bs).getD k 0 from by omega] at next
      refine go hz hX hT Try.func18 (loopSpl l es bs _ _ _ _ _ _ k) ?_
      simp only [Int.toNat_natCast, Nat.zero_add, hc]
      refine ⟨fun h => ⟨by omega, by omega, ⟨by omega, by omega⟩, ⟨by omega, by omega⟩, fun h0 => ?_, fun h0 => ⟨fun hlt => ?_, fun hlt => ?_⟩⟩, fun h => absurd (of_decide_eq_false h) (by omega)⟩
      · have h0 : (splB (sizesF es bs) k).1 = 0 := by have : ((splB (sizesF es bs) k).1 : Int) = 0 := by simpa using h0
                                                      omega
        rw [splB, if_pos (.inl h0)] at next
        exact ⟨⟨by omega, by omega⟩, ⟨by omega, by omega⟩, next⟩
      · rw [splB, if_pos (.inr (of_decide_eq_true hlt))] at next
        exact ⟨⟨by omega, by omega⟩, ⟨by omega, by omega⟩, next⟩
      · have h0 : ¬ ((splB (sizesF es bs) k).1 = 0 ∨ costS (sizesF es bs) (k + 1) < (splB (sizesF es bs) k).2) := by
          rintro (h | h)
          · simp [h] at h0
          · exact of_decide_eq_false hlt h
        rw [splB, if_neg h0] at next
        exact ⟨⟨by omega, by omega⟩, next⟩
  have bad : splOk l es bs = false → spY l es bs = ((false, [], [], ()), (false, [], [], ()), 4, ()) := spY_no
  refine go hz hX hT Try.func18 (treeSpl l es bs) ⟨he, hb, fun h => ends_eq ((false, [], [], ()), (false, [], [], ()), 4, ()) (bad ?_) (by kernel_rfl), fun h => ⟨fun h2 => ends_eq ((false, [], [], ()), (false, [], [], ()), 4, ()) (bad ?_) (by kernel_rfl), fun h2 => ?_⟩⟩
  · have h : mayN l es bs = false := by simpa using h
    simp [splOk, h]
  · have h2 := of_decide_eq_true h2
    simp only [splOk, Bool.and_eq_false_iff, decide_eq_false_iff_not]
    exact .inr (by omega)
  · have h : mayN l es bs = true := by simpa using h
    have h2 := of_decide_eq_false h2
    have hok : splOk l es bs = true := by simp only [splOk, h, Bool.true_and, decide_eq_true_eq]; omega
    refine ⟨he, hb, ⟨by omega, by omega⟩, ⟨by omega, by omega⟩, by omega, by omega, by omega, ?_⟩
    have := loop hok (es.length + bs.length - 1) 0 (by omega)
    have e1 : ((((sizesF es bs).length : Int) - 1).toNat - Int.toNat 0) = es.length + bs.length - 1 := by omega
    rw [e1, hsz]
    simp only [List.take_zero, List.sum_nil, Int.sub_zero, splB] at this
    rw [show 1 + (sizesF es bs).sum - 1 = (sizesF es bs).sum from by omega]
    exact this

theorem smallE_take {es : List En} (h : smallE es) (k : Nat) : smallE (es.take k) := ⟨by have := h.1; rw [List.length_take]; omega, fun x hx => h.2 x (List.mem_of_mem_take hx)⟩
theorem smallB_take {es : List Br} (h : smallB es) (k : Nat) : smallB (es.take k) := ⟨by have := h.1; rw [List.length_take]; omega, fun x hx => h.2 x (List.mem_of_mem_take hx)⟩
theorem smallE_drop {es : List En} (h : smallE es) (k : Nat) : smallE (es.drop k) := ⟨by have := h.1; rw [List.length_drop]; omega, fun x hx => h.2 x (List.mem_of_mem_drop hx)⟩
theorem smallB_drop {es : List Br} (h : smallB es) (k : Nat) : smallB (es.drop k) := ⟨by have := h.1; rw [List.length_drop]; omega, fun x hx => h.2 x (List.mem_of_mem_drop hx)⟩
theorem smallE_nil : smallE [] := ⟨by simp, fun x hx => by simp at hx⟩
theorem smallB_nil : smallB [] := ⟨by simp, fun x hx => by simp at hx⟩
theorem sum_drop (zs : List Int) (k : Nat) : (zs.drop k).sum = zs.sum - (zs.take k).sum := by
  have : (zs.take k ++ zs.drop k).sum = zs.sum := by rw [List.take_append_drop]
  rw [List.sum_append] at this
  omega
theorem sizes_cut {l : Bool} {es : List En} {bs : List Br} (m1 : l = true → bs = []) (m2 : l = false → es = []) (k : Nat) :
    cutE l (es.take k) = es.take k ∧ cutB l (bs.take k) = bs.take k ∧ cutE l (es.drop k) = es.drop k ∧ cutB l (bs.drop k) = bs.drop k ∧
    sizeN (es.take k) (bs.take k) = 1 + ((sizesF es bs).take k).sum ∧ sizeN (es.drop k) (bs.drop k) = 1 + ((sizesF es bs).sum - ((sizesF es bs).take k).sum) := by
  rw [← sum_drop]
  cases l
  · obtain rfl := m2 rfl
    simp [cutE, cutB, sizesF, sizeN]
  · obtain rfl := m1 rfl
    simp [cutE, cutB, sizesF, sizeN]
theorem imax_one (a b : Int) : imax (1 + a) (1 + b) = 1 + imax a b := by
  unfold imax; split <;> split <;> omega

end Lf
