import Derived.Test.YtjmdfmafnenjnaaSxPure
/-! The state: own objects in memory. -/
namespace Go.Sx
open Go

def unm (fr : Nat × Nat) (n : Nat) : Prop := ∀ off, off < n → ¬ (fr.1 ≤ off ∧ off < fr.2)

/-- An entry's value. -/
def CK.val : (c : CK) → c.V → Value
  | .int k, v => .int k v
  | .bool, v => .bool v
  | .str, v => .string v
  | .arr k _, v => .agg (List.map (α := Int) (Value.int k) v).toArray
  | _, _ => undef

def CK.fits : (c : CK) → c.V → Prop
  | .arr _ n, v => List.length (α := Int) v = n
  | _, _ => True

/-- What a map's entries are, in the row in which they came. -/
structure MapIs (ck : CK) (m : List (Int × ck.V)) (es : List MapEntry) (clock : Nat) : Prop where
  eq : es.map (fun e => (e.key, e.val)) = m.map (fun p => (Value.int .i64 p.1, ck.val p.2))
  keys : (m.map (·.1)).Nodup
  borns : (es.map (·.born)).Nodup
  old : ∀ e ∈ es, e.born < clock
  fits : ∀ p ∈ m, ck.fits p.2

def ObjSat (ρ : Nat → Value) (H : AHeap) (O : Nat → Prop) (w : World) (root : Value) : AObj → Prop
  | .dead => True
  | .map ck m => ∃ (b : Nat) (es : Array MapEntry) (clock : Nat), root = .map (some b) ∧ w.heap[b]? = some (.map es clock) ∧ MapIs ck m es.toList clock
  | .own segs e => ∃ (b : Nat) (cells : List Value) (fr : Nat × Nat), root = .pointer (some ⟨b, 0, none⟩) ∧ w.heap[b]? = some (.cells cells.toArray e fr) ∧ unm fr cells.length ∧ DenSegs ρ H O w segs cells
  | .vec c e => ∃ (a : Option Addr) (cap : Nat), root = .slice a c.n cap ∧ c.n ≤ cap ∧ cap ≤ maxLen ∧ (cap = 0 ∨
      ∃ (b o : Nat) (cells : List Value) (fr : Nat × Nat) (us : Nat → Nat → Value), a = some ⟨b, o, none⟩ ∧ w.heap[b]? = some (.cells cells.toArray e fr) ∧ unm fr cells.length ∧ o + cap * c.size ≤ cells.length ∧
        ∀ i j, i < c.n → j < c.size → cells[o + i * c.size + j]? = some (us i j) ∧ DenS O w (c.cell i j) (us i j))

structure Sat (ρ : Nat → Value) (H : AHeap) (G : Nat → Prop) (w : World) : Prop where
  obj : ∀ id o, H id = some o → ObjSat ρ H (Hot ρ H G) w (ρ id) o
  inj : ∀ i j oi oj b, H i = some oi → H j = some oj → oi.alive = true → oj.alive = true → blk (ρ i) = some b → blk (ρ j) = some b → i = j
  apart : ∀ b, Own ρ H b → ¬ G b
  low : ∀ b, G b → b < w.heap.size

/-- What no run of the body touches: all that is not own. -/
structure Frm (ρ : Nat → Value) (H : AHeap) (w w' : World) : Prop where
  os : w'.os = w.os
  tape : w'.tape = w.tape
  output : w'.output = w.output
  heap : ∀ b, b < w.heap.size → ¬ Own ρ H b → w'.heap[b]? = w.heap[b]?

def Good (ρ : Nat → Value) (H : AHeap) (G : Nat → Prop) (w : World) (H' : AHeap) (r : AV) (v : Value) (w' : World) : Prop :=
  ∃ ρ', Sat ρ' H' G w' ∧ DenV ρ' H' (Hot ρ' H' G) w' r v ∧ Step ρ H (Hot ρ H G) w ρ' H' (Hot ρ' H' G) w' ∧ Frm ρ H w w'

section
variable {ρ ρ' : Nat → Value} {H H' : AHeap} {G O O' : Nat → Prop} {w w' : World} {P : Program}

theorem ObjSat.step (st : Step ρ H O w ρ' H' O' w') {root : Value} {o : AObj} (h : ObjSat ρ H O w root o) (hb : ∀ b, o.alive = true → blk root = some b → w'.heap[b]? = w.heap[b]?) :
    ObjSat ρ' H' O' w' root o := by
  cases o with
  | dead => trivial
  | map ck m =>
    obtain ⟨b, es, clock, rfl, h1, h2⟩ := h
    exact ⟨b, es, clock, rfl, by rw [hb b rfl rfl]; exact h1, h2⟩
  | own segs e =>
    obtain ⟨b, cells, fr, rfl, h1, h2, h3⟩ := h
    exact ⟨b, cells, fr, rfl, by rw [hb b rfl rfl]; exact h1, h2, h3.step st⟩
  | vec c e =>
    obtain ⟨a, cap, rfl, h1, h2, h3⟩ := h
    refine ⟨a, cap, rfl, h1, h2, ?_⟩
    rcases h3 with h3 | ⟨b, o, cells, fr, us, rfl, h4, h5, h6, h7⟩
    · exact .inl h3
    · by_cases hc : cap = 0
      · exact .inl hc
      · refine .inr ⟨b, o, cells, fr, us, rfl, by rw [hb b rfl (by simp [blk, hc])]; exact h4, h5, h6, fun i j hi hj => ?_⟩
        obtain ⟨h8, h9⟩ := h7 i j hi hj
        exact ⟨h8, h9.step st.hot st.heap st.size⟩

theorem Good.val (hs : Sat ρ H G w) {r : AV} {v : Value} (h : DenV ρ H (Hot ρ H G) w r v) : Good ρ H G w H r v w :=
  ⟨ρ, hs, h, Step.refl _ _ _ _, rfl, rfl, rfl, fun _ _ _ => rfl⟩

theorem own_lt (hs : Sat ρ H G w) {b : Nat} (h : Own ρ H b) : b < w.heap.size := by
  obtain ⟨id, o, ho, ha, hb⟩ := h
  have hobj := hs.obj id o ho
  cases o with
  | dead => simp [AObj.alive] at ha
  | map ck m =>
    obtain ⟨b', es, clock, h0, h1, _⟩ := hobj
    rw [h0] at hb
    simp only [blk, Option.some.injEq] at hb
    subst hb
    exact (Array.getElem?_eq_some_iff.1 h1).1
  | own segs e =>
    obtain ⟨b', cells, fr, h0, h1, _⟩ := hobj
    rw [h0] at hb
    simp only [blk, Option.some.injEq] at hb
    subst hb
    exact (Array.getElem?_eq_some_iff.1 h1).1
  | vec c e =>
    obtain ⟨a, cap, h0, h1, _, h3⟩ := hobj
    rw [h0] at hb
    rcases h3 with rfl | ⟨b', o, cells, fr, us, rfl, h4, _⟩
    · cases a <;> simp [blk] at hb
    · simp only [blk] at hb
      split at hb
      · cases hb
      · simp only [Option.some.injEq] at hb
        subst hb
        exact (Array.getElem?_eq_some_iff.1 h4).1

theorem hot_lt (hs : Sat ρ H G w) {b : Nat} (h : Hot ρ H G b) : b < w.heap.size := h.elim (own_lt hs) (hs.low b)

/-! ### parts and cells -/
theorem DenC_wide : ∀ (x : AV) (cs : List Value), DenC ρ H O w x cs → cs.length = x.wide := by
  intro x cs h
  cases x <;> unfold DenC at h
  case ints k n ws => obtain ⟨h1, rfl⟩ := h; simp [AV.wide, h1]
  case agg => exact h.elim
  case tup => exact h.elim
  all_goals (obtain ⟨u, rfl, _⟩ := h; rfl)

theorem DenSegs_nil {cs : List Value} : DenSegs ρ H O w [] cs ↔ cs = [] := by unfold DenSegs; exact Iff.rfl
theorem DenSegs_cons {a : AV} {as : List AV} {cs : List Value} : DenSegs ρ H O w (a :: as) cs ↔ ∃ c1 c2, cs = c1 ++ c2 ∧ DenC ρ H O w a c1 ∧ DenSegs ρ H O w as c2 := by
  rw [DenSegs]
theorem DenL_nil {cs : List Value} : DenL ρ H O w [] cs ↔ cs = [] := by unfold DenL; exact Iff.rfl
theorem DenL_cons {a : AV} {as : List AV} {cs : List Value} : DenL ρ H O w (a :: as) cs ↔ ∃ v rest, cs = v :: rest ∧ DenV ρ H O w a v ∧ DenL ρ H O w as rest := by
  rw [DenL]

theorem DenSegs_append {as bs : List AV} : ∀ {cs : List Value}, DenSegs ρ H O w (as ++ bs) cs ↔ ∃ c1 c2, cs = c1 ++ c2 ∧ DenSegs ρ H O w as c1 ∧ DenSegs ρ H O w bs c2 := by
  induction as with
  | nil =>
    intro cs
    simp only [List.nil_append, DenSegs_nil]
    exact ⟨fun h => ⟨[], cs, rfl, rfl, h⟩, fun ⟨c1, c2, h1, h2, h3⟩ => by subst h2; subst h1; exact h3⟩
  | cons a as ih =>
    intro cs
    simp only [List.cons_append, DenSegs_cons, ih]
    constructor
    · rintro ⟨c1, c2, rfl, h1, c3, c4, rfl, h2, h3⟩
      exact ⟨c1 ++ c3, c4, by simp, ⟨c1, c3, rfl, h1, h2⟩, h3⟩
    · rintro ⟨c1, c2, rfl, ⟨c3, c4, rfl, h1, h2⟩, h3⟩
      exact ⟨c3, c4 ++ c2, by simp, h1, c4, c2, rfl, h2, h3⟩

theorem DenSegs_len : ∀ {as : List AV} {cs : List Value}, DenSegs ρ H O w as cs → cs.length = wides as
  | [], cs, h => by rw [DenSegs_nil.1 h]; rfl
  | a :: as, cs, h => by
    obtain ⟨c1, c2, rfl, h1, h2⟩ := DenSegs_cons.1 h
    simp [wides, DenC_wide a c1 h1, DenSegs_len h2]

theorem dropSegs_ok : ∀ (segs : List AV) (n : Nat) {cs : List Value} {ss : List AV}, dropSegs segs n = some ss → DenSegs ρ H O w segs cs → n ≤ cs.length ∧ DenSegs ρ H O w ss (cs.drop n)
  | segs, 0, cs, ss, h, hd => by
    cases segs <;> (simp only [dropSegs, Option.some.injEq] at h; subst h; exact ⟨Nat.zero_le _, by simpa using hd⟩)
  | [], n + 1, cs, ss, h, hd => by simp [dropSegs] at h
  | a :: as, n + 1, cs, ss, h, hd => by
    obtain ⟨c1, c2, rfl, h1, h2⟩ := DenSegs_cons.1 hd
    simp only [dropSegs, Bool.cond_eq_ite] at h
    split at h
    · rename_i hw
      have hw := Nat.le_of_ble_eq_true hw
      obtain ⟨h3, h4⟩ := dropSegs_ok as _ h h2
      have hl := DenC_wide a c1 h1
      refine ⟨by simp; omega, ?_⟩
      rw [List.drop_append]
      have e1 : c1.drop (n + 1) = [] := List.drop_eq_nil_of_le (by omega)
      rw [e1, List.nil_append, hl]
      exact h4
    · cases h

theorem takeSegs_ok : ∀ (segs : List AV) (n : Nat) {cs : List Value} {ss : List AV}, takeSegs segs n = some ss → DenSegs ρ H O w segs cs → n ≤ cs.length ∧ DenSegs ρ H O w ss (cs.take n)
  | segs, 0, cs, ss, h, hd => by
    cases segs <;> (simp only [takeSegs, Option.some.injEq] at h; subst h; exact ⟨Nat.zero_le _, by simp [DenSegs_nil]⟩)
  | [], n + 1, cs, ss, h, hd => by simp [takeSegs] at h
  | a :: as, n + 1, cs, ss, h, hd => by
    obtain ⟨c1, c2, rfl, h1, h2⟩ := DenSegs_cons.1 hd
    simp only [takeSegs, Bool.cond_eq_ite] at h
    split at h
    · rename_i hw
      simp only [Bool.and_eq_true] at hw
      have hw1 := Nat.le_of_ble_eq_true hw.1
      have hw2 := Nat.le_of_ble_eq_true hw.2
      simp only [Option.map_eq_some_iff] at h
      obtain ⟨ss', h3, rfl⟩ := h
      obtain ⟨h4, h5⟩ := takeSegs_ok as _ h3 h2
      have hl := DenC_wide a c1 h1
      refine ⟨by simp; omega, DenSegs_cons.2 ⟨c1, c2.take (n + 1 - a.wide), ?_, h1, h5⟩⟩
      rw [List.take_append, hl, List.take_of_length_le (by omega)]
    · cases h

theorem DenC_single {a : AV} {cs : List Value} (h : DenC ρ H O w a cs) (ha : a.wide = 1) (hi : ∀ k n ws, a ≠ .ints k n ws) : ∃ u, cs = [u] ∧ u.oneCell' = true ∧ DenV ρ H O w a u := by
  cases a <;> unfold DenC at h
  case ints k n ws => exact (hi k n ws rfl).elim
  case agg => exact h.elim
  case tup => exact h.elim
  case mapv id => obtain ⟨u, rfl, h1⟩ := h; exact ⟨u, rfl, by unfold Den1 at h1; obtain ⟨b, _, rfl, _⟩ := h1; rfl, by unfold DenV; exact h1⟩
  case s x => obtain ⟨u, rfl, h1⟩ := h; exact ⟨u, rfl, h1.one, DenV_s h1⟩
  case ptr id off => obtain ⟨u, rfl, h1⟩ := h; exact ⟨u, rfl, by unfold Den1 at h1; obtain ⟨b, _, rfl, _⟩ := h1; rfl, by unfold DenV; exact h1⟩
  case ptrx id off n i => obtain ⟨u, rfl, h1⟩ := h; exact ⟨u, rfl, by unfold Den1 at h1; obtain ⟨_, b, _, rfl, _⟩ := h1; rfl, by unfold DenV; exact h1⟩
  case eptr c m j => obtain ⟨u, rfl, h1⟩ := h; exact ⟨u, rfl, by unfold Den1 at h1; obtain ⟨b, o, us, rfl, _⟩ := h1; rfl, by unfold DenV; exact h1⟩
  case vec id => obtain ⟨u, rfl, h1⟩ := h; exact ⟨u, rfl, by unfold Den1 at h1; exact h1.1, by unfold DenV; exact h1⟩
  case vptr id i j => obtain ⟨u, rfl, h1⟩ := h; exact ⟨u, rfl, by unfold Den1 at h1; exact h1.1, by unfold DenV; exact h1⟩
  case part id lo n => obtain ⟨u, rfl, h1⟩ := h; exact ⟨u, rfl, by unfold Den1 at h1; exact h1.1, by unfold DenV; exact h1⟩
  case emp => obtain ⟨u, rfl, a, rfl⟩ := h; exact ⟨_, rfl, rfl, by unfold DenV; exact ⟨a, rfl⟩⟩
  case fn f caps => obtain ⟨u, rfl, vs, rfl, h1⟩ := h; exact ⟨_, rfl, rfl, by unfold DenV; exact ⟨vs, rfl, h1⟩⟩

/-- A value that may be stored in one cell. -/
theorem DenC_of_single {a : AV} {u : Value} (ha : a.single = true) (h : DenV ρ H O w a u) : DenC ρ H O w a [u] ∧ u.oneCell' = true := by
  cases a <;> simp only [AV.single, reduceCtorEq] at ha
  case s x =>
    have h1 : DenS O w x u := DenS_of_V (by rintro rfl; simp at ha) h
    exact ⟨by unfold DenC; exact ⟨u, rfl, h1⟩, h1.one⟩
  case ptr id off => unfold DenV at h; exact ⟨by unfold DenC; exact ⟨u, rfl, h⟩, by unfold Den1 at h; obtain ⟨b, _, rfl, _⟩ := h; rfl⟩
  case ptrx id off n i => unfold DenV at h; exact ⟨by unfold DenC; exact ⟨u, rfl, h⟩, by unfold Den1 at h; obtain ⟨_, b, _, rfl, _⟩ := h; rfl⟩
  case eptr c m j => unfold DenV at h; exact ⟨by unfold DenC; exact ⟨u, rfl, h⟩, by unfold Den1 at h; obtain ⟨b, o, us, rfl, _⟩ := h; rfl⟩
  case vec id => unfold DenV at h; exact ⟨by unfold DenC; exact ⟨u, rfl, h⟩, by unfold Den1 at h; exact h.1⟩
  case vptr id i j => unfold DenV at h; exact ⟨by unfold DenC; exact ⟨u, rfl, h⟩, by unfold Den1 at h; exact h.1⟩
  case part id lo n => unfold DenV at h; exact ⟨by unfold DenC; exact ⟨u, rfl, h⟩, by unfold Den1 at h; exact h.1⟩
  case emp => unfold DenV at h; exact ⟨by unfold DenC; exact ⟨u, rfl, h⟩, by obtain ⟨a, rfl⟩ := h; rfl⟩
  case fn f caps => unfold DenV at h; exact ⟨by unfold DenC; exact ⟨u, rfl, h⟩, by obtain ⟨vs, rfl, _⟩ := h; rfl⟩
  case mapv id => unfold DenV at h; exact ⟨by unfold DenC; exact ⟨u, rfl, h⟩, by unfold Den1 at h; obtain ⟨b, _, rfl, _⟩ := h; rfl⟩

theorem wide_other {a : AV} (h : ∀ k n ws, a ≠ .ints k n ws) : a.wide = 1 := by
  cases a <;> first | rfl | (exact (h _ _ _ rfl).elim)
end
end Go.Sx
