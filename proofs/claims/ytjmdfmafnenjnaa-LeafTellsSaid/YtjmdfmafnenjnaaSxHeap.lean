import Derived.Test.YtjmdfmafnenjnaaSxMem
/-! The world behind a store, a new block. -/
namespace Go.Sx
open Go

def World.setBlk (w : World) (b : Nat) (o : Obj) : World := { w with heap := w.heap.setIfInBounds b o }

theorem unm_frozen {w : World} {b : Nat} {cells : Array Value} {e : TypeId} {fr : Nat × Nat} (hb : w.heap[b]? = some (.cells cells e fr)) (hu : unm fr cells.size) {off : Nat} (ho : off < cells.size) :
    w.frozen? ⟨b, off, none⟩ = false := by
  have := hu off ho
  simp only [World.frozen?, hb, Bool.and_eq_false_imp, decide_eq_true_eq, decide_eq_false_iff_not]
  intro h1 h2
  exact this ⟨h1, h2⟩

theorem setCell_blk {w : World} {b : Nat} {cells : Array Value} {e : TypeId} {fr : Nat × Nat} (hb : w.heap[b]? = some (.cells cells e fr)) (off : Nat) (v : Value) :
    w.setCell ⟨b, off, none⟩ v = World.setBlk w b (.cells (cells.setIfInBounds off v) e fr) := by
  simp only [World.setCell, World.setBlk]
  congr 1
  apply Array.ext_getElem?
  intro i
  rw [Array.getElem?_modify, Array.getElem?_setIfInBounds]
  by_cases h : b = i
  · subst h
    obtain ⟨hlt, hb'⟩ := Array.getElem?_eq_some_iff.1 hb
    simp [hb', hlt]
  · simp [h]

theorem setBlk_get {w : World} {b : Nat} {o o' : Obj} (hb : w.heap[b]? = some o) : (World.setBlk w b o').heap[b]? = some o' := by
  have hlt : b < w.heap.size := (Array.getElem?_eq_some_iff.1 hb).1
  simp [World.setBlk, hlt]

theorem setBlk_ne {w : World} {b i : Nat} {o : Obj} (h : i ≠ b) : (World.setBlk w b o).heap[i]? = w.heap[i]? := by
  simp only [World.setBlk]
  rw [Array.getElem?_setIfInBounds_ne (by omega)]

theorem setBlk_size {w : World} {b : Nat} {o : Obj} : (World.setBlk w b o).heap.size = w.heap.size := by simp [World.setBlk]

theorem setBlk_setBlk {w : World} {b : Nat} {o o' : Obj} : World.setBlk (World.setBlk w b o) b o' = World.setBlk w b o' := by
  simp only [World.setBlk]
  congr 1
  apply Array.ext_getElem?
  intro i
  by_cases h : b = i
  · subst h; simp [Array.getElem?_setIfInBounds]
  · simp [h]

theorem setBlk_same {w : World} {b : Nat} {o : Obj} (hb : w.heap[b]? = some o) : World.setBlk w b o = w := by
  have : w.heap.setIfInBounds b o = w.heap := by
    apply Array.ext_getElem?
    intro i
    by_cases h : b = i
    · subst h
      obtain ⟨hlt, hb'⟩ := Array.getElem?_eq_some_iff.1 hb
      simp [hb', hlt]
    · rw [Array.getElem?_setIfInBounds_ne (by omega)]
  simp only [World.setBlk, this]

theorem run_store_blk {P : Program} {w : World} {b : Nat} {cells : List Value} {e : TypeId} {fr : Nat × Nat} (hb : w.heap[b]? = some (.cells cells.toArray e fr)) (hu : unm fr cells.length) {off : Nat} (ho : off < cells.length)
    {v : Value} (hv : v.oneCell' = true) : (store ⟨b, off, none⟩ v).run P w = .ok () (World.setBlk w b (.cells (cells.set off v).toArray e fr)) := by
  rw [run_store P w _ v _ hv]
  have hc : w.cell? ⟨b, off, none⟩ = some cells[off] := by simp [World.cell?, hb, ho]
  have hf := unm_frozen hb (by simpa using hu) (off := off) (by simpa using ho)
  simp only [hc, hf, Bool.false_eq_true, if_false, setCell_blk hb, List.setIfInBounds_toArray]

theorem add_zero_spot (b off i : Nat) : (⟨b, off, none⟩ : Addr).add i = ⟨b, off + i, none⟩ := by
  unfold Addr.add
  split
  · rename_i h; subst h; rfl
  · rfl

theorem run_storeCells_blk {P : Program} {b : Nat} {e : TypeId} {fr : Nat × Nat} (off : Nat) : ∀ (vs : List Value) (i : Nat) {w : World} {cells : List Value}, w.heap[b]? = some (.cells cells.toArray e fr) → unm fr cells.length →
    off + i + vs.length ≤ cells.length → (∀ v ∈ vs, v.oneCell' = true) →
    (storeCells ⟨b, off, none⟩ vs i).run P w = .ok () (World.setBlk w b (.cells (cells.take (off + i) ++ vs ++ cells.drop (off + i + vs.length)).toArray e fr))
  | [], i, w, cells, hb, hu, hl, hv => by
    simp only [storeCells, Sem.run_pure, List.length_nil, Nat.add_zero, List.append_nil, List.take_append_drop]
    rw [setBlk_same hb]
  | v :: vs, i, w, cells, hb, hu, hl, hv => by
    simp only [List.length_cons] at hl
    have hlt : off + i < cells.length := by omega
    simp only [storeCells, Sem.run_bind, add_zero_spot, run_store_blk hb hu hlt (hv v (by simp)), Result.andThen_ok]
    rw [run_storeCells_blk off vs (i + 1) (setBlk_get hb) (by simpa using hu) (by simp; omega) (fun x hx => hv x (by simp [hx])), setBlk_setBlk]
    congr 4
    rw [← Nat.add_assoc, List.take_set, List.drop_set_of_lt (by omega)]
    have e1 : (cells.take (off + i + 1)).set (off + i) v = cells.take (off + i) ++ [v] := by
      rw [List.take_succ_eq_append_getElem hlt]
      rw [List.set_append_right _ _ (by simp; omega)]
      simp [Nat.min_eq_left (Nat.le_of_lt hlt)]
    rw [e1]
    simp only [List.append_assoc, List.length_cons, List.cons_append, List.nil_append]
    rw [show off + i + 1 + vs.length = off + i + (vs.length + 1) from by omega]

theorem alloc_get {w : World} {o : Obj} : (w.alloc o).heap[w.heap.size]? = some o := by
  show (w.heap.push o)[w.heap.size]? = _
  simp
theorem alloc_old {w : World} {o : Obj} {i : Nat} (h : i < w.heap.size) : (w.alloc o).heap[i]? = w.heap[i]? := by
  show (w.heap.push o)[i]? = _
  rw [Array.getElem?_push, if_neg (by omega)]
theorem alloc_size {w : World} {o : Obj} : (w.alloc o).heap.size = w.heap.size + 1 := by
  show (w.heap.push o).size = _
  simp

section
variable {ρ ρ' : Nat → Value} {H H' : AHeap} {G O O' : Nat → Prop} {w w' : World} {P : Program}

/-- Own objects' contents turn; nothing else does. -/
def updH (H : AHeap) (id : Nat) (o : AObj) : AHeap := fun j => if j = id then some o else H j

theorem Own_upd {id : Nat} {o o' : AObj} (ho : H id = some o) (ha : o.alive = o'.alive) (b : Nat) : Own ρ (updH H id o') b ↔ Own ρ H b := by
  constructor
  · rintro ⟨j, x, hx, h1, h2⟩
    unfold updH at hx
    split at hx
    · rename_i hj
      subst hj
      simp only [Option.some.injEq] at hx
      subst hx
      exact ⟨j, o, ho, ha.trans h1, h2⟩
    · exact ⟨j, x, hx, h1, h2⟩
  · rintro ⟨j, x, hx, h1, h2⟩
    by_cases hj : j = id
    · subst hj
      rw [ho] at hx
      cases hx
      exact ⟨j, o', by simp [updH], ha.symm.trans h1, h2⟩
    · exact ⟨j, x, by simp [updH, hj, hx], h1, h2⟩

theorem Hot_upd {id : Nat} {o o' : AObj} (ho : H id = some o) (ha : o.alive = o'.alive) : Hot ρ (updH H id o') G = Hot ρ H G := by
  funext b
  exact propext (or_congr_left (Own_upd ho ha b))

/-- A block of an own object is written: what is known of the rest stands. -/
theorem Good.write (hs : Sat ρ H G w) {id : Nat} {o o' : AObj} (ho : H id = some o) (ha : o.alive = true) (ha' : o'.alive = true) {b : Nat} (hb : blk (ρ id) = some b)
    (hvec : ∀ c' e', o' = .vec c' e' → ∃ c e, o = .vec c e ∧ c'.n = c.n ∧ c'.size = c.size)
    {blkobj : Obj} {r : AV} {v : Value}
    (hobj : ObjSat ρ (updH H id o') (Hot ρ H G) (World.setBlk w b blkobj) (ρ id) o')
    (hr : DenV ρ (updH H id o') (Hot ρ H G) (World.setBlk w b blkobj) r v) :
    Good ρ H G w (updH H id o') r v (World.setBlk w b blkobj) := by
  have hh := Hot_upd (ρ := ρ) (G := G) ho (ha.trans ha'.symm)
  have hown : Own ρ H b := ⟨id, o, ho, ha, hb⟩
  have st : Step ρ H (Hot ρ H G) w ρ (updH H id o') (Hot ρ (updH H id o') G) (World.setBlk w b blkobj) := by
    refine ⟨fun _ _ _ => rfl, fun j x hx => ?_, fun c hc => .inl (by rw [hh] at hc; exact hc), fun c hc hO => ?_, by rw [setBlk_size]; exact Nat.le_refl _⟩
    · by_cases hj : j = id
      · subst hj
        rw [ho] at hx
        cases hx
        exact ⟨o', by simp [updH], hvec⟩
      · exact ⟨x, by simp [updH, hj, hx], fun c' e' hc => ⟨c', e', hc, rfl, rfl⟩⟩
    · exact setBlk_ne (fun e => hO (.inl (by subst e; exact hown)))
  refine ⟨ρ, ⟨fun j x hx => ?_, fun i j oi oj c h1 h2 h3 h4 h5 h6 => ?_, fun c hc => ?_, fun c hc => ?_⟩, by rw [hh]; exact hr, st, ⟨rfl, rfl, rfl, fun c hc hO => setBlk_ne (fun e => hO (by subst e; exact hown))⟩⟩
  · by_cases hj : j = id
    · subst hj
      simp only [updH, if_true, Option.some.injEq] at hx
      subst hx
      rw [hh]
      exact hobj
    · have hx' : H j = some x := by simpa [updH, hj] using hx
      refine (hs.obj j x hx').step st (fun c hal hc => setBlk_ne (fun e => hj ?_))
      subst e
      exact hs.inj j id x o c hx' ho hal ha hc hb
  · have f : ∀ i oi, updH H id o' i = some oi → oi.alive = true → ∃ x, H i = some x ∧ x.alive = true := by
      intro i oi hi hal
      by_cases hi' : i = id
      · subst hi'; exact ⟨o, ho, ha⟩
      · exact ⟨oi, by simpa [updH, hi'] using hi, hal⟩
    obtain ⟨x, hx, hxa⟩ := f i oi h1 h3
    obtain ⟨y, hy, hya⟩ := f j oj h2 h4
    exact hs.inj i j x y c hx hy hxa hya h5 h6
  · exact hs.apart c ((Own_upd ho (ha.trans ha'.symm) c).1 hc)
  · rw [setBlk_size]; exact hs.low c hc

/-- A new own object, in a new block. -/
theorem Good.fresh (hs : Sat ρ H G w) {n : Nat} (hn : H n = none) {o : AObj} {obj : Obj} {root : Value} {r : AV} {v : Value}
    {w1 : World} (hw : w1.heap = w.heap) (ht : w1.tape = w.tape) (hos : w1.os = w.os) (hout : w1.output = w.output)
    (hroot : ∀ b, blk root = some b → b = w.heap.size)
    (hobj : ObjSat (fun j => if j = n then root else ρ j) (updH H n o) (Hot (fun j => if j = n then root else ρ j) (updH H n o) G) (w1.alloc obj) root o)
    (hr : DenV (fun j => if j = n then root else ρ j) (updH H n o) (Hot (fun j => if j = n then root else ρ j) (updH H n o) G) (w1.alloc obj) r v) :
    Good ρ H G w (updH H n o) r v (w1.alloc obj) := by
  have hsz : (w1.alloc obj).heap.size = w.heap.size + 1 := by rw [alloc_size, hw]
  have hold : ∀ i, i < w.heap.size → (w1.alloc obj).heap[i]? = w.heap[i]? := fun i hi => by rw [alloc_old (by rw [hw]; exact hi), hw]
  have ne : ∀ j x, H j = some x → j ≠ n := fun j x hx e => by subst e; rw [hn] at hx; cases hx
  have own' : ∀ b, Own (fun j => if j = n then root else ρ j) (updH H n o) b → Own ρ H b ∨ b = w.heap.size := by
    rintro b ⟨j, x, hx, h1, h2⟩
    by_cases hj : j = n
    · subst hj; simp only [if_true] at h2; exact .inr (hroot b h2)
    · simp only [updH, hj, if_false] at hx h2
      exact .inl ⟨j, x, hx, h1, h2⟩
  have st : Step ρ H (Hot ρ H G) w (fun j => if j = n then root else ρ j) (updH H n o) (Hot (fun j => if j = n then root else ρ j) (updH H n o) G) (w1.alloc obj) := by
    refine ⟨fun j x hx => by simp [ne j x hx], fun j x hx => ⟨x, by simp [updH, ne j x hx, hx], fun c' e' hc => ⟨c', e', hc, rfl, rfl⟩⟩, fun b hb => ?_, fun b hb _ => hold b hb, by omega⟩
    rcases hb with hb | hb
    · rcases own' b hb with h1 | h1
      · exact .inl (.inl h1)
      · exact .inr (by omega)
    · exact .inl (.inr hb)
  refine ⟨_, ⟨fun j x hx => ?_, fun i j oi oj b h1 h2 h3 h4 h5 h6 => ?_, fun b hb => ?_, fun b hb => ?_⟩, hr, st, ⟨hos, ht, hout, fun b hb _ => hold b hb⟩⟩
  · by_cases hj : j = n
    · subst hj
      simp only [updH, if_true, Option.some.injEq] at hx
      subst hx
      simp only [if_true]
      exact hobj
    · have hx' : H j = some x := by simpa [updH, hj] using hx
      simp only [hj, if_false]
      exact (hs.obj j x hx').step st (fun b hal hb => hold b (own_lt hs ⟨j, x, hx', hal, hb⟩))
  · by_cases hi : i = n <;> by_cases hj : j = n
    · rw [hi, hj]
    · simp only [updH, hi, hj, if_true, if_false] at h1 h2 h5 h6
      have e := hroot b h5
      have := own_lt hs ⟨j, oj, h2, h4, h6⟩
      omega
    · simp only [updH, hi, hj, if_true, if_false] at h1 h2 h5 h6
      have e := hroot b h6
      have := own_lt hs ⟨i, oi, h1, h3, h5⟩
      omega
    · simp only [updH, hi, hj, if_false] at h1 h2 h5 h6
      exact hs.inj i j oi oj b h1 h2 h3 h4 h5 h6
  · rcases own' b hb with h1 | h1
    · exact hs.apart b h1
    · intro hg
      have := hs.low b hg
      omega
  · have := hs.low b hb
    omega
end
end Go.Sx
