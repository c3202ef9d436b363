import Derived.Test.YtjmdfmafnenjnaaSxSlice
/-! Stores, and new objects. -/
namespace Go.Sx
open Go

def findUp : List (Nat × AObj) → Nat → Option AObj
  | [], _ => none
  | (id, o) :: us, j => match findUp us j with
    | some x => some x
    | none => if j = id then some o else none

/-- The own objects behind an operation. -/
def resH (H : AHeap) (up : List (Nat × AObj)) (base : Nat) (new : List AObj) : AHeap := fun j =>
  match findUp up j with
  | some o => some o
  | none => if base ≤ j ∧ j < base + new.length then new[j - base]? else H j

section
variable {ρ ρ' : Nat → Value} {H H' : AHeap} {G O O' : Nat → Prop} {w w' : World} {P : Program}

theorem resH_nil (base : Nat) : resH H [] base [] = H := by
  funext j
  simp only [resH, findUp, List.length_nil, Nat.add_zero]
  rw [if_neg (by omega)]
theorem resH_up (id : Nat) (o : AObj) (base : Nat) : resH H [(id, o)] base [] = updH H id o := by
  funext j
  simp only [resH, findUp, updH, List.length_nil, Nat.add_zero]
  by_cases h : j = id
  · simp [h]
  · simp only [h, if_false]
    rw [if_neg (by omega)]
theorem resH_new (base : Nat) (o : AObj) : resH H [] base [o] = updH H base o := by
  funext j
  simp only [resH, findUp, updH, List.length_singleton]
  by_cases h : j = base
  · subst h; simp
  · rw [if_neg (by omega)]
    simp [h]
theorem resH_both (id base : Nat) (x o : AObj) (h : id ≠ base) : resH H [(id, x)] base [o] = updH (updH H id x) base o := by
  funext j
  simp only [resH, findUp, updH, List.length_singleton]
  by_cases h1 : j = id
  · subst h1; simp [h]
  · by_cases h2 : j = base
    · subst h2; simp [h1]
    · simp only [h1, h2, if_false]
      rw [if_neg (by omega)]

theorem den_undef : DenV ρ H O w (.tup []) undef := by
  unfold DenV
  exact ⟨[], rfl, DenL_nil.2 rfl⟩

theorem write_step {id : Nat} {o o' : AObj} (ho : H id = some o) (ha : o.alive = true) {b : Nat} (hb : blk (ρ id) = some b)
    (hvec : ∀ c' e', o' = .vec c' e' → ∃ c e, o = .vec c e ∧ c'.n = c.n ∧ c'.size = c.size) (blkobj : Obj) :
    Step ρ H (Hot ρ H G) w ρ (updH H id o') (Hot ρ H G) (World.setBlk w b blkobj) := by
  have hown : Own ρ H b := ⟨id, o, ho, ha, hb⟩
  refine ⟨fun _ _ _ => rfl, fun j x hx => ?_, fun c hc => .inl hc, fun c hc hO => setBlk_ne (fun e => hO (.inl (by subst e; exact hown))), by rw [setBlk_size]; exact Nat.le_refl _⟩
  by_cases hj : j = id
  · subst hj
    rw [ho] at hx
    cases hx
    exact ⟨o', by simp [updH], hvec⟩
  · exact ⟨x, by simp [updH, hj, hx], fun c' e' hc => ⟨c', e', hc, rfl, rfl⟩⟩

theorem Good.writeOwn (hs : Sat ρ H G w) {id b : Nat} {segs segs' : List AV} {e : TypeId} (ho : H id = some (.own segs e)) (hb : ρ id = .pointer (some ⟨b, 0, none⟩))
    {cells cells' : List Value} {fr : Nat × Nat} (h1 : w.heap[b]? = some (.cells cells.toArray e fr)) (hu : unm fr cells.length) (hl : cells'.length = cells.length)
    (hd : DenSegs ρ H (Hot ρ H G) w segs' cells') :
    Good ρ H G w (updH H id (.own segs' e)) (.tup []) undef (World.setBlk w b (.cells cells'.toArray e fr)) := by
  have hbk : blk (ρ id) = some b := by rw [hb]; rfl
  have st := write_step (G := G) (w := w) (o' := .own segs' e) ho rfl hbk (by simp) (.cells cells'.toArray e fr)
  exact Good.write hs ho rfl rfl hbk (by simp) ⟨b, cells', fr, hb, setBlk_get h1, by rw [hl]; exact hu, hd.step st⟩ den_undef

theorem run_storeAt {t : TypeId} {b off : Nat} {v : Value} {n : Nat} (hs : szOf P t = some n) (hl : v.cells.toList.length = n) {w' : World}
    (h : (storeCells ⟨b, off, none⟩ v.cells.toList 0).run P w = .ok () w') : (Instr.storeAt t (.pointer (some ⟨b, off, none⟩)) v).run P w = .ok () w' := by
  have : v.cells.size = n := by simpa using hl
  simp [Instr.storeAt, Instr.sureAddr, storeVar, run_sizeOf hs, this, h]

theorem cells_one {v : Value} (h : v.oneCell' = true) : v.cells.toList = [v] := by
  cases v <;> first | rfl | (simp [Value.oneCell'] at h)

theorem take_set_drop {α : Type} (l : List α) (i : Nat) (x : α) (h : i < l.length) : l.take i ++ [x] ++ l.drop (i + 1) = l.set i x := by
  rw [List.set_eq_take_append_cons_drop, if_pos h]
  simp

theorem den_ro_nil {c c' : Con} {v : Value} (h0 : c.n = 0) (h1 : c'.n = 0) (h : DenS O w (.ro c) v) : DenS O w (.ro c') v := by
  cases h with
  | ro _ a cap us b o h2 h3 h4 h5 h6 =>
    have := DenS.ro (O := O) (w := w) c' a cap us b o (by omega) h3 (fun h => by omega) (fun i j hi hj => by omega) (fun i j hi hj => by omega)
    rw [h1] at this
    rw [h0]
    exact this

theorem svInt_ok {k : IntKind} {v : SV} {n : Int} {u : Value} (h : svInt k v = some n) (hu : DenS O w v u) : DenS O w (.int k n) u := by
  unfold svInt at h
  split at h
  · rw [Bool.cond_eq_ite] at h
    split at h
    · rename_i hk
      obtain rfl := kindEq_eq hk
      cases h
      exact hu
    · cases h
  · rw [Bool.cond_eq_ite] at h
    split at h
    · rename_i hk
      obtain rfl := kindEq_eq hk
      cases h
      cases hu
      exact .int _ _
    · cases h
  · cases h

theorem svBool_ok {v : SV} {n : Bool} {u : Value} (h : svBool v = some n) (hu : DenS O w v u) : DenS O w (.bool n) u := by
  unfold svBool at h
  split at h <;> cases h <;> cases hu <;> exact .bool _

theorem svStr_ok {v : SV} {n : ByteArray} {u : Value} (h : svStr v = some n) (hu : DenS O w v u) : DenS O w (.str n) u := by
  unfold svStr at h
  split at h <;> cases h
  exact hu

theorem svInts_ok {k : IntKind} {v : SV} {n : List Int} {u : Value} (h : svInts k v = some n) (hu : DenS O w v u) : DenS O w (.ro (.ints k n)) u := by
  unfold svInts at h
  split at h
  · rw [Bool.cond_eq_ite] at h
    split at h
    · rename_i hk
      obtain rfl := kindEq_eq hk
      cases h
      exact hu
    · cases h
  · cases h
    exact den_ro_nil (by rfl) (by rfl) hu
  · cases h

theorem svStrs_ok {v : SV} {n : List ByteArray} {u : Value} (h : svStrs v = some n) (hu : DenS O w v u) : DenS O w (.ro (.strs n)) u := by
  unfold svStrs at h
  split at h <;> cases h
  · exact hu
  · exact den_ro_nil (by rfl) (by rfl) hu

theorem svBools_ok {v : SV} {n : List Bool} {u : Value} (h : svBools v = some n) (hu : DenS O w v u) : DenS O w (.ro (.bools n)) u := by
  unfold svBools at h
  split at h <;> cases h
  · exact hu
  · exact den_ro_nil (by rfl) (by rfl) hu

theorem svRows_ok {cs : List CK} {v : SV} {n : List (CL cs)} {u : Value} (h : svRows cs v = some n) (hu : DenS O w v u) : DenS O w (.ro (.typ cs n)) u := by
  unfold svRows at h
  split at h
  · simp only [Option.map_eq_some_iff] at h
    obtain ⟨⟨e⟩, _, h2⟩ := h
    subst e
    rw [castL_rfl] at h2
    subst h2
    exact hu
  · cases h
    exact den_ro_nil (by rfl) (by rfl) hu
  · cases h

theorem CK_set_ok {c : CK} {x y : c.V} {j : Nat} {v : SV} (h : c.set x j v = some y) : c.wide = 1 ∧ ∀ (O : Nat → Prop) (w : World) (u : Value), DenS O w v u → ∀ l, DenS O w (c.cell y l) u := by
  cases c with
  | int k => exact ⟨rfl, fun _ _ _ hu _ => svInt_ok h hu⟩
  | bool => exact ⟨rfl, fun _ _ _ hu _ => svBool_ok h hu⟩
  | str => exact ⟨rfl, fun _ _ _ hu _ => svStr_ok h hu⟩
  | ints k => exact ⟨rfl, fun _ _ _ hu _ => svInts_ok h hu⟩
  | strs => exact ⟨rfl, fun _ _ _ hu _ => svStrs_ok h hu⟩
  | bools => exact ⟨rfl, fun _ _ _ hu _ => svBools_ok h hu⟩
  | rows cs => exact ⟨rfl, fun _ _ _ hu _ => svRows_ok h hu⟩
  | arr k n => cases h

theorem CL_set_ok : ∀ {cs : List CK} {x y : CL cs} {j : Nat} {v : SV}, CL.set cs x j v = some y → (∀ (O : Nat → Prop) (w : World) (u : Value), DenS O w v u → DenS O w (CL.cell cs y j) u) ∧ ∀ j', j' ≠ j → CL.cell cs y j' = CL.cell cs x j'
  | [], x, y, j, v, h => by cases h
  | c :: cs, x, y, j, v, h => by
    simp only [CL.set] at h
    rw [Bool.cond_eq_ite] at h
    split at h
    · rename_i hlt
      obtain ⟨z, h1, rfl⟩ := Option.map_eq_some_iff.1 h
      obtain ⟨h2, h3⟩ := CK_set_ok h1
      refine ⟨fun O w u hu => by simp only [CL.cell, hlt, cond_true]; exact h3 O w u hu _, fun j' hj' => ?_⟩
      have h4 : j < 1 := by rw [h2] at hlt; exact Nat.le_of_ble_eq_true hlt
      simp only [CL.cell, h2, blt_f (show 1 ≤ j' from by omega), cond_false]
    · rename_i hlt
      obtain ⟨z, h1, rfl⟩ := Option.map_eq_some_iff.1 h
      have hlt : j.blt c.wide = false := Bool.eq_false_iff.2 hlt
      have hge : c.wide ≤ j := by
        rcases Nat.lt_or_ge j c.wide with h5 | h5
        · rw [blt_t h5] at hlt; cases hlt
        · exact h5
      obtain ⟨h2, h3⟩ := CL_set_ok h1
      refine ⟨fun O w u hu => by simp only [CL.cell, hlt, cond_false]; exact h2 O w u hu, fun j' hj' => ?_⟩
      simp only [CL.cell]
      rcases Nat.lt_or_ge j' c.wide with h5 | h5
      · rw [blt_t h5, cond_true, cond_true]
      · rw [blt_f h5, cond_false, cond_false]
        exact h3 _ (by omega)

theorem CL_setRow_ok : ∀ {cs : List CK} {x y : CL cs} {j : Nat} {k : IntKind} {n : Nat} {ws : List Int}, CL.setRow cs x j k n ws = some y →
    (∀ l, l < n → CL.cell cs y (j + l) = .int k (ws.getD l 0)) ∧ ∀ j', (j' < j ∨ j + n ≤ j') → CL.cell cs y j' = CL.cell cs x j'
  | [], x, y, j, k, n, ws, h => by cases h
  | c :: cs, x, y, j, k, n, ws, h => by
    simp only [CL.setRow] at h
    rw [Bool.cond_eq_ite] at h
    split at h
    · rename_i hj
      obtain rfl : j = 0 := Nat.eq_of_beq_eq_true hj
      obtain ⟨z, h1, rfl⟩ := Option.map_eq_some_iff.1 h
      cases c with
      | arr k' n' =>
        simp only [CK.setRow] at h1
        rw [Bool.cond_eq_ite] at h1
        split at h1
        · rename_i hk
          simp only [Bool.and_eq_true] at hk
          obtain rfl := kindEq_eq hk.1
          obtain rfl := Nat.eq_of_beq_eq_true hk.2
          cases h1
          refine ⟨fun l hl => ?_, fun j' hj' => ?_⟩
          · rw [Nat.zero_add]
            simp only [CL.cell, CK.wide, blt_t hl, cond_true, CK.cell]
          · simp only [CL.cell, CK.wide, blt_f (show n ≤ j' from by omega), cond_false]
        · cases h1
      | _ => cases h1
    · rw [Bool.cond_eq_ite] at h
      split at h
      · rename_i hle
        have hle := Nat.le_of_ble_eq_true hle
        obtain ⟨z, h1, rfl⟩ := Option.map_eq_some_iff.1 h
        obtain ⟨h2, h3⟩ := CL_setRow_ok h1
        refine ⟨fun l hl => ?_, fun j' hj' => ?_⟩
        · simp only [CL.cell, blt_f (show c.wide ≤ j + l from by omega), cond_false]
          rw [show j + l - c.wide = j - c.wide + l from by omega]
          exact h2 l hl
        · simp only [CL.cell]
          rcases Nat.lt_or_ge j' c.wide with h5 | h5
          · rw [blt_t h5, cond_true, cond_true]
          · rw [blt_f h5, cond_false, cond_false]
            exact h3 _ (by omega)
      · cases h

theorem con_setRow {c : Con} {i j : Nat} {k : IntKind} {n : Nat} {ws : List Int} {c' : Con} (h : conSetRow c i j k n ws = some c') (hi : i < c.n) :
    c'.n = c.n ∧ c'.size = c.size ∧ (∀ l, l < n → c'.cell i (j + l) = .int k (ws.getD l 0)) ∧ ∀ i' j', (i' ≠ i ∨ j' < j ∨ j + n ≤ j') → c'.cell i' j' = c.cell i' j' := by
  cases c <;> simp only [conSetRow, reduceCtorEq] at h
  rename_i cs xs
  simp only [Option.map_eq_some_iff] at h
  obtain ⟨y, h1, rfl⟩ := h
  simp only [Con.n] at hi
  obtain ⟨h2, h3⟩ := CL_setRow_ok h1
  refine ⟨by simp [Con.n], rfl, fun l hl => ?_, fun i' j' hne => ?_⟩
  · simp only [Con.cell]
    rw [show (xs.set i y).getD i (CL.d cs) = y from by simp [List.getD, hi]]
    exact h2 l hl
  · simp only [Con.cell]
    by_cases hii : i' = i
    · subst hii
      rw [show (xs.set i' y).getD i' (CL.d cs) = y from by simp [List.getD, hi]]
      exact h3 j' (by omega)
    · have : i ≠ i' := fun e => hii e.symm
      simp [List.getD, List.getElem?_set_ne this]

theorem con_set (c : Con) {i j : Nat} {v : SV} {c' : Con} (h : conSet c i j v = some c') : c'.n = c.n ∧ c'.size = c.size := by
  cases c <;> simp only [conSet] at h
  case recs => simp only [Option.some.injEq] at h; subst h; exact ⟨rfl, rfl⟩
  case typ =>
    simp only [Option.map_eq_some_iff] at h
    obtain ⟨y, _, rfl⟩ := h
    simp [Con.n, Con.size]
  all_goals
    split at h <;> first
      | (simp only [Option.some.injEq] at h; subst h; simp [Con.n, Con.size]; done)
      | (rw [Bool.cond_eq_ite] at h; split at h <;> first | (simp only [Option.some.injEq] at h; subst h; simp [Con.n, Con.size]; done) | cases h)
      | cases h

/-- What the row shows behind a store into one of its cells. -/
theorem con_set_cell (c : Con) {i j : Nat} {v : SV} {c' : Con} (h : conSet c i j v = some c') (hi : i < c.n) (hj : j < c.size) {u : Value} (hu : DenS O w v u) :
    DenS O w (c'.cell i j) u ∧ ∀ i' j', i' < c.n → j' < c.size → (i' ≠ i ∨ j' ≠ j) → c'.cell i' j' = c.cell i' j' := by
  cases c <;> simp only [conSet] at h
  case ints k zs =>
    simp only [Con.n, Con.size] at hi hj
    split at h <;> first
      | cases h
      | (rw [Bool.cond_eq_ite] at h
         split at h
         · rename_i hk
           obtain rfl := kindEq_eq hk
           simp only [Option.some.injEq] at h
           subst h
           cases hu
           simp only [Con.cell, Con.n, Con.size]
           refine ⟨by simp [List.getD, hi]; exact .int _ _, fun i' j' hi' hj' hne => ?_⟩
           have : i ≠ i' := by omega
           simp [List.getD, List.getElem?_set_ne this]
         · cases h)
  case strs zs =>
    simp only [Con.n, Con.size] at hi hj
    split at h <;> simp only [Option.some.injEq, reduceCtorEq] at h
    subst h
    cases hu
    simp only [Con.cell, Con.n, Con.size]
    refine ⟨by simp [List.getD, hi]; exact .str _, fun i' j' hi' hj' hne => ?_⟩
    have : i ≠ i' := by omega
    simp [List.getD, List.getElem?_set_ne this]
  case bools zs =>
    simp only [Con.n, Con.size] at hi hj
    split at h <;> simp only [Option.some.injEq, reduceCtorEq] at h
    all_goals
      subst h
      cases hu
      simp only [Con.cell, Con.n, Con.size]
      refine ⟨by simp [List.getD, hi]; exact .bool _, fun i' j' hi' hj' hne => ?_⟩
      have : i ≠ i' := by omega
      simp [List.getD, List.getElem?_set_ne this]
  case typ cs xs =>
    simp only [Con.n, Con.size] at hi hj
    simp only [Option.map_eq_some_iff] at h
    obtain ⟨y, h1, rfl⟩ := h
    obtain ⟨h2, h3⟩ := CL_set_ok h1
    simp only [Con.cell, Con.n, Con.size]
    refine ⟨by rw [show (xs.set i y).getD i (CL.d cs) = y from by simp [List.getD, hi]]; exact h2 O w u hu, fun i' j' hi' hj' hne => ?_⟩
    by_cases hii : i' = i
    · subst hii
      rw [show (xs.set i' y).getD i' (CL.d cs) = y from by simp [List.getD, hi]]
      exact h3 j' (by omega)
    · have : i ≠ i' := fun e => hii e.symm
      simp [List.getD, List.getElem?_set_ne this]
  case recs s n get =>
    simp only [Option.some.injEq] at h
    subst h
    simp only [Con.cell]
    refine ⟨by simp [hu], fun i' j' _ _ hne => ?_⟩
    have : (i' == i && j' == j) = false := by
      rcases hne with h | h <;> simp [h]
    simp [this]

theorem con_sets : ∀ (by_ : List AV) (c : Con) {i j : Nat} {c' : Con} {vs : List Value}, conSets c i j by_ = some c' → DenSegs ρ H O w by_ vs → i < c.n → j + wides by_ ≤ c.size →
    c'.n = c.n ∧ c'.size = c.size ∧ vs.length = wides by_ ∧ (∀ l u, vs[l]? = some u → DenS O w (c'.cell i (j + l)) u) ∧
    ∀ i' j', i' < c.n → j' < c.size → (i' ≠ i ∨ j' < j ∨ j + wides by_ ≤ j') → c'.cell i' j' = c.cell i' j'
  | [], c, i, j, c', vs, h, hd, hi, hj => by
    simp only [conSets, Option.some.injEq] at h
    subst h
    obtain rfl := DenSegs_nil.1 hd
    exact ⟨rfl, rfl, rfl, by simp, fun _ _ _ _ _ => rfl⟩
  | a :: as, c, i, j, c', vs, h, hd, hi, hj => by
    cases a with
    | s v =>
      simp only [conSets, Option.bind_eq_some_iff] at h
      obtain ⟨c1, h1, h2⟩ := h
      obtain ⟨cs1, cs2, rfl, hv, hr⟩ := DenSegs_cons.1 hd
      unfold DenC at hv
      obtain ⟨u, rfl, hu⟩ := hv
      simp only [wides, AV.wide] at hj
      obtain ⟨n1, s1⟩ := con_set c h1
      obtain ⟨g1, g2⟩ := con_set_cell c h1 hi (by omega) hu
      obtain ⟨k1, k2, k3, k4, k5⟩ := con_sets as c1 h2 hr (by omega) (by omega)
      refine ⟨k1.trans n1, k2.trans s1, by simp [k3, wides, AV.wide]; omega, fun l x hx => ?_, fun i' j' hi' hj' hne => ?_⟩
      · cases l with
        | zero =>
          simp at hx
          subst hx
          rw [Nat.add_zero, k5 i j (by omega) (by omega) (by omega)]
          exact g1
        | succ l =>
          have := k4 l x (by simpa using hx)
          rw [show j + (l + 1) = j + 1 + l from by omega]
          exact this
      · simp only [wides, AV.wide] at hne
        rw [k5 i' j' (by omega) (by omega) (by omega)]
        exact g2 i' j' hi' hj' (by omega)
    | ints k n ws =>
      simp only [conSets, Option.bind_eq_some_iff] at h
      obtain ⟨c1, h1, h2⟩ := h
      obtain ⟨cs1, cs2, rfl, hv, hr⟩ := DenSegs_cons.1 hd
      unfold DenC at hv
      obtain ⟨hl, rfl⟩ := hv
      simp only [wides, AV.wide] at hj
      obtain ⟨n1, s1, g1, g2⟩ := con_setRow h1 hi
      obtain ⟨k1, k2, k3, k4, k5⟩ := con_sets as c1 h2 hr (by omega) (by omega)
      refine ⟨k1.trans n1, k2.trans s1, by simp [k3, wides, AV.wide, hl], fun l x hx => ?_, fun i' j' hi' hj' hne => ?_⟩
      · rcases Nat.lt_or_ge l n with h5 | h5
        · rw [List.getElem?_append_left (by simp; omega)] at hx
          simp only [List.getElem?_map, Option.map_eq_some_iff] at hx
          obtain ⟨z, hz, rfl⟩ := hx
          rw [k5 i (j + l) (by omega) (by omega) (by omega), g1 l h5, show ws.getD l 0 = z from by simp [List.getD, hz]]
          exact .int _ _
        · rw [List.getElem?_append_right (by simp; omega)] at hx
          simp only [List.length_map, hl] at hx
          have := k4 (l - n) x hx
          rw [show j + n + (l - n) = j + l from by omega] at this
          exact this
      · simp only [wides, AV.wide] at hne
        rw [k5 i' j' (by omega) (by omega) (by omega)]
        exact g2 i' j' (by omega)
    | _ => simp [conSets] at h

theorem mid_get (l vs : List Value) (o : Nat) (h : o + vs.length ≤ l.length) (i : Nat) : (l.take o ++ vs ++ l.drop (o + vs.length))[i]? = if o ≤ i ∧ i < o + vs.length then vs[i - o]? else l[i]? := by
  have hto : (l.take o).length = o := by simp; omega
  by_cases h1 : i < o
  · rw [if_neg (by omega), List.append_assoc, List.getElem?_append_left (by omega), List.getElem?_take, if_pos h1]
  · by_cases h2 : i < o + vs.length
    · rw [if_pos (by omega), List.getElem?_append_left (by simp; omega), List.getElem?_append_right (by omega), hto]
    · rw [if_neg (by omega), List.getElem?_append_right (by simp; omega), List.getElem?_drop]
      congr 1
      simp
      omega

theorem get_getD {α : Type} (l : List α) (i : Nat) (d : α) (h : i < l.length) : l[i]? = some (l.getD i d) := by
  simp [List.getD, List.getElem?_eq_getElem h]

theorem idx_ne {size i i' j j' f : Nat} (hj : j < size) (hj' : j' < size) (h : f + i * size + j = f + i' * size + j') : i = i' ∧ j = j' := by
  have h1 : i * size + j = i' * size + j' := by omega
  have h2 : (i * size + j) / size = i := by rw [Nat.mul_comm, Nat.mul_add_div (by omega), Nat.div_eq_of_lt hj]; rfl
  have h3 : (i' * size + j') / size = i' := by rw [Nat.mul_comm, Nat.mul_add_div (by omega), Nat.div_eq_of_lt hj']; rfl
  have : i = i' := by rw [← h2, ← h3, h1]
  subst this
  exact ⟨rfl, by omega⟩

theorem storeR_ok {t : TypeId} {a x : AV} {va vx : Value} {q : Res} (h : (storeR P t a x).eval H = some q) (hs : Sat ρ H G w)
    (ha : DenV ρ H (Hot ρ H G) w a va) (hx : DenV ρ H (Hot ρ H G) w x vx) :
    ∃ w', (Instr.storeAt t va vx).run P w = .ok () w' ∧ ∀ base, Good ρ H G w (resH H q.up base q.new) (q.r base) undef w' := by
  unfold storeR at h
  split at h
  · rename_i sz isA hsz hag
    split at h
    · -- ptr
      rename_i id off
      unfold DenV Den1 at ha
      obtain ⟨b, hb, rfl, _⟩ := ha
      simp only [RM.eval] at h
      split at h
      · rename_i segs e ho
        obtain ⟨cells, fr, h1, h2, h3⟩ := own_obj hs ho hb
        cases isA
        · simp only [cond_false] at h
          rw [Bool.cond_eq_ite] at h
          split at h
          · rename_i hc
            simp only [Bool.and_eq_true, Nat.beq_eq] at hc
            obtain ⟨hsg, rfl⟩ := hc
            split at h
            · rename_i segs' hset
              simp only [RM.eval, Option.some.injEq] at h
              subst h
              obtain ⟨h4, h5⟩ := setCellAt_ok segs off hset h3 hsg hx
              obtain ⟨h6, h7⟩ := DenC_of_single hsg hx
              refine ⟨_, run_storeAt hsz (by rw [cells_one h7]; rfl) (run_storeCells_blk off _ 0 h1 h2 (by rw [cells_one h7]; simp; omega) (by rw [cells_one h7]; simpa using h7)), fun base => ?_⟩
              simp only [resH_up, cells_one h7, Nat.add_zero, List.length_singleton]
              exact Good.writeOwn hs ho hb h1 h2 (by simp; omega) (by rw [take_set_drop _ _ _ h4]; exact h5)
            · cases h
          · cases h
        · simp only [cond_true] at h
          split at h
          · rename_i by_ hby
            rw [Bool.cond_eq_ite] at h
            split at h
            · rename_i hc
              simp only [Bool.and_eq_true, Nat.beq_eq] at hc
              obtain ⟨hw, _⟩ := hc
              split at h
              · rename_i segs' hput
                simp only [RM.eval, Option.some.injEq] at h
                subst h
                have h4 := segsQ_ok hby hx
                have h5 := DenSegs_len h4
                obtain ⟨h6, h7⟩ := putSegs_ok hput h3 h4
                refine ⟨_, run_storeAt hsz (h5.trans hw) (run_storeCells_blk off _ 0 h1 h2 (by omega) (segs_one by_ h4)), fun base => ?_⟩
                simp only [resH_up, Nat.add_zero]
                exact Good.writeOwn hs ho hb h1 h2 (by simp only [List.length_append, List.length_take, List.length_drop]; omega) h7
              · cases h
            · cases h
          · cases h
      · cases h
    · -- ptrx
      rename_i id off n i
      unfold DenV Den1 at ha
      obtain ⟨hin, b, hb, rfl, _⟩ := ha
      simp only [RM.eval] at h
      split at h
      · rename_i segs e ho
        obtain ⟨cells, fr, h1, h2, h3⟩ := own_obj hs ho hb
        split at h
        · rename_i k m ws k' l y hrow hnum
          rw [Bool.cond_eq_ite] at h
          split at h
          · rename_i hc
            simp only [Bool.and_eq_true, Bool.not_eq_true', Nat.beq_eq] at hc
            obtain ⟨⟨⟨rfl, hk⟩, rfl⟩, rfl⟩ := hc
            obtain rfl := kindEq_eq hk
            split at h
            · rename_i segs' hset
              simp only [RM.eval, Option.some.injEq] at h
              subst h
              obtain rfl := num_den hnum hx
              obtain ⟨hl, pre, post, rfl, hp⟩ := rowAt'_ok segs off hrow h3
              have h4 := setRowAt_ok segs off hrow hset (by simp) h3 hp
              have hlt : off + i < (pre ++ ws.map (Value.int k) ++ post).length := by simp; omega
              refine ⟨_, run_storeAt hsz rfl (run_storeCells_blk (off + i) [.int k y] 0 h1 h2 (by simp; omega) (by simp [Value.oneCell'])), fun base => ?_⟩
              simp only [resH_up, Nat.add_zero, List.length_singleton]
              refine Good.writeOwn hs ho hb h1 h2 (by rw [take_set_drop _ _ _ hlt]; simp) ?_
              rw [take_set_drop _ _ _ hlt, List.append_assoc, List.set_append_right _ _ (by omega), List.set_append_left _ _ (by simp; omega), show off + i - pre.length = i from by omega, ← List.append_assoc]
              rw [List.map_set] at h4
              exact h4
            · cases h
          · cases h
        · cases h
      · cases h
    · -- vptr
      rename_i id i j
      unfold DenV Den1 at ha
      obtain ⟨_, o, ho, hv⟩ := ha
      simp only [RM.eval] at h
      split at h
      · rename_i c e ho'
        rw [ho] at ho'
        cases ho'
        obtain ⟨hi, hj, b, f, n, cap, hroot, rfl⟩ := hv c e rfl
        split at h
        · rename_i by_ hby
          rw [Bool.cond_eq_ite] at h
          split at h
          · rename_i hc
            simp only [Bool.and_eq_true, Nat.beq_eq] at hc
            obtain ⟨hw, hle⟩ := hc
            have hle := Nat.le_of_ble_eq_true hle
            split at h
            · rename_i c' hset
              simp only [RM.eval, Option.some.injEq] at h
              subst h
              have h4 := segsQ_ok hby hx
              obtain ⟨k1, k2, k3, k4, k5⟩ := con_sets by_ c hset h4 hi (by omega)
              obtain ⟨a, cap', h5, h6, h7, h8⟩ := hs.obj id _ ho
              rw [hroot] at h5
              cases h5
              rcases h8 with rfl | ⟨b', o', cells, fr, us, e1, g1, g2, g3, g4⟩
              · omega
              · cases e1
                have hbk : blk (ρ id) = some b := by
                  rw [hroot]
                  simp only [blk]
                  rw [if_neg (by omega)]
                have hmul : i * c.size + c.size ≤ cap * c.size := by
                  rw [← Nat.succ_mul]
                  exact Nat.mul_le_mul_right _ (by omega)
                have hlen : f + i * c.size + j + vx.cells.toList.length ≤ cells.length := by omega
                have st := write_step (G := G) (w := w) (o' := .vec c' e) ho rfl hbk (fun c1 e1 hc1 => by cases hc1; exact ⟨c, e, rfl, k1, k2⟩)
                  (.cells (cells.take (f + i * c.size + j) ++ vx.cells.toList ++ cells.drop (f + i * c.size + j + vx.cells.toList.length)).toArray e fr)
                refine ⟨_, run_storeAt hsz (k3.trans hw) (run_storeCells_blk (f + i * c.size + j) _ 0 g1 g2 (by omega) (segs_one by_ h4)), fun base => ?_⟩
                simp only [resH_up, Nat.add_zero]
                refine Good.write hs ho rfl rfl hbk (fun c1 e1 hc1 => by cases hc1; exact ⟨c, e, rfl, k1, k2⟩) ?_ den_undef
                refine ⟨some ⟨b, f, none⟩, cap, by rw [hroot, k1], by omega, h7, .inr ⟨b, f, _, fr, fun i' j' => if i' = i ∧ j ≤ j' ∧ j' < j + wides by_ then (vx.cells.toList.getD (j' - j) undef) else us i' j', rfl, setBlk_get g1, ?_, ?_, ?_⟩⟩
                · have : (cells.take (f + i * c.size + j) ++ vx.cells.toList ++ cells.drop (f + i * c.size + j + vx.cells.toList.length)).length = cells.length := by
                    simp only [List.length_append, List.length_take, List.length_drop]; omega
                  rw [this]; exact g2
                · simp only [List.length_append, List.length_take, List.length_drop]
                  rw [k2]; omega
                · intro i' j' hi' hj'
                  rw [k1] at hi'
                  rw [k2] at hj'
                  rw [k2, mid_get _ _ _ hlen]
                  dsimp only
                  by_cases hin : i' = i ∧ j ≤ j' ∧ j' < j + wides by_
                  · obtain ⟨rfl, h9, h10⟩ := hin
                    rw [if_pos ⟨by omega, by omega⟩, if_pos ⟨rfl, h9, h10⟩]
                    have hx1 : j' - j < vx.cells.toList.length := by omega
                    refine ⟨by rw [show f + i' * c.size + j' - (f + i' * c.size + j) = j' - j from by omega]; exact get_getD _ _ _ hx1, ?_⟩
                    have := k4 (j' - j) _ (get_getD _ _ undef hx1)
                    rw [show j + (j' - j) = j' from by omega] at this
                    exact this.step st.hot st.heap st.size
                  · rw [if_neg hin]
                    have hout : ¬ (f + i * c.size + j ≤ f + i' * c.size + j' ∧ f + i' * c.size + j' < f + i * c.size + j + vx.cells.toList.length) := by
                      rintro ⟨h9, h10⟩
                      have hd : f + i * c.size + (f + i' * c.size + j' - (f + i * c.size)) = f + i' * c.size + j' := by omega
                      obtain ⟨h11, h12⟩ := idx_ne (f := f) (i := i) (i' := i') (j := f + i' * c.size + j' - (f + i * c.size)) (by omega) hj' hd
                      subst h11
                      exact hin ⟨rfl, by omega, by omega⟩
                    rw [if_neg hout, k5 i' j' hi' hj' (by omega)]
                    obtain ⟨h9, h10⟩ := g4 i' j' hi' hj'
                    exact ⟨h9, h10.step st.hot st.heap st.size⟩
            · cases h
          · cases h
        · cases h
      · cases h
    · cases h
  · cases h
end
end Go.Sx
