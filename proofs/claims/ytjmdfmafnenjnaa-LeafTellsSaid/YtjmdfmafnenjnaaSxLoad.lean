import Derived.Test.YtjmdfmafnenjnaaSxHeap
/-! Loads, addresses, parts: operations that read. -/
namespace Go.Sx
open Go

def ValOK (P : Program) (ρ : Nat → Value) (H : AHeap) (O : Nat → Prop) (w : World) (q : Res) (s : Sem Value) : Prop :=
  q.up = [] ∧ q.new = [] ∧ ∃ v, s.run P w = .ok v w ∧ ∀ base, DenV ρ H O w (q.r base) v

section
variable {ρ ρ' : Nat → Value} {H H' : AHeap} {G O O' : Nat → Prop} {w w' : World} {P : Program}

theorem plain_ok {need : List Prop} {r : AV} {q : Res} {s : Sem Value} (h : (plain need r).eval H = some q) (f : Needs need → ∃ v, s.run P w = .ok v w ∧ DenV ρ H O w r v) (hn : Needs q.need) : ValOK P ρ H O w q s := by
  simp only [plain, RM.eval, Option.some.injEq] at h
  subst h
  obtain ⟨v, h1, h2⟩ := f hn
  exact ⟨rfl, rfl, v, h1, fun _ => h2⟩

theorem run_isAgg {t : TypeId} {b : Bool} (h : aggT P t = some b) (w : World) : (isAgg t).run P w = .ok b w := by
  unfold aggT at h
  split at h <;> first | (cases h; rename_i ht; simp [isAgg, run_underlying ht]; done) | cases h

theorem range_map_get {f : Nat → Value} {n j : Nat} {v : Value} (h : ((List.range n).map f)[j]? = some v) : j < n ∧ v = f j := by
  by_cases hj : j < n
  · rw [List.getElem?_map, List.getElem?_range hj] at h
    simp at h
    exact ⟨hj, h.symm⟩
  · rw [List.getElem?_eq_none (by simp; omega)] at h
    cases h

theorem run_sizeOf {t : TypeId} {n : Nat} (h : szOf P t = some n) (w : World) : (sizeOf t).run P w = .ok n w := by
  simp only [szOf, Option.map_eq_some_iff] at h
  obtain ⟨i, hi, rfl⟩ := h
  simp [sizeOf, typeInfo, hi]

theorem cell_of_blk {b : Nat} {cells : List Value} {e : TypeId} {fr : Nat × Nat} (hb : w.heap[b]? = some (.cells cells.toArray e fr)) (off : Nat) : w.cell? ⟨b, off, none⟩ = cells[off]? := by
  simp [World.cell?, hb]

/-- A load of several cells. -/
theorem run_loadVar_agg {t : TypeId} {n b off : Nat} {cs : List Value} (ha : aggT P t = some true) (hs : szOf P t = some n) (hl : cs.length = n) (hc : ∀ j v, cs[j]? = some v → w.cell? ⟨b, off + j, none⟩ = some v) :
    (Instr.loadAt t (.pointer (some ⟨b, off, none⟩))).run P w = .ok (.agg cs.toArray) w := by
  subst hl
  have := run_loadCells_list (P := P) (w := w) ⟨b, off, none⟩ cs (fun j v hj => by rw [add_zero_spot]; exact hc j v hj)
  simp [Instr.loadAt, Instr.sureAddr, loadVar, run_isAgg ha, run_sizeOf hs, this]

theorem run_loadVar_one {t : TypeId} {b off : Nat} {v : Value} (ha : aggT P t = some false) (hc : w.cell? ⟨b, off, none⟩ = some v) :
    (Instr.loadAt t (.pointer (some ⟨b, off, none⟩))).run P w = .ok v w := by
  simp [Instr.loadAt, Instr.sureAddr, loadVar, run_isAgg ha, hc]

theorem own_obj (hs : Sat ρ H G w) {id b : Nat} {segs : List AV} {e : TypeId} (ho : H id = some (.own segs e)) (hb : ρ id = .pointer (some ⟨b, 0, none⟩)) :
    ∃ cells fr, w.heap[b]? = some (.cells cells.toArray e fr) ∧ unm fr cells.length ∧ DenSegs ρ H (Hot ρ H G) w segs cells := by
  obtain ⟨b', cells, fr, h1, h2⟩ := hs.obj id _ ho
  rw [hb] at h1
  cases h1
  exact ⟨cells, fr, h2⟩

theorem vec_cells (hs : Sat ρ H G w) {id i b f n cap : Nat} {c : Con} {e : TypeId} (ho : H id = some (.vec c e)) (hi : i < c.n) (hroot : ρ id = .slice (some ⟨b, f, none⟩) n cap) :
    ∃ us : Nat → Nat → Value, ∀ i j, i < c.n → j < c.size → w.cell? ⟨b, f + i * c.size + j, none⟩ = some (us i j) ∧ DenS (Hot ρ H G) w (c.cell i j) (us i j) := by
  obtain ⟨a, cap', h1, h2, h3, h4⟩ := hs.obj id _ ho
  rw [hroot] at h1
  cases h1
  rcases h4 with rfl | ⟨b', o, cells, fr, us, h5, h6, h7, h8, h9⟩
  · omega
  · cases h5
    exact ⟨us, fun i j hi hj => ⟨by rw [cell_of_blk h6]; exact (h9 i j hi hj).1, (h9 i j hi hj).2⟩⟩

theorem DenSegs_svs (n : Nat) (f : Nat → SV) (us : Nat → Value) (h : ∀ i, i < n → DenS O w (f i) (us i)) : DenSegs ρ H O w ((List.range n).map fun i => .s (f i)) ((List.range n).map us) := by
  induction n with
  | zero => simp [DenSegs_nil]
  | succ n ih =>
    rw [List.range_succ, List.map_append, List.map_append]
    exact DenSegs_append.2 ⟨_, _, rfl, ih (fun i hi => h i (by omega)), DenSegs_cons.2 ⟨[us n], [], rfl, by unfold DenC; exact ⟨_, rfl, h n (by omega)⟩, DenSegs_nil.2 rfl⟩⟩

theorem blt_t {a b : Nat} (h : a < b) : a.blt b = true := Nat.ble_eq_true_of_le h
theorem blt_f {a b : Nat} (h : b ≤ a) : a.blt b = false := by
  cases hh : a.blt b
  · rfl
  · exact absurd (Nat.le_of_ble_eq_true hh) (by omega)

theorem CL_segs_ok : ∀ (cs : List CK) (x : CL cs) (us : Nat → Value) (off : Nat), (∀ l, l < CL.wide cs → DenS O w (CL.cell cs x l) (us (off + l))) → Needs (segNeeds (CL.segs cs x)) →
    DenSegs ρ H O w (CL.segs cs x) ((List.range (CL.wide cs)).map fun l => us (off + l))
  | [], x, us, off, h, hn => DenSegs_nil.2 (by simp [CL.wide])
  | c :: cs, x, us, off, h, hn => by
    have key : ∀ a : AV, CL.segs (c :: cs) x = a :: CL.segs cs x.2 → c.wide = 1 → (∀ y, DenS O w (c.cell x.1 0) y → DenC ρ H O w a [y]) → Needs (segNeeds (CL.segs cs x.2)) →
        DenSegs ρ H O w (CL.segs (c :: cs) x) ((List.range (CL.wide (c :: cs))).map fun l => us (off + l)) := by
      intro a e hw ha hn2
      rw [e]
      simp only [CL.wide, hw]
      rw [List.range_add, List.map_append, List.map_map]
      refine DenSegs_cons.2 ⟨_, _, rfl, ?_, ?_⟩
      · have := h 0 (by simp only [CL.wide]; omega)
        simp only [CL.cell, hw, blt_t (show 0 < 1 from by omega), cond_true] at this
        simpa using ha _ this
      · have ih := CL_segs_ok cs x.2 us (off + 1) (fun l hl => ?_) hn2
        · have e2 : (fun l => us (off + 1 + l)) = (fun l => us (off + l)) ∘ (fun x => 1 + x) := by funext l; simp [Function.comp, Nat.add_assoc]
          rw [e2] at ih
          exact ih
        · have := h (1 + l) (by simp only [CL.wide]; omega)
          simp only [CL.cell, hw] at this
          rw [blt_f (show 1 ≤ 1 + l from by omega), cond_false, show 1 + l - 1 = l from by omega, ← Nat.add_assoc] at this
          exact this
    have one : ∀ {sv : SV} {y : Value}, DenS O w sv y → DenC ρ H O w (.s sv) [y] := fun hy => by unfold DenC; exact ⟨_, rfl, hy⟩
    cases c with
    | arr k n =>
      obtain ⟨x1, x2⟩ := x
      change List Int at x1
      simp only [CL.segs, segNeeds] at hn ⊢
      obtain ⟨hl, hn2⟩ := hn
      simp only [CL.wide, CK.wide]
      rw [List.range_add, List.map_append, List.map_map]
      refine DenSegs_cons.2 ⟨_, _, rfl, ?_, ?_⟩
      · unfold DenC
        refine ⟨hl, ?_⟩
        refine List.ext_getElem (by simp [hl]) fun i h1 h2 => ?_
        have hi : i < n := by simpa using h1
        have := h i (by simp only [CL.wide, CK.wide]; omega)
        simp only [CL.cell, CK.wide] at this
        rw [blt_t hi, cond_true] at this
        simp only [CK.cell] at this
        have hx : x1.getD i 0 = x1[i]'(by rw [hl]; exact hi) := by simp [List.getD, hl, hi]
        rw [hx] at this
        simp only [List.getElem_map, List.getElem_range]
        generalize us (off + i) = u at this ⊢
        cases this
        rfl
      · have ih := CL_segs_ok cs x2 us (off + n) (fun l hl => ?_) hn2
        · have e2 : (fun l => us (off + n + l)) = (fun l => us (off + l)) ∘ (fun x => n + x) := by funext l; simp [Function.comp, Nat.add_assoc]
          rw [e2] at ih
          exact ih
        · have := h (n + l) (by simp only [CL.wide, CK.wide]; omega)
          simp only [CL.cell, CK.wide] at this
          rw [blt_f (show n ≤ n + l from by omega), cond_false, show n + l - n = l from by omega, ← Nat.add_assoc] at this
          exact this
    | int k => exact key _ rfl rfl (fun y hy => one hy) (by simpa [CL.segs, segNeeds] using hn)
    | bool => exact key _ rfl rfl (fun y hy => one hy) (by simpa [CL.segs, segNeeds] using hn)
    | str => exact key _ rfl rfl (fun y hy => one hy) (by simpa [CL.segs, segNeeds] using hn)
    | ints k => exact key _ rfl rfl (fun y hy => one hy) (by simpa [CL.segs, segNeeds] using hn)
    | strs => exact key _ rfl rfl (fun y hy => one hy) (by simpa [CL.segs, segNeeds] using hn)
    | bools => exact key _ rfl rfl (fun y hy => one hy) (by simpa [CL.segs, segNeeds] using hn)
    | rows ds => exact key _ rfl rfl (fun y hy => one hy) (by simpa [CL.segs, segNeeds] using hn)

theorem elemLoad_ok {isA : Bool} {c : Con} {i j sz : Nat} {t : TypeId} {q : Res} (h : (elemLoad isA c i j sz).eval H = some q) (hn : Needs q.need) (hag : aggT P t = some isA) (hsz : szOf P t = some sz) {b o : Nat} {us : Nat → Value}
    (hc : ∀ l, l < c.size → w.cell? ⟨b, o + l, none⟩ = some (us l) ∧ DenS O w (c.cell i l) (us l)) : ValOK P ρ H O w q (Instr.loadAt t (.pointer (some ⟨b, o + j, none⟩))) := by
  unfold elemLoad at h
  cases isA
  · simp only [cond_false] at h
    rw [Bool.cond_eq_ite] at h
    split at h
    · rename_i hlt
      have hlt : j < c.size := by simpa [Nat.blt, Nat.lt_iff_add_one_le] using hlt
      exact plain_ok h (fun _ => ⟨us j, run_loadVar_one hag (hc j hlt).1, DenV_s (hc j hlt).2⟩) hn
    · cases h
  · simp only [cond_true] at h
    split at h
    · rename_i cs xs
      split at h
      · rename_i ss hss
        refine plain_ok h (fun hneed => ?_) hn
        have hd := CL_segs_ok (ρ := ρ) (H := H) cs (xs.getD i (CL.d cs)) us 0 (fun l hl => by rw [Nat.zero_add]; exact (hc l hl).2) hneed
        simp only [Nat.zero_add] at hd
        simp only [Option.bind_eq_some_iff] at hss
        obtain ⟨s1, h4, h5⟩ := hss
        obtain ⟨h6, h7⟩ := dropSegs_ok _ j h4 hd
        obtain ⟨h8, h9⟩ := takeSegs_ok s1 sz h5 h7
        refine ⟨_, run_loadVar_agg (cs := (((List.range (CL.wide cs)).map us).drop j).take sz) hag hsz (by simp at h8 ⊢; omega) (fun l v hv => ?_), ofSegs_ok h9⟩
        rw [List.getElem?_take] at hv
        split at hv
        · rw [List.getElem?_drop] at hv
          obtain ⟨hlt, rfl⟩ := range_map_get hv
          rw [Nat.add_assoc]
          exact (hc (j + l) hlt).1
        · cases hv
      · cases h
    · rw [Bool.cond_eq_ite] at h
      split at h
      · rename_i hle
        have hle := Nat.le_of_ble_eq_true hle
        refine plain_ok h (fun _ => ⟨_, run_loadVar_agg (cs := (List.range sz).map fun l => us (j + l)) hag hsz (by simp) (fun l v hv => ?_), ?_⟩) hn
        · obtain ⟨hlt, rfl⟩ := range_map_get hv
          rw [Nat.add_assoc]
          exact (hc (j + l) (by omega)).1
        · unfold DenV
          exact ⟨_, rfl, DenSegs_svs sz (fun l => c.cell i (j + l)) (fun l => us (j + l)) (fun l hl => (hc (j + l) (by omega)).2)⟩
      · cases h


theorem loadR_ok {t : TypeId} {a : AV} {va : Value} {q : Res} (h : (loadR P t a).eval H = some q) (hn : Needs q.need) (hs : Sat ρ H G w) (hd : DenV ρ H (Hot ρ H G) w a va) :
    ValOK P ρ H (Hot ρ H G) w q (Instr.loadAt t va) := by
  unfold loadR at h
  split at h
  · rename_i sz isA hsz hag
    split at h
    · -- ptr
      rename_i id off
      unfold DenV Den1 at hd
      obtain ⟨b, hb, rfl, _⟩ := hd
      simp only [RM.eval] at h
      split at h
      · rename_i segs e ho
        obtain ⟨cells, fr, h1, h2, h3⟩ := own_obj hs ho hb
        cases isA
        · simp only [cond_false] at h
          split at h
          · rename_i v hv
            obtain ⟨u, h4, h5, h6⟩ := cellAt_ok segs off hv h3
            exact plain_ok h (fun _ => ⟨u, run_loadVar_one hag (by rw [cell_of_blk h1]; exact h4), h6⟩) hn
          · cases h
        · simp only [cond_true] at h
          split at h
          · rename_i ss hss
            simp only [Option.bind_eq_some_iff] at hss
            obtain ⟨s1, h4, h5⟩ := hss
            obtain ⟨h6, h7⟩ := dropSegs_ok segs off h4 h3
            obtain ⟨h8, h9⟩ := takeSegs_ok s1 sz h5 h7
            refine plain_ok h (fun _ => ⟨_, run_loadVar_agg (cs := (cells.drop off).take sz) hag hsz (by simp at h8 ⊢; omega) (fun j v hj => ?_), ofSegs_ok h9⟩) hn
            rw [cell_of_blk h1]
            rw [List.getElem?_take] at hj
            split at hj
            · simpa using hj
            · cases hj
          · cases h
      · cases h
    · -- ptrx
      rename_i id off n i
      unfold DenV Den1 at hd
      obtain ⟨hin, b, hb, rfl, _⟩ := hd
      simp only [RM.eval] at h
      split at h
      · rename_i segs e ho
        obtain ⟨cells, fr, h1, h2, h3⟩ := own_obj hs ho hb
        split at h
        · rename_i k m ws hrow
          rw [Bool.cond_eq_ite] at h
          split at h
          · rename_i hc
            simp only [Bool.and_eq_true, Bool.not_eq_true', Nat.beq_eq] at hc
            obtain ⟨rfl, rfl⟩ := hc
            obtain ⟨hl, pre, post, rfl, hp⟩ := rowAt'_ok segs off hrow h3
            have hi : i < ws.length := by omega
            refine plain_ok h (fun _ => ⟨.int k (ws.getD i 0), run_loadVar_one hag ?_, DenV_s (.int _ _)⟩) hn
            rw [cell_of_blk h1, List.append_assoc, List.getElem?_append_right (by omega), List.getElem?_append_left (by simp; omega)]
            rw [show off + i - pre.length = i from by omega]
            simp [hi]
          · cases h
        · cases h
      · cases h
    · -- eptr
      unfold DenV Den1 at hd
      obtain ⟨b, o, us, rfl, _, _, hc⟩ := hd
      exact elemLoad_ok h hn hag hsz hc
    · -- vptr
      rename_i id i j
      unfold DenV Den1 at hd
      obtain ⟨_, o, ho, hv⟩ := hd
      simp only [RM.eval] at h
      split at h
      · rename_i c e ho'
        rw [ho] at ho'
        cases ho'
        obtain ⟨hi, hj, b, f, n, cap, hroot, rfl⟩ := hv c e rfl
        obtain ⟨us, hc⟩ := vec_cells hs ho hi hroot
        exact elemLoad_ok (us := fun l => us i l) h hn hag hsz (fun l hl => hc i l hi hl)
      · cases h
    · cases h
  · cases h
end
end Go.Sx
