import Derived.Test.YtjmdfmafnenjnaaSxRun
/-! A region in the order of its text; a function's run. -/
namespace Go.Sx
open Go

section
variable {ρ ρ' : Nat → Value} {H H' : AHeap} {G O O' : Nat → Prop} {w w' : World} {P : Program} {S : SummB} {Z : Glob} {X : Ctx} {s : St} {a : Act} {K : List AObj → AV → Prop} {C : Cfg → Prop}

theorem needs_holds : ∀ (ps : List Prop) (t : Tree), (Tree.needs ps t).Holds K C → Needs ps ∧ t.Holds K C
  | [], t, h => ⟨trivial, h⟩
  | p :: ps, t, h => by
    obtain ⟨h1, h2⟩ := h
    obtain ⟨h3, h4⟩ := needs_holds ps t h2
    exact ⟨⟨h1, h3⟩, h4⟩

theorem ups_in {n : Nat} {us : List (Nat × AObj)} (h : upsOk n us = true) : upsIn n us := by
  unfold upsOk at h
  intro j hj
  induction us with
  | nil => rfl
  | cons u us ih =>
    obtain ⟨id, o⟩ := u
    simp only [List.all_cons, Bool.and_eq_true] at h
    have h1 : id < n := by simpa [Nat.blt, Nat.lt_iff_add_one_le] using h.1
    simp only [findUp]
    rw [ih h.2, if_neg (by omega)]

theorem Rep.skip (h : Rep X ρ s a w) (dst : Option Tmp) : Rep X ρ { s with tmps := setSlot s.tmps dst (.tup []) } (a.put dst undef) w := by
  obtain ⟨arr, df⟩ := a
  have hp := put_den (ρ := ρ) (H := s.look) (O := Hot ρ s.look X.G) (w := w) h.size h.den dst (r := .tup []) (v := undef) den_undef df
  exact ⟨h.sat, hp.1, hp.2, by have := h.defers; cases dst <;> exact this, h.from_, h.frm⟩

theorem Rep.refine (h : Rep X ρ s a w) {d : Nat} {x y : AV} (hx : s.tmps.getD d (.s .junk) = x) (hxy : ∀ v, DenV ρ s.look (Hot ρ s.look X.G) w x v → DenV ρ s.look (Hot ρ s.look X.G) w y v) : Rep X ρ { s with tmps := s.tmps.set d y } a w := by
  refine ⟨h.sat, by simp [h.size], fun t => ?_, h.defers, h.from_, h.frm⟩
  simp only []
  rw [getD_set_list]
  split
  · rename_i hc
    obtain ⟨rfl, _⟩ := hc
    have := h.den t
    rw [hx] at this
    exact hxy _ this
  · exact h.den t

theorem Rep.refine1 (h : Rep X ρ s a w) {d : Nat} {x y : AV} (hx : s.tmps.getD d (.s .junk) = x) (hxy : DenV ρ s.look (Hot ρ s.look X.G) w y (a.tmps.getD d undef)) : Rep X ρ { s with tmps := s.tmps.set d y } a w := by
  refine ⟨h.sat, by simp [h.size], fun t => ?_, h.defers, h.from_, h.frm⟩
  simp only []
  rw [getD_set_list]
  split
  · rename_i hc
    obtain ⟨rfl, _⟩ := hc
    exact hxy
  · exact h.den t

theorem Rep.drew (h : Rep X ρ s a w) : Rep X ρ s a { w with drawn := w.drawn + 1 } := by
  have st : Step ρ s.look (Hot ρ s.look X.G) w ρ s.look (Hot ρ s.look X.G) { w with drawn := w.drawn + 1 } :=
    ⟨fun _ _ _ => rfl, fun _ o h => ⟨o, h, fun c' e' e => ⟨c', e', e, rfl, rfl⟩⟩, fun _ h => .inl h, fun _ _ _ => rfl, Nat.le_refl _⟩
  refine ⟨⟨fun id o ho => (h.sat.obj id o ho).step st (fun _ _ _ => rfl), h.sat.inj, h.sat.apart, h.sat.low⟩, h.size, fun t => DenV.step st _ _ (h.den t), h.defers, h.from_.trans st, h.frm.os, h.frm.tape, h.frm.output, h.frm.heap⟩

theorem blit_get (h : Rep X ρ s a w) {d : Nat} {b : Bool} (hx : s.tmps.getD d (.s .junk) = .s (.blit b)) : a.tmps[d]? = some (.bool b) := by
  have h1 := h.den d
  rw [hx] at h1
  have h2 := DenS_of_V (by simp) h1
  have hlt : d < s.tmps.length := by
    rcases Nat.lt_or_ge d s.tmps.length with h3 | h3
    · exact h3
    · rw [List.getD, List.getElem?_eq_none h3] at hx
      simp at hx
  rw [h.size] at hlt
  have h4 : a.tmps.getD d undef = a.tmps[d] := by simp [Array.getD, hlt]
  rw [h4] at h2
  rw [Array.getElem?_eq_getElem hlt]
  generalize a.tmps[d] = u at h2
  cases h2
  rfl

theorem undef_get (h : Rep X ρ s a w) {d : Nat} (hx : s.tmps.getD d (.s .junk) = .tup []) : a.tmps[d]? = some undef := by
  have h1 := h.den d
  rw [hx] at h1
  have hlt : d < s.tmps.length := by
    rcases Nat.lt_or_ge d s.tmps.length with h3 | h3
    · exact h3
    · rw [List.getD, List.getElem?_eq_none h3] at hx
      simp at hx
  rw [h.size] at hlt
  have h4 : a.tmps.getD d undef = a.tmps[d] := by simp [Array.getD, hlt]
  rw [h4] at h1
  unfold DenV at h1
  obtain ⟨us, h5, h6⟩ := h1
  obtain rfl := DenL_nil.1 h6
  rw [Array.getElem?_eq_getElem hlt, h5]
  rfl

theorem bool_refine {b : Bool} (v : Value) (h : DenV ρ H O w (.s (.bool b)) v) : DenV ρ H O w (.s (.blit b)) v := by
  have := DenS_of_V (by simp) h
  cases this
  exact DenV_s (.blit b)

/-- The operations from number i on, in the order of the text. -/
theorem runOps_ok (hS : SOk P S Z) (hzc : ZCtx Z X) {ops : Array Oper} {cont : St → List Touch → Tree} : ∀ (l : List Oper) (i : Nat) (s : St) (tr : List Touch), (∀ j, l[j]? = ops[i + j]?) → (runOps P S ops cont i l s tr).Holds K C →
    ∀ (ρ : Nat → Value) (a : Act) (w : World), Rep X ρ s a w →
    wpOps P ops (fun e a' w' => e = .normal ∧ ∃ ρ' s' tr', Rep X ρ' s' a' w' ∧ (cont s' tr').Holds K C) (List.range' i l.length) a w
  | [], i, s, tr, _, h, ρ, a, w, hr => ⟨rfl, ρ, s, tr, hr, h⟩
  | o :: rest, i, s, tr, hl, h, ρ, a, w, hr => by
    have ho : ops[i]? = some o := by simpa using (hl 0).symm
    have hl' : ∀ j, rest[j]? = ops[i + 1 + j]? := fun j => by
      have := hl (j + 1)
      rw [show i + (j + 1) = i + 1 + j from by omega] at this
      simpa using this
    simp only [List.length_cons, List.range'_succ, wpOps, ho]
    have hgo : ∀ (s : St), Rep X ρ s a w → Region.wanted o (yielded ops a.tmps) = true →
        (match (opR P (S s.H.length) (evOf s.tmps) o).eval s.look with
          | some r => bif upsOk s.H.length r.up then Tree.needs r.need (runOps P S ops cont (i + 1) rest (s.put o.dst r) (⟨i, (opR P (S s.H.length) (evOf s.tmps) o).ids s.look, upIds r.up ++ (List.range r.new.length).map (s.H.length + ·)⟩ :: tr)) else .stuck "up"
          | none => .stuck (o.pos ++ " " ++ (opR P (S s.H.length) (evOf s.tmps) o).why s.look)).Holds K C →
        (if Region.wanted o (yielded ops a.tmps) then o.wp P a w (wpOps P ops (fun e a' w' => e = .normal ∧ ∃ ρ' s' tr', Rep X ρ' s' a' w' ∧ (cont s' tr').Holds K C) (List.range' (i + 1) rest.length)) (fun e a' w' => e = .normal ∧ ∃ ρ' s' tr', Rep X ρ' s' a' w' ∧ (cont s' tr').Holds K C) ∨ (o.asks P a w ∧ LetsOut (fun e a' w' => e = .normal ∧ ∃ ρ' s' tr', Rep X ρ' s' a' w' ∧ (cont s' tr').Holds K C))
          else wpOps P ops (fun e a' w' => e = .normal ∧ ∃ ρ' s' tr', Rep X ρ' s' a' w' ∧ (cont s' tr').Holds K C) (List.range' (i + 1) rest.length) (a.put o.dst undef) w) := by
      intro s hr hw h
      rw [if_pos hw]
      split at h
      · rename_i q hq
        rw [Bool.cond_eq_ite] at h
        split at h
        · rename_i hup
          obtain ⟨hn, h2⟩ := needs_holds _ _ h
          refine .inl (yields_wp (hr.op hS hzc hq hn (ups_in hup)) (fun v w' ⟨ρ', hr'⟩ => ?_))
          exact runOps_ok hS hzc rest (i + 1) _ _ hl' h2 ρ' _ w' hr'
        · exact h.elim
      · exact h.elim
    have hskip : ∀ (s : St), Rep X ρ s a w → Region.wanted o (yielded ops a.tmps) = false → (runOps P S ops cont (i + 1) rest { s with tmps := setSlot s.tmps o.dst (.tup []) } tr).Holds K C →
        (if Region.wanted o (yielded ops a.tmps) then o.wp P a w (wpOps P ops (fun e a' w' => e = .normal ∧ ∃ ρ' s' tr', Rep X ρ' s' a' w' ∧ (cont s' tr').Holds K C) (List.range' (i + 1) rest.length)) (fun e a' w' => e = .normal ∧ ∃ ρ' s' tr', Rep X ρ' s' a' w' ∧ (cont s' tr').Holds K C) ∨ (o.asks P a w ∧ LetsOut (fun e a' w' => e = .normal ∧ ∃ ρ' s' tr', Rep X ρ' s' a' w' ∧ (cont s' tr').Holds K C))
          else wpOps P ops (fun e a' w' => e = .normal ∧ ∃ ρ' s' tr', Rep X ρ' s' a' w' ∧ (cont s' tr').Holds K C) (List.range' (i + 1) rest.length) (a.put o.dst undef) w) := by
      intro s hr hw h
      rw [if_neg (by rw [hw]; simp)]
      exact runOps_ok hS hzc rest (i + 1) _ _ hl' h ρ _ w (hr.skip o.dst)
    unfold runOps at h
    simp only [] at h
    split at h
    · rename_i hg
      exact hgo s hr (by simp [Region.wanted, hg]) h
    · rename_i g want hg
      split at h
      · exact h.elim
      · rename_i d hd
        split at h
        · rename_i b hb
          have hy : yielded ops a.tmps g = some b := by
            simp only [yielded, hd, Option.bind_some, blit_get hr hb]
          rw [Bool.cond_eq_ite] at h
          split at h
          · rename_i hbw
            exact hgo s hr (by simp only [Region.wanted, hg, hy]; simpa using hbw) h
          · rename_i hbw
            exact hskip s hr (by simp only [Region.wanted, hg, hy]; simpa using hbw) h
        · rename_i b hb
          have hr' : Rep X ρ { s with tmps := s.tmps.set d (.s (.blit b)) } a w := hr.refine hb bool_refine
          have hlt : d < s.tmps.length := by
            rcases Nat.lt_or_ge d s.tmps.length with h3 | h3
            · exact h3
            · rw [List.getD, List.getElem?_eq_none h3] at hb
              simp at hb
          have hy : yielded ops a.tmps g = some b := by
            simp only [yielded, hd, Option.bind_some]
            rw [blit_get hr' (d := d) (b := b) (by simp [List.getD, hlt])]
          obtain ⟨h1, h2⟩ := h
          cases b
          · have h2 := h2 rfl
            cases want
            · exact hgo _ hr' (by simp only [Region.wanted, hg, hy]; rfl) h2
            · exact hskip _ hr' (by simp only [Region.wanted, hg, hy]; rfl) h2
          · have h1 := h1 rfl
            cases want
            · exact hskip _ hr' (by simp only [Region.wanted, hg, hy]; rfl) h1
            · exact hgo _ hr' (by simp only [Region.wanted, hg, hy]; rfl) h1
        · rename_i hb
          have hy : yielded ops a.tmps g = none := by
            simp only [yielded, hd, Option.bind_some, undef_get hr hb, undef]
          exact hskip s hr (by simp only [Region.wanted, hg, hy]; simp) h
        · exact h.elim
end
end Go.Sx
