import Derived.Test.YtjmdfmafnenjnaaSxSeq
/-! A region that draws its order: every order that may come up does what the text's order does. -/
namespace Go.Sx
open Go
section
variable {ρ ρ' : Nat → Value} {H H' : AHeap} {G O O' : Nat → Prop} {w w' : World} {P : Program} {S : SummB} {Z : Glob} {X : Ctx} {s : St} {a : Act} {K : List AObj → AV → Prop} {C : Cfg → Prop} {ops : Array Oper}

theorem wpOps_mono {ops : Array Oper} {Q Q' : Exit → Act → World → Prop} (h : ∀ e a w, Q e a w → Q' e a w) : ∀ (l : List Nat) (a : Act) (w : World), wpOps P ops Q l a w → wpOps P ops Q' l a w
  | [], a, w, hh => h _ _ _ hh
  | i :: l, a, w, hh => by
    simp only [wpOps] at hh ⊢
    split at hh
    · exact wpOps_mono h l _ _ hh
    · rename_i o ho
      split at hh
      · rename_i hw
        rw [if_pos hw]
        rcases hh with hh | ⟨h1, a0, w0, h2⟩
        · refine .inl ?_
          unfold Oper.wp at *
          generalize (execOp a.eval o).run P w = r at *
          cases r with
          | ok n w' =>
            cases n <;> simp only [Oper.upon] at hh ⊢ <;> first
              | exact wpOps_mono h l _ _ hh
              | exact Calls.mono hh (fun e w'' he => by
                  cases e <;> first
                    | exact wpOps_mono h l _ _ he
                    | exact h _ _ _ he
                    | (obtain ⟨a0, w0, h2⟩ := he; exact ⟨a0, w0, h _ _ _ h2⟩))
              | exact Rows.mono hh (fun _ _ he => wpOps_mono h l _ _ he)
          | halt x w' => cases x <;> simp only [Oper.upon] at hh ⊢ <;> first | exact hh | exact h _ _ _ hh
        · exact .inr ⟨h1, a0, w0, h _ _ _ h2⟩
      · rename_i hw
        rw [if_neg hw]
        exact wpOps_mono h l _ _ hh

/-- 'Rep' over a heap that is a function. -/
structure RepF (X : Ctx) (ρ : Nat → Value) (T : List AV) (H : AHeap) (a : Act) (w : World) : Prop where
  sat : Sat ρ H X.G w
  size : T.length = a.tmps.size
  den : ∀ t, DenV ρ H (Hot ρ H X.G) w (T.getD t (.s .junk)) (a.tmps.getD t undef)
  defers : a.defers = []
  from_ : Step X.ρ X.H (Hot X.ρ X.H X.G) X.w ρ H (Hot ρ H X.G) w
  frm : Frm X.ρ X.H X.w w

theorem Rep.toF (h : Rep X ρ s a w) : RepF X ρ s.tmps s.look a w := ⟨h.sat, h.size, h.den, h.defers, h.from_, h.frm⟩

theorem Frm.transF {T : List AV} (h : RepF X ρ T H a w) (k : Frm ρ H w w') : Frm X.ρ X.H X.w w' := by
  refine ⟨k.os.trans h.frm.os, k.tape.trans h.frm.tape, k.output.trans h.frm.output, fun b hb hO => ?_⟩
  rw [k.heap b (by have := h.from_.size; omega) (fun ho => ?_), h.frm.heap b hb hO]
  rcases h.from_.hot b (.inl ho) with (h1 | h1) | h1
  · exact hO h1
  · exact h.sat.apart b ho h1
  · omega

theorem RepF.op (hS : SOk P S Z) (hzc : ZCtx Z X) {T Ti : List AV} (h : RepF X ρ T H a w) {o : Oper} {q : Res} {base : Nat} (hq : (opR P (S base) (evOf Ti) o).eval H = some q) (hn : Needs q.need)
    (hd : ∀ x ∈ o.op.operands, DenV ρ H (Hot ρ H X.G) w (evOf Ti x) (a.eval x)) (hf : ∀ i, i < q.new.length → H (base + i) = none) :
    Yields P o a.eval w (fun v w' => ∃ ρ', RepF X ρ' (setSlot T o.dst (q.r base)) (resH H q.up base q.new) (a.put o.dst v) w') := by
  have := opR_ok (base := base) hS hq hn (zed hzc h.frm h.sat h.from_) h.sat (e := a.eval) hd hf
  unfold Yields at *
  have key : ∀ v w', Good ρ H X.G w (resH H q.up base q.new) (q.r base) v w' → ∃ ρ', RepF X ρ' (setSlot T o.dst (q.r base)) (resH H q.up base q.new) (a.put o.dst v) w' := by
    rintro v w' ⟨ρ', h1, h2, h3, h4⟩
    obtain ⟨arr, df⟩ := a
    have hp := put_den (ρ := ρ') (H := resH H q.up base q.new) (O := Hot ρ' (resH H q.up base q.new) X.G) (w := w') h.size (fun t => DenV.step h3 _ _ (h.den t)) o.dst h2 df
    exact ⟨ρ', h1, hp.1, hp.2, by have := h.defers; cases o.dst <;> exact this, h.from_.trans h3, Frm.transF h h4⟩
  split at this
  · exact key _ _ this
  · exact key _ _ this
  · exact this.mono fun en w'' ⟨v, he, hv⟩ => ⟨v, he, key _ _ hv⟩
  · exact this

/-- The same value, or the same truth, now known. -/
def Ref (x y : AV) : Prop := x = y ∨ ∃ b, x = .s (.bool b) ∧ y = .s (.blit b)

theorem Ref.den {x y : AV} (h : Ref x y) {v : Value} (hx : DenV ρ H O w x v) : DenV ρ H O w y v := by
  rcases h with rfl | ⟨b, rfl, rfl⟩
  · exact hx
  · exact bool_refine _ hx

theorem Ref.trans {x y z : AV} (h : Ref x y) (k : Ref y z) : Ref x z := by
  rcases h with rfl | ⟨b, rfl, rfl⟩
  · exact k
  · rcases k with rfl | ⟨c, h1, rfl⟩
    · exact .inr ⟨b, rfl, rfl⟩
    · cases h1

theorem RM.eval_congr {α : Type} : ∀ (m : RM α), (∀ id ∈ m.ids H, H' id = H id) → m.eval H' = m.eval H ∧ m.ids H' = m.ids H
  | .ret a, h => ⟨rfl, rfl⟩
  | .fail _, h => ⟨rfl, rfl⟩
  | .look id k, h => by
    simp only [RM.ids] at h
    have e := h id (by simp)
    have := RM.eval_congr (k (H id)) (fun j hj => h j (by simp [hj]))
    simp only [RM.eval, RM.ids, e]
    exact ⟨this.1, by rw [this.2]⟩

/-- An operation in its place in the text: what it finds, what it brings. -/
structure El where
  i : Nat
  o : Oper
  T : List AV
  q : Option Res
  base : Nat
  rd : List Nat

def El.wr (e : El) : List Nat := match e.q with
  | some q => upIds q.up ++ (List.range q.new.length).map (e.base + ·)
  | none => []
def El.slots (e : El) (T : List AV) : List AV := setSlot T e.o.dst (match e.q with | some q => q.r e.base | none => .tup [])
def El.heap (e : El) (H : AHeap) : AHeap := match e.q with | some q => resH H q.up e.base q.new | none => H

structure El.Ok (P : Program) (S : SummB) (ops : Array Oper) (T : List AV) (H : AHeap) (e : El) : Prop where
  op : ops[e.i]? = some e.o
  looks : ∀ t ∈ e.o.looksAt ops, Ref (T.getD t (.s .junk)) (e.T.getD t (.s .junk))
  guard : match e.o.guard with
    | none => e.q.isSome = true
    | some (g, want) => ∃ d, (ops[g]?).bind (·.dst) = some d ∧ ((∃ b, e.T.getD d (.s .junk) = .s (.blit b) ∧ e.q.isSome = (b == want)) ∨ (e.T.getD d (.s .junk) = .tup [] ∧ e.q = none))
  skip : e.q = none → e.rd = []
  run : ∀ q, e.q = some q → (opR P (S e.base) (evOf e.T) e.o).eval H = some q ∧ (opR P (S e.base) (evOf e.T) e.o).ids H = e.rd ∧ Needs q.need ∧ ∀ j, j < q.new.length → H (e.base + j) = none

def Chain (P : Program) (S : SummB) (ops : Array Oper) : List AV → AHeap → List El → List AV → AHeap → Prop
  | T, H, [], T', H' => T = T' ∧ H = H'
  | T, H, e :: es, T', H' => e.Ok P S ops T H ∧ Chain P S ops (e.slots T) (e.heap H) es T' H'

structure Indep (ops : Array Oper) (x y : El) : Prop where
  s1 : ∀ d, x.o.dst = some d → d ∉ y.o.looksAt ops ∧ y.o.dst ≠ some d
  s2 : ∀ d, y.o.dst = some d → d ∉ x.o.looksAt ops
  h1 : ∀ id ∈ x.wr, id ∉ y.rd ∧ id ∉ y.wr
  h2 : ∀ id ∈ y.wr, id ∉ x.rd

theorem El.slots_get (e : El) (T : List AV) {t : Nat} (h : e.o.dst ≠ some t) : (e.slots T).getD t (.s .junk) = T.getD t (.s .junk) := by
  unfold El.slots
  cases hd : e.o.dst with
  | none => rfl
  | some d =>
    simp only [setSlot]
    rw [getD_set_list, if_neg]
    rintro ⟨rfl, _⟩
    exact h hd

theorem findUp_none {us : List (Nat × AObj)} {id : Nat} (h : id ∉ upIds us) : findUp us id = none := by
  induction us with
  | nil => rfl
  | cons u us ih =>
    obtain ⟨j, o⟩ := u
    simp only [upIds, List.map_cons, List.mem_cons, not_or] at h
    simp only [findUp]
    rw [ih h.2, if_neg (Ne.symm (Ne.symm h.1))]

theorem findUp_some {us : List (Nat × AObj)} {id : Nat} (h : id ∈ upIds us) : ∃ o, findUp us id = some o := by
  induction us with
  | nil => simp [upIds] at h
  | cons u us ih =>
    obtain ⟨j, o⟩ := u
    simp only [upIds, List.map_cons, List.mem_cons] at h
    simp only [findUp]
    cases hf : findUp us id with
    | some x => exact ⟨x, rfl⟩
    | none =>
      rcases h with rfl | h
      · simp
      · obtain ⟨o, ho⟩ := ih h
        rw [ho] at hf; cases hf

theorem El.heap_out (e : El) (H : AHeap) {id : Nat} (h : id ∉ e.wr) : e.heap H id = H id := by
  unfold El.wr at h
  unfold El.heap
  cases hq : e.q with
  | some q =>
    rw [hq] at h
    simp only [List.mem_append, not_or, List.mem_map, List.mem_range, not_exists, not_and] at h
    simp only [resH, findUp_none h.1]
    rw [if_neg]
    rintro ⟨h1, h2⟩
    exact h.2 (id - e.base) (by omega) (by omega)
  | none => rfl

theorem El.heap_in (e : El) (H H' : AHeap) {id : Nat} (h : id ∈ e.wr) : e.heap H id = e.heap H' id := by
  unfold El.wr at h
  unfold El.heap
  cases hq : e.q with
  | some q =>
    rw [hq] at h
    simp only [List.mem_append, List.mem_map, List.mem_range] at h
    simp only [resH]
    rcases h with h | ⟨j, h1, rfl⟩
    · obtain ⟨o, ho⟩ := findUp_some h
      rw [ho]
    · cases findUp q.up (e.base + j) with
      | some o => rfl
      | none => simp [h1]
  | none => rw [hq] at h; simp at h

theorem new_wr {e : El} {q : Res} (hq : e.q = some q) {j : Nat} (hj : j < q.new.length) : e.base + j ∈ e.wr := by
  unfold El.wr
  rw [hq]
  simp only [List.mem_append, List.mem_map, List.mem_range]
  exact .inr ⟨j, hj, rfl⟩

theorem swap {T : List AV} {x y : El} (hx : x.Ok P S ops T H) (hy : y.Ok P S ops (x.slots T) (x.heap H)) (hi : Indep ops x y) :
    y.Ok P S ops T H ∧ x.Ok P S ops (y.slots T) (y.heap H) ∧ y.slots (x.slots T) = x.slots (y.slots T) ∧ y.heap (x.heap H) = x.heap (y.heap H) := by
  refine ⟨⟨hy.op, fun t ht => ?_, hy.guard, hy.skip, fun q hq => ?_⟩, ⟨hx.op, fun t ht => ?_, hx.guard, hx.skip, fun q hq => ?_⟩, ?_, ?_⟩
  · have := hy.looks t ht
    rwa [El.slots_get x T (fun e => (hi.s1 t e).1 ht)] at this
  · obtain ⟨h1, h2, h3, h4⟩ := hy.run q hq
    have hc := RM.eval_congr (H := x.heap H) (H' := H) (opR P (S y.base) (evOf y.T) y.o) (fun id hid => by
      rw [h2] at hid
      exact (El.heap_out x H (fun hw => (hi.h1 id hw).1 hid)).symm)
    refine ⟨hc.1.trans h1, hc.2.trans h2, h3, fun j hj => ?_⟩
    rw [← h4 j hj]
    exact (El.heap_out x H (fun hw => (hi.h1 _ hw).2 (new_wr hq hj))).symm
  · rw [El.slots_get y T (fun e => hi.s2 t e ht)]
    exact hx.looks t ht
  · obtain ⟨h1, h2, h3, h4⟩ := hx.run q hq
    have hc := RM.eval_congr (H := H) (H' := y.heap H) (opR P (S x.base) (evOf x.T) x.o) (fun id hid => by
      rw [h2] at hid
      exact El.heap_out y H (fun hw => hi.h2 id hw hid))
    refine ⟨hc.1.trans h1, hc.2.trans h2, h3, fun j hj => ?_⟩
    rw [El.heap_out y H (fun hw => (hi.h1 _ (new_wr hq hj)).2 hw)]
    exact h4 j hj
  · unfold El.slots
    cases hd : x.o.dst with
    | none => rfl
    | some d =>
      cases hd' : y.o.dst with
      | none => rfl
      | some d' =>
        simp only [setSlot]
        exact List.set_comm _ _ (fun e => (hi.s1 d hd).2 (by rw [hd', e]))
  · funext id
    by_cases h1 : id ∈ x.wr
    · rw [El.heap_out y _ (hi.h1 id h1).2]
      exact El.heap_in x _ _ h1
    · rw [El.heap_out x _ h1]
      by_cases h2 : id ∈ y.wr
      · exact El.heap_in y _ _ h2
      · rw [El.heap_out y _ h2, El.heap_out y _ h2, El.heap_out x _ h1]

theorem front {T' : List AV} {H' : AHeap} {x : El} {post : List El} : ∀ (pre : List El) {T : List AV} {H : AHeap}, Chain P S ops T H (pre ++ x :: post) T' H' → (∀ e ∈ pre, Indep ops e x) →
    x.Ok P S ops T H ∧ Chain P S ops (x.slots T) (x.heap H) (pre ++ post) T' H'
  | [], T, H, h, _ => h
  | e :: pre, T, H, h, hi => by
    obtain ⟨h1, h2⟩ := h
    obtain ⟨h3, h4⟩ := front pre h2 (fun f hf => hi f (by simp [hf]))
    obtain ⟨h5, h6, h7, h8⟩ := swap h1 h3 (hi e (by simp))
    refine ⟨h5, h6, ?_⟩
    rw [h7, h8] at h4
    exact h4

def Before (ops : Array Oper) (e f : El) : Prop := e.i < f.i ∧ (afterOf ops f.i e.i = true ∨ Indep ops e f)

theorem RepF.tmp_get {T : List AV} (h : RepF X ρ T H a w) {d : Nat} {b : Bool} {Ti : List AV} (hr : Ref (T.getD d (.s .junk)) (Ti.getD d (.s .junk))) (hx : Ti.getD d (.s .junk) = .s (.blit b)) : a.tmps[d]? = some (.bool b) := by
  have h1 := hr.den (h.den d)
  rw [hx] at h1
  have h2 := DenS_of_V (by simp) h1
  have hlt : d < a.tmps.size := by
    rcases Nat.lt_or_ge d a.tmps.size with h3 | h3
    · exact h3
    · have : a.tmps.getD d undef = undef := by simp [Array.getD, Nat.not_lt.2 h3]
      rw [this] at h2
      cases h2
  have h4 : a.tmps.getD d undef = a.tmps[d] := by simp [Array.getD, hlt]
  rw [h4] at h2
  rw [Array.getElem?_eq_getElem hlt]
  generalize a.tmps[d] = u at h2
  cases h2
  rfl

theorem RepF.tmp_undef {T : List AV} (h : RepF X ρ T H a w) {d : Nat} {Ti : List AV} (hr : Ref (T.getD d (.s .junk)) (Ti.getD d (.s .junk))) (hx : Ti.getD d (.s .junk) = .tup []) : ∀ b, a.tmps[d]? ≠ some (.bool b) := by
  intro b hb
  have h1 := hr.den (h.den d)
  rw [hx] at h1
  have : a.tmps.getD d undef = .bool b := by simp [Array.getD_eq_getD_getElem?, hb]
  rw [this] at h1
  unfold DenV at h1
  obtain ⟨us, h5, _⟩ := h1
  cases h5

theorem ev_looks {o : Oper} {T Ti : List AV} (h : RepF X ρ T H a w) (hl : ∀ t ∈ o.looksAt ops, Ref (T.getD t (.s .junk)) (Ti.getD t (.s .junk))) : ∀ x ∈ o.op.operands, DenV ρ H (Hot ρ H X.G) w (evOf Ti x) (a.eval x) := by
  intro x hx
  cases x with
  | tmp t =>
    refine (hl t ?_).den (h.den t)
    simp only [Oper.looksAt, List.mem_append, List.mem_filterMap]
    exact .inl ⟨.tmp t, by simpa using hx, rfl⟩
  | const v => exact evConst_ok _ v
  | global g => unfold evOf DenV; trivial
  | func f => exact DenV_s (.fn0 f)

theorem RepF.skip {T : List AV} (h : RepF X ρ T H a w) (dst : Option Tmp) : RepF X ρ (setSlot T dst (.tup [])) H (a.put dst undef) w := by
  obtain ⟨arr, df⟩ := a
  have hp := put_den (ρ := ρ) (H := H) (O := Hot ρ H X.G) (w := w) h.size h.den dst (r := .tup []) (v := undef) den_undef df
  exact ⟨h.sat, hp.1, hp.2, by have := h.defers; cases dst <;> exact this, h.from_, h.frm⟩

/-- An operation that is up is carried out, out of its place. -/
theorem wpOp_el (hS : SOk P S Z) (hzc : ZCtx Z X) {T : List AV} {e : El} (he : e.Ok P S ops T H) (h : RepF X ρ T H a w) {Kn : Act → World → Prop} {Q : Exit → Act → World → Prop}
    (hK : ∀ ρ' a' w', RepF X ρ' (e.slots T) (e.heap H) a' w' → Kn a' w') : wpOp P ops Q e.i Kn a w := by
  unfold wpOp
  rw [he.op]
  simp only []
  cases hq : e.q with
  | some q =>
    have hw : Region.wanted e.o (yielded ops a.tmps) = true := by
      have hg := he.guard
      split at hg
      · rename_i h0; simp [Region.wanted, h0]
      · rename_i g want h0
        obtain ⟨d, h1, h2⟩ := hg
        rcases h2 with ⟨b, h2, h3⟩ | ⟨_, h3⟩
        · have hld : d ∈ e.o.looksAt ops := by simp [Oper.looksAt, h0, h1]
          have := h.tmp_get (he.looks d hld) h2
          rw [hq] at h3
          simp only [Region.wanted, h0, yielded, h1, Option.bind_some, this]
          simpa using h3.symm
        · rw [hq] at h3; cases h3
    rw [if_pos hw]
    obtain ⟨h1, h2, h3, h4⟩ := he.run q hq
    refine .inl (yields_wp (h.op hS hzc h1 h3 (ev_looks h he.looks) h4) (fun v w' ⟨ρ', hr'⟩ => hK ρ' _ w' ?_))
    simpa only [El.slots, El.heap, hq] using hr'
  | none =>
    have hw : Region.wanted e.o (yielded ops a.tmps) = false := by
      have hg := he.guard
      split at hg
      · rename_i h0; rw [hq] at hg; cases hg
      · rename_i g want h0
        obtain ⟨d, h1, h2⟩ := hg
        have hld : d ∈ e.o.looksAt ops := by simp [Oper.looksAt, h0, h1]
        rcases h2 with ⟨b, h2, h3⟩ | ⟨h2, h3⟩
        · have := h.tmp_get (he.looks d hld) h2
          rw [hq] at h3
          simp only [Region.wanted, h0, yielded, h1, Option.bind_some, this]
          have : (b == want) = false := by simpa using h3.symm
          simpa using this
        · have := h.tmp_undef (he.looks d hld) h2
          have hy : yielded ops a.tmps g = none := by
            simp only [yielded, h1, Option.bind_some]
            first
              | done
              | (split
                 · rename_i b hb; exact (this b hb).elim
                 · rfl)
          simp only [Region.wanted, h0, hy]
          rfl
    rw [if_neg (by rw [hw]; simp)]
    refine hK ρ _ w ?_
    simpa only [El.slots, El.heap, hq] using h.skip e.o.dst

theorem afterOf_spec {i j : Nat} {o : Oper} (ho : ops[i]? = some o) (h : afterOf ops i j = true) : ∃ e ∈ o.after, Region.binds .any e = true ∧ e.on = j := by
  simp only [afterOf, ho, Option.map_some, Option.getD_some, Array.any_eq_true] at h
  obtain ⟨n, hn, h⟩ := h
  simp only [Bool.and_eq_true, beq_iff_eq] at h
  exact ⟨o.after[n], Array.getElem_mem hn, h.1, h.2⟩

theorem any_of_chain (hS : SOk P S Z) (hzc : ZCtx Z X) (heb : edgesBack ops = true) {T' : List AV} {H' : AHeap} {Q : Exit → Act → World → Prop} (hQ : ∀ ρ' a' w', RepF X ρ' T' H' a' w' → Q .normal a' w') :
    ∀ (fuel : Nat) (listed : Array Bool) (es : List El) (T : List AV) (H : AHeap) (ρ : Nat → Value) (a : Act) (w : World), es.length = fuel → listed.size = ops.size → es.Pairwise (Before ops) →
    (∀ i, i < ops.size → (listed.getD i true = false ↔ ∃ e ∈ es, e.i = i)) → RepF X ρ T H a w → Chain P S ops T H es T' H' → wpAny P .any ops Q fuel listed a w := by
  have ready_mem : ∀ (listed : Array Bool) (i : Nat), i ∈ Region.ready .any ops listed → i < ops.size ∧ listed.getD i true = false ∧ ∃ o, ops[i]? = some o ∧ ∀ e ∈ o.after, Region.binds .any e = true → listed.getD e.on false = true := by
    intro listed i hi
    simp only [Region.ready, List.mem_filter, List.mem_range, Bool.and_eq_true] at hi
    obtain ⟨h1, h2, h3⟩ := hi
    refine ⟨h1, by simpa using h2, ?_⟩
    cases ho : ops[i]? with
    | none => rw [ho] at h3; simp at h3
    | some o =>
      rw [ho] at h3
      simp only [Option.map_some, Option.getD_some, Array.all_eq_true] at h3
      refine ⟨o, rfl, fun e he hb => ?_⟩
      obtain ⟨n, hn, rfl⟩ := Array.mem_iff_getElem.1 he
      have := h3 n hn
      rw [hb] at this
      simpa using this
  have stop : ∀ (listed : Array Bool) (es : List El) (T : List AV) (H : AHeap), listed.size = ops.size → es.Pairwise (Before ops) → (∀ i, i < ops.size → (listed.getD i true = false ↔ ∃ e ∈ es, e.i = i)) →
      Chain P S ops T H es T' H' → Region.ready .any ops listed = [] → es = [] := by
    intro listed es T H hsz hp hl hc hr
    cases es with
    | nil => rfl
    | cons e es =>
      exfalso
      have ho := hc.1.op
      have hlt : e.i < ops.size := (Array.getElem?_eq_some_iff.1 ho).1
      have hmem : e.i ∈ Region.ready .any ops listed := by
        simp only [Region.ready, List.mem_filter, List.mem_range, Bool.and_eq_true]
        refine ⟨hlt, by simpa using (hl e.i hlt).2 ⟨e, by simp, rfl⟩, ?_⟩
        rw [ho]
        simp only [Option.map_some, Option.getD_some, Array.all_eq_true]
        intro n hn
        have hb : edgesBack ops = true := heb
        simp only [edgesBack, List.all_eq_true, List.mem_range] at hb
        have hb := hb e.i hlt
        rw [ho] at hb
        simp only [Array.all_eq_true] at hb
        have hb := hb n hn
        cases hbi : Region.binds .any (e.o.after[n]) with
        | false => simp
        | true =>
          rw [hbi] at hb
          have hon : (e.o.after[n]).on < e.i := by simpa [Nat.blt, Nat.lt_iff_add_one_le] using hb
          have hne : ¬ (listed.getD (e.o.after[n]).on true = false) := by
            intro hf
            obtain ⟨f, hf1, hf2⟩ := (hl _ (by omega)).1 hf
            rcases List.mem_cons.1 hf1 with rfl | hf1
            · omega
            · have := (List.pairwise_cons.1 hp).1 f hf1
              have := this.1
              omega
          have hin : (e.o.after[n]).on < listed.size := by omega
          simp only [Array.getD, hin, dif_pos] at hne ⊢
          simpa using hne
      rw [hr] at hmem
      simp at hmem
  intro fuel
  induction fuel with
  | zero =>
    intro listed es T H ρ a w hlen hsz hp hl hrep hc
    obtain rfl : es = [] := List.length_eq_zero_iff.1 hlen
    obtain ⟨rfl, rfl⟩ := hc
    refine ⟨?_, hQ _ _ _ hrep⟩
    rw [List.eq_nil_iff_forall_not_mem]
    intro i hi
    obtain ⟨h1, h2, _⟩ := ready_mem listed i hi
    obtain ⟨e, he, _⟩ := (hl i h1).1 h2
    simp at he
  | succ fuel ih =>
    intro listed es T H ρ a w hlen hsz hp hl hrep hc
    refine ⟨fun hr => ?_, fun i hi => ?_⟩
    · obtain rfl := stop listed es T H hsz hp hl hc hr
      simp at hlen
    · obtain ⟨h1, h2, o, ho, h3⟩ := ready_mem listed i hi
      obtain ⟨f, hf, rfl⟩ := (hl i h1).1 h2
      obtain ⟨pre, post, rfl⟩ := List.append_of_mem hf
      have hpre : ∀ e ∈ pre, Before ops e f := fun e he => (List.pairwise_append.1 hp).2.2 e he f (by simp)
      have hind : ∀ e ∈ pre, Indep ops e f := by
        intro e he
        rcases (hpre e he).2 with h4 | h4
        · exfalso
          obtain ⟨ed, h5, h6, h7⟩ := afterOf_spec ho h4
          have h8 := h3 ed h5 h6
          rw [h7] at h8
          have hlt : e.i < ops.size := by have := (hpre e he).1; omega
          have h9 := (hl e.i hlt).2 ⟨e, by simp [he], rfl⟩
          have hin : e.i < listed.size := by omega
          simp only [Array.getD, hin, dif_pos] at h8 h9
          rw [h8] at h9
          cases h9
        · exact h4
      obtain ⟨hok, hch⟩ := front pre hc hind
      refine wpOp_el hS hzc hok hrep (fun ρ' a' w' hr' => ?_)
      refine ih _ (pre ++ post) _ _ ρ' a' w' ?_ (by simp [hsz]) ?_ ?_ hr' hch
      · simp only [List.length_append, List.length_cons] at hlen ⊢
        omega
      · exact hp.sublist (List.Sublist.append (List.Sublist.refl _) (List.sublist_cons_self _ _))
      · intro j hj
        have hinj : ∀ e ∈ pre ++ post, e.i ≠ f.i := by
          intro e he
          rcases List.mem_append.1 he with he | he
          · have := (hpre e he).1; omega
          · have := (List.pairwise_cons.1 (List.pairwise_append.1 hp).2.1).1 e he
            have := this.1
            omega
        have hin : j < listed.size := by omega
        have hget : (listed.setIfInBounds f.i true).getD j true = if j = f.i then true else listed.getD j true := by
          simp only [Array.getD_eq_getD_getElem?, Array.getElem?_setIfInBounds]
          by_cases hjf : f.i = j
          · subst hjf; simp [hin]
          · simp [hjf, Ne.symm hjf]
        rw [hget]
        by_cases hjf : j = f.i
        · subst hjf
          simp only [if_true, Bool.true_eq_false, false_iff, not_exists, not_and]
          exact hinj
        · rw [if_neg hjf, hl j hj]
          constructor
          · rintro ⟨e, he, rfl⟩
            refine ⟨e, ?_, rfl⟩
            simp only [List.mem_append, List.mem_cons] at he ⊢
            rcases he with he | rfl | he
            · exact .inl he
            · exact (hjf rfl).elim
            · exact .inr he
          · rintro ⟨e, he, rfl⟩
            refine ⟨e, ?_, rfl⟩
            simp only [List.mem_append, List.mem_cons] at he ⊢
            rcases he with he | he
            · exact .inl he
            · exact .inr (.inr he)

def El.touch (e : El) : Touch := ⟨e.i, e.rd, e.wr⟩

theorem clashFree_pairwise : ∀ (tr : List Touch), clashFree ops tr = true → tr.Pairwise (fun b a => a.clash b = false ∨ afterOf ops b.i a.i = true)
  | [], _ => .nil
  | b :: as, h => by
    simp only [clashFree, Bool.and_eq_true, List.all_eq_true, Bool.or_eq_true, Bool.not_eq_true'] at h
    exact .cons (fun a ha => h.1 a ha) (clashFree_pairwise as h.2)

theorem Touch.clash_spec {a b : Touch} (h : a.clash b = false) : (∀ id ∈ a.wr, id ∉ b.rd ∧ id ∉ b.wr) ∧ ∀ id ∈ b.wr, id ∉ a.rd := by
  simp only [Touch.clash, Bool.or_eq_false_iff, List.any_eq_false, Bool.or_eq_true, List.contains_iff_mem, not_or] at h
  exact h

theorem resH_look {s : St} {dst : Option Tmp} {q : Res} (hu : upsIn s.H.length q.up) : (s.put dst q).look = resH s.look q.up s.H.length q.new := look_put s dst q hu

theorem ref_set {T T' : List AV} (hlen : T.length = T'.length) (h : ∀ t, Ref (T.getD t (.s .junk)) (T'.getD t (.s .junk))) (dst : Option Tmp) (x : AV) : ∀ t, Ref ((setSlot T dst x).getD t (.s .junk)) ((setSlot T' dst x).getD t (.s .junk)) := by
  intro t
  cases dst with
  | none => exact h t
  | some d =>
    simp only [setSlot]
    rw [getD_set_list, getD_set_list, hlen]
    split
    · exact .inl rfl
    · exact h t

theorem setSlot_length (T : List AV) (dst : Option Tmp) (x : AV) : (setSlot T dst x).length = T.length := by cases dst <;> simp [setSlot]

/-- What the executor has done, taken apart. -/
theorem chain_of_runOps {cont : St → List Touch → Tree} : ∀ (l : List Oper) (i : Nat) (s : St) (tr : List Touch) (T : List AV), (∀ j, l[j]? = ops[i + j]?) → (runOps P S ops cont i l s tr).Holds K C →
    T.length = s.tmps.length → (∀ t, Ref (T.getD t (.s .junk)) (s.tmps.getD t (.s .junk))) →
    ∃ es s' tr' T', (cont s' tr').Holds K C ∧ Chain P S ops T s.look es T' s'.look ∧ T'.length = s'.tmps.length ∧ (∀ t, Ref (T'.getD t (.s .junk)) (s'.tmps.getD t (.s .junk))) ∧
      es.map El.i = List.range' i l.length ∧ tr' = ((es.filter (fun e => e.q.isSome)).map El.touch).reverse ++ tr
  | [], i, s, tr, T, _, h, hlen, hT => ⟨[], s, tr, T, h, ⟨rfl, rfl⟩, hlen, hT, rfl, rfl⟩
  | o :: rest, i, s, tr, T, hl, h, hlen, hT => by
    have ho : ops[i]? = some o := by simpa using (hl 0).symm
    have hl' : ∀ j, rest[j]? = ops[i + 1 + j]? := fun j => by
      have := hl (j + 1)
      rw [show i + (j + 1) = i + 1 + j from by omega] at this
      simpa using this
    have hgo : ∀ (s : St), T.length = s.tmps.length → (∀ t, Ref (T.getD t (.s .junk)) (s.tmps.getD t (.s .junk))) →
        (match o.guard with | none => True | some (g, want) => ∃ d, (ops[g]?).bind (·.dst) = some d ∧ s.tmps.getD d (.s .junk) = .s (.blit want)) →
        (match (opR P (S s.H.length) (evOf s.tmps) o).eval s.look with
          | some r => bif upsOk s.H.length r.up then Tree.needs r.need (runOps P S ops cont (i + 1) rest (s.put o.dst r) (⟨i, (opR P (S s.H.length) (evOf s.tmps) o).ids s.look, upIds r.up ++ (List.range r.new.length).map (s.H.length + ·)⟩ :: tr)) else .stuck "up"
          | none => .stuck (o.pos ++ " " ++ (opR P (S s.H.length) (evOf s.tmps) o).why s.look)).Holds K C →
        ∃ es s' tr' T', (cont s' tr').Holds K C ∧ Chain P S ops T s.look es T' s'.look ∧ T'.length = s'.tmps.length ∧ (∀ t, Ref (T'.getD t (.s .junk)) (s'.tmps.getD t (.s .junk))) ∧
          es.map El.i = List.range' i (o :: rest).length ∧ tr' = ((es.filter (fun e => e.q.isSome)).map El.touch).reverse ++ tr := by
      intro s hlen hT hg h
      split at h
      · rename_i q hq
        rw [Bool.cond_eq_ite] at h
        split at h
        · rename_i hup
          obtain ⟨hn, h2⟩ := needs_holds _ _ h
          let e : El := ⟨i, o, s.tmps, some q, s.H.length, (opR P (S s.H.length) (evOf s.tmps) o).ids s.look⟩
          obtain ⟨es, s', tr', T', g1, g2, g3, g4, g5, g6⟩ := chain_of_runOps rest (i + 1) _ _ (e.slots T) hl' h2 (by simp [El.slots, St.put, setSlot_length, hlen]) (ref_set hlen hT o.dst _)
          refine ⟨e :: es, s', tr', T', g1, ⟨⟨ho, fun t _ => hT t, ?_, fun hq' => by simp [e] at hq', fun q' hq' => ?_⟩, ?_⟩, g3, g4, ?_, ?_⟩
          · show match o.guard with | none => _ | some (g, want) => _
            split
            · rfl
            · rename_i g want h0
              rw [h0] at hg
              obtain ⟨d, h5, h6⟩ := hg
              exact ⟨d, h5, .inl ⟨want, h6, by simp [e]⟩⟩
          · obtain rfl : q = q' := by simpa [e] using hq'
            exact ⟨hq, rfl, hn, fun j _ => by simp [St.look, e]⟩
          · have : e.heap s.look = (s.put o.dst q).look := (look_put s o.dst q (ups_in hup)).symm
            rw [this]
            exact g2
          · simp [g5, List.range'_succ, e]
          · rw [g6]
            simp [e, El.touch, El.wr]
        · exact h.elim
      · exact h.elim
    have hskip : ∀ (s : St), T.length = s.tmps.length → (∀ t, Ref (T.getD t (.s .junk)) (s.tmps.getD t (.s .junk))) →
        (∃ g want d, o.guard = some (g, want) ∧ (ops[g]?).bind (·.dst) = some d ∧ (s.tmps.getD d (.s .junk) = .s (.blit (!want)) ∨ s.tmps.getD d (.s .junk) = .tup [])) →
        (runOps P S ops cont (i + 1) rest { s with tmps := setSlot s.tmps o.dst (.tup []) } tr).Holds K C →
        ∃ es s' tr' T', (cont s' tr').Holds K C ∧ Chain P S ops T s.look es T' s'.look ∧ T'.length = s'.tmps.length ∧ (∀ t, Ref (T'.getD t (.s .junk)) (s'.tmps.getD t (.s .junk))) ∧
          es.map El.i = List.range' i (o :: rest).length ∧ tr' = ((es.filter (fun e => e.q.isSome)).map El.touch).reverse ++ tr := by
      intro s hlen hT hg h
      let e : El := ⟨i, o, s.tmps, none, s.H.length, []⟩
      obtain ⟨es, s', tr', T', g1, g2, g3, g4, g5, g6⟩ := chain_of_runOps rest (i + 1) _ _ (e.slots T) hl' h (by simp [El.slots, setSlot_length, hlen]) (ref_set hlen hT o.dst _)
      refine ⟨e :: es, s', tr', T', g1, ⟨⟨ho, fun t _ => hT t, ?_, fun _ => rfl, fun q' hq' => by simp [e] at hq'⟩, g2⟩, g3, g4, ?_, ?_⟩
      · show match o.guard with | none => _ | some (g, want) => _
        obtain ⟨g, want, d, h0, h5, h6⟩ := hg
        rw [h0]
        refine ⟨d, h5, ?_⟩
        rcases h6 with h6 | h6
        · exact .inl ⟨!want, h6, by cases want <;> rfl⟩
        · exact .inr ⟨h6, rfl⟩
      · simp [g5, List.range'_succ, e]
      · rw [g6]
        simp [e]
    have hset : ∀ {d : Nat} {b : Bool}, s.tmps.getD d (.s .junk) = .s (.bool b) → d < s.tmps.length := by
      intro d b hb
      rcases Nat.lt_or_ge d s.tmps.length with h3 | h3
      · exact h3
      · rw [List.getD, List.getElem?_eq_none h3] at hb
        simp at hb
    have hrefine : ∀ {d : Nat} {b : Bool}, s.tmps.getD d (.s .junk) = .s (.bool b) → ∀ t, Ref (T.getD t (.s .junk)) ((s.tmps.set d (.s (.blit b))).getD t (.s .junk)) := by
      intro d b hb t
      rw [getD_set_list]
      split
      · rename_i hc
        obtain ⟨rfl, _⟩ := hc
        exact (hT t).trans (.inr ⟨b, hb, rfl⟩)
      · exact hT t
    unfold runOps at h
    simp only [] at h
    split at h
    · rename_i hg
      exact hgo s hlen hT (by rw [hg]; trivial) h
    · rename_i g want hg
      split at h
      · exact h.elim
      · rename_i d hd
        split at h
        · rename_i b hb
          rw [Bool.cond_eq_ite] at h
          split at h
          · rename_i hbw
            obtain rfl : b = want := by simpa using hbw
            exact hgo s hlen hT (by rw [hg]; exact ⟨d, hd, hb⟩) h
          · rename_i hbw
            refine hskip s hlen hT ⟨g, want, d, hg, hd, .inl ?_⟩ h
            rw [hb]
            cases b <;> cases want <;> simp_all
        · rename_i b hb
          have hlt := hset hb
          have hr2 := hrefine hb
          have hgetb : ∀ c : Bool, (s.tmps.set d (.s (.blit c))).getD d (.s .junk) = .s (.blit c) := fun c => by simp [List.getD, hlt]
          obtain ⟨h1, h2⟩ := h
          cases b
          · have h2 := h2 rfl
            cases want
            · exact hgo { s with tmps := s.tmps.set d (.s (.blit false)) } (by simpa using hlen) hr2 (by rw [hg]; exact ⟨d, hd, hgetb _⟩) h2
            · exact hskip { s with tmps := s.tmps.set d (.s (.blit false)) } (by simpa using hlen) hr2 ⟨g, true, d, hg, hd, .inl (hgetb _)⟩ h2
          · have h1 := h1 rfl
            cases want
            · exact hskip { s with tmps := s.tmps.set d (.s (.blit true)) } (by simpa using hlen) hr2 ⟨g, false, d, hg, hd, .inl (hgetb _)⟩ h1
            · exact hgo { s with tmps := s.tmps.set d (.s (.blit true)) } (by simpa using hlen) hr2 (by rw [hg]; exact ⟨d, hd, hgetb _⟩) h1
        · rename_i hb
          exact hskip s hlen hT ⟨g, want, d, hg, hd, .inr hb⟩ h
        · exact h.elim

theorem chain_skip {T' : List AV} {H' : AHeap} : ∀ {es : List El} {T : List AV} {H : AHeap}, Chain P S ops T H es T' H' → ∀ e ∈ es, e.q = none → e.rd = []
  | [], _, _, _, e, he => by simp at he
  | x :: es, T, H, h, e, he => by
    rcases List.mem_cons.1 he with rfl | he
    · exact h.1.skip
    · exact chain_skip h.2 e he

theorem chain_op {T' : List AV} {H' : AHeap} : ∀ {es : List El} {T : List AV} {H : AHeap}, Chain P S ops T H es T' H' → ∀ e ∈ es, ops[e.i]? = some e.o
  | [], _, _, _, e, he => by simp at he
  | x :: es, T, H, h, e, he => by
    rcases List.mem_cons.1 he with rfl | he
    · exact h.1.op
    · exact chain_op h.2 e he

theorem slots_indep (hso : slotsOrdered ops = true) {e f : El} (he : ops[e.i]? = some e.o) (hf : ops[f.i]? = some f.o) (hlt : e.i < f.i) (hna : afterOf ops f.i e.i = false) :
    (∀ d, e.o.dst = some d → d ∉ f.o.looksAt ops ∧ f.o.dst ≠ some d) ∧ (∀ d, f.o.dst = some d → d ∉ e.o.looksAt ops) := by
  have hei : e.i < ops.size := (Array.getElem?_eq_some_iff.1 he).1
  have hfi : f.i < ops.size := (Array.getElem?_eq_some_iff.1 hf).1
  simp only [slotsOrdered, List.all_eq_true, List.mem_range] at hso
  refine ⟨fun d hd => ?_, fun d hd => ?_⟩
  · have := hso e.i hei f.i hfi
    rw [he, hf] at this
    simp only [hd, hlt, if_true, hna, Bool.or_false, Bool.or_eq_true, beq_iff_eq, Bool.and_eq_true, Bool.not_eq_true'] at this
    rcases this with h | ⟨h1, h2⟩
    · omega
    · refine ⟨fun hm => ?_, fun hm => ?_⟩
      · rw [List.contains_iff_mem.2 hm] at h1; cases h1
      · rw [hm] at h2; simp at h2
  · have := hso f.i hfi e.i hei
    rw [he, hf] at this
    simp only [hd, Nat.not_lt.2 (Nat.le_of_lt hlt), if_false, hna, Bool.or_false, Bool.or_eq_true, beq_iff_eq, Bool.and_eq_true, Bool.not_eq_true'] at this
    rcases this with h | ⟨h1, h2⟩
    · omega
    · intro hm
      rw [List.contains_iff_mem.2 hm] at h1; cases h1

theorem runOps_drawn (hS : SOk P S Z) (hzc : ZCtx Z X) {cont : St → List Touch → Tree} (hso : slotsOrdered ops = true) (heb : edgesBack ops = true) (h : (runOps P S ops cont 0 ops.toList s []).Holds K C) (hcl : ∀ s' tr', (cont s' tr').Holds K C → clashFree ops tr' = true)
    {Q : Act → World → Prop} (hQ : ∀ ρ' s' tr' a' w', (cont s' tr').Holds K C → Rep X ρ' s' a' w' → Q a' w') (hr : Rep X ρ s a w) : wpAny P .any ops (fun e a' w' => e = .normal ∧ Q a' w') ops.size (Array.replicate ops.size false) a w := by
  obtain ⟨es, s', tr', T', g1, g2, g3, g4, g5, g6⟩ := chain_of_runOps ops.toList 0 s [] s.tmps (by simp) h rfl (fun t => .inl rfl)
  have hcf := clashFree_pairwise _ (hcl _ _ g1)
  rw [g6, List.append_nil, List.pairwise_reverse, List.pairwise_map, List.pairwise_filter] at hcf
  have hop := chain_op g2
  have hidx : es.Pairwise (fun e f => e.i < f.i) := by
    have : (es.map El.i).Pairwise (· < ·) := by rw [g5]; exact List.pairwise_lt_range'
    rwa [List.pairwise_map] at this
  have hbefore : es.Pairwise (Before ops) := by
    refine (hcf.and hidx).imp_of_mem (fun {e f} he hf ⟨hc, hlt⟩ => ⟨hlt, ?_⟩)
    cases hna : afterOf ops f.i e.i with
    | true => exact .inl rfl
    | false =>
      refine .inr ?_
      obtain ⟨s1, s2⟩ := slots_indep hso (hop e he) (hop f hf) hlt hna
      have hh : (∀ id ∈ e.wr, id ∉ f.rd ∧ id ∉ f.wr) ∧ ∀ id ∈ f.wr, id ∉ e.rd := by
        cases hqe : e.q with
        | none =>
          have e1 : e.wr = [] := by simp [El.wr, hqe]
          have e2 := chain_skip g2 e he hqe
          exact ⟨fun id hid => by rw [e1] at hid; simp at hid, fun id _ => by rw [e2]; simp⟩
        | some qe =>
          cases hqf : f.q with
          | none =>
            have e1 : f.wr = [] := by simp [El.wr, hqf]
            have e2 := chain_skip g2 f hf hqf
            exact ⟨fun id _ => by rw [e1, e2]; simp, fun id hid => by rw [e1] at hid; simp at hid⟩
          | some qf =>
            rcases hc (by rw [hqe]; rfl) (by rw [hqf]; rfl) with h1 | h1
            · exact Touch.clash_spec (a := e.touch) (b := f.touch) h1
            · exact (by rw [show f.touch.i = f.i from rfl, show e.touch.i = e.i from rfl, hna] at h1; cases h1)
      exact ⟨s1, s2, hh.1, hh.2⟩
  have hlen : es.length = ops.size := by
    have := congrArg List.length g5
    simpa using this
  refine any_of_chain hS hzc heb (fun ρ' a' w' hr' => ⟨rfl, hQ ρ' s' tr' a' w' g1 ⟨hr'.sat, g3 ▸ hr'.size, fun t => (g4 t).den (hr'.den t), hr'.defers, hr'.from_, hr'.frm⟩⟩) ops.size _ es s.tmps s.look ρ a w hlen (by simp) hbefore ?_ hr.toF g2
  intro i hi
  have : i ∈ es.map El.i := by rw [g5]; simp [List.mem_range']; omega
  obtain ⟨e, he, rfl⟩ := List.mem_map.1 this
  simp only [Array.getD_eq_getD_getElem?, Array.getElem?_replicate, hi, if_true, Option.getD_some, true_iff]
  exact ⟨e, he, rfl⟩
end
end Go.Sx
