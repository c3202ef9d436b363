import Derived.Test.YtjmdfmafnenjnaaSxOp
import Derived.Orders
/-! A function's run. -/
namespace Go.Sx
open Go

/-- The machine goes from here to the call's end, with what is owed. -/
def Goes (P : Program) (b : Frame) (R : Ending → World → Prop) (a : Act) (k : List Item) (w : World) : Prop :=
  ∀ cs, ∃ e w' fr, R e w' ∧ Comes P (lone (b.at a k) cs w) (lone fr cs w') e ∧ fr.fn = b.fn ∧ fr.leaving P w' e

theorem Goes.step {P : Program} {b : Frame} {R : Ending → World → Prop} {a a' : Act} {k k' : List Item} {w w' : World} (hs : ∀ cs, step P (lone (b.at a k) cs w) = .next (lone (b.at a' k') cs w')) (h : Goes P b R a' k' w') : Goes P b R a k w := by
  intro cs
  obtain ⟨e, w2, fr, h1, h2, h3⟩ := h cs
  exact ⟨e, w2, fr, h1, Comes.of_steps (.one (hs cs)) h2, h3⟩

theorem Goes.code {P : Program} {b : Frame} {R : Ending → World → Prop} {a : Act} {c : Code} {k : List Item} {w : World} (h : c.wp P (fun e a' w' => e = .normal ∧ Goes P b R a' k w') a w) : Goes P b R a (.code c :: k) w := by
  intro cs
  obtain ⟨e, a', w', ⟨rfl, hg⟩, harr⟩ := h b k cs
  obtain ⟨e2, w2, fr, h1, h2, h3⟩ := hg cs
  exact ⟨e2, w2, fr, h1, Comes.of_steps harr h2, h3⟩

theorem Goes.ret {P : Program} {b : Frame} {R : Ending → World → Prop} {a : Act} {k : List Item} {w : World} {fn : Func} {v : Value} (hk : k = [] ∨ ∃ k', k = .code .ret :: k') (hb : b.kind = .normal) (hf : P.funcs[b.fn]? = some fn) (hd : a.defers = [])
    (hv : (results fn a.tmps).run P w = .ok v w) (hR : R (.returned v) w) : Goes P b R a k w := by
  intro cs
  rcases hk with rfl | ⟨k', rfl⟩
  · exact ⟨.returned v, w, _, hR, .one step_end, rfl, rfl, hd, hb, fn, hf, hv⟩
  · exact ⟨.returned v, w, _, hR, .one step_ret, rfl, rfl, hd, hb, fn, hf, hv⟩

theorem calls_of_goes {P : Program} {f : FuncId} {fn : Func} {c : Code} {args : Array Value} {w : World} {R : Ending → World → Prop} (hf : P.funcs[f]? = some fn) (hb : fn.body = some c)
    (h : Goes P { (default : Frame) with fn := f, kind := .normal } R { tmps := args ++ Array.replicate (fn.ntmps - args.size) undef, defers := [] } [.code c] w) : Calls P f args w R := by
  intro cs
  have henter : Frame.enter P f args .normal = Frame.at { (default : Frame) with fn := f, kind := .normal } { tmps := args ++ Array.replicate (fn.ntmps - args.size) undef, defers := [] } [.code c] := by
    simp [Frame.enter, Frame.at, hf, hb]
  obtain ⟨e, w', fr, h1, h2, h3, h4⟩ := h cs
  rw [henter]
  exact ⟨e, w', fr, h1, h2, h3, h4⟩

/-- Where the call began. -/
structure Ctx where
  ρ : Nat → Value
  H : AHeap
  G : Nat → Prop
  w : World

/-- The package's own variables stand ready where the call began. -/
def ZCtx (Z : Glob) (X : Ctx) : Prop := Z.ok X.w ∧ ∀ b, b ∈ Z.bs → ¬ Own X.ρ X.H b

theorem zed {Z : Glob} {X : Ctx} {w : World} {ρ : Nat → Value} {H : AHeap} (h : ZCtx Z X) (k : Frm X.ρ X.H X.w w) (hs : Sat ρ H X.G w) (st : Step X.ρ X.H (Hot X.ρ X.H X.G) X.w ρ H (Hot ρ H X.G) w) : ZAt Z ρ H w := by
  refine ⟨Z.keep X.w w h.1 fun b hb => k.heap b (Z.low _ h.1 b hb) (h.2 b hb), fun b hb ho => ?_⟩
  rcases st.hot b (.inl ho) with (h1 | h1) | h1
  · exact h.2 b hb h1
  · exact hs.apart b ho h1
  · have := Z.low _ h.1 b hb
    omega

structure Rep (X : Ctx) (ρ : Nat → Value) (s : St) (a : Act) (w : World) : Prop where
  sat : Sat ρ s.look X.G w
  size : s.tmps.length = a.tmps.size
  den : ∀ t, DenV ρ s.look (Hot ρ s.look X.G) w (s.tmps.getD t (.s .junk)) (a.tmps.getD t undef)
  defers : a.defers = []
  from_ : Step X.ρ X.H (Hot X.ρ X.H X.G) X.w ρ s.look (Hot ρ s.look X.G) w
  frm : Frm X.ρ X.H X.w w

def Tree.Holds (K : List AObj → AV → Prop) (C : Cfg → Prop) : Tree → Prop
  | .need p t => p ∧ t.Holds K C
  | .ite b t e => (b = true → t.Holds K C) ∧ (b = false → e.Holds K C)
  | .both p q t e => (p → t.Holds K C) ∧ (q → e.Holds K C)
  | .ret H v => K H v
  | .at c => C c
  | .stuck _ => False

def Post (X : Ctx) (K : List AObj → AV → Prop) (e : Ending) (w' : World) : Prop :=
  ∃ v, e = .returned v ∧ ∃ (L : List AObj) (r : AV), K L r ∧ Good X.ρ X.H X.G X.w (fun id => L[id]?) r v w'

/-- From here the call comes to its end, with what is owed. -/
def Safe (P : Program) (f : FuncId) (X : Ctx) (K : List AObj → AV → Prop) (c : Cfg) : Prop :=
  ∀ ρ a w, Rep X ρ ⟨c.tmps, c.H⟩ a w → Goes P { (default : Frame) with fn := f, kind := .normal } (Post X K) a c.todo w

section
variable {ρ ρ' : Nat → Value} {H H' : AHeap} {G O O' : Nat → Prop} {w w' : World} {P : Program} {S : SummB} {Z : Glob} {X : Ctx} {s : St} {a : Act} {K : List AObj → AV → Prop} {C : Cfg → Prop}

theorem constOf_ok (v : Value) : DenV ρ H O w (constOf v) v := by
  have one : ∀ v : Value, DenV ρ H O w ((av1Of v).getD (.s .junk)) v := by
    intro v
    cases h : av1Of v with
    | none => unfold DenV; trivial
    | some x =>
      have hc := av1Of_ok (ρ := ρ) (H := H) (O := O) (w := w) h
      simp only [Option.getD_some]
      unfold av1Of at h
      split at h
      · simp only [Option.some.injEq] at h; subst h; unfold DenV; exact ⟨_, rfl⟩
      · simp only [Option.map_eq_some_iff] at h
        obtain ⟨y, h3, rfl⟩ := h
        exact DenV_s (svOf_ok h3)
  unfold constOf
  split
  · rename_i cs
    cases h : allOf cs.toList with
    | none => unfold DenV; trivial
    | some as => unfold DenV; exact ⟨cs.toList, by simp, allOf_ok _ h⟩
  · exact one v

theorem evConst_ok (T : List AV) (v : Value) : DenV ρ H O w (evOf T (.const v)) v := by
  unfold evOf
  split
  · exact absurd ‹_› (by simp)
  · rename_i h
    cases h
    exact DenV_s .nils
  · rename_i h
    cases h
    exact constOf_ok v
  · exact absurd ‹_› (by simp)
  · exact absurd ‹_› (by simp)

theorem Rep.ev (h : Rep X ρ s a w) (x : Operand) : DenV ρ s.look (Hot ρ s.look X.G) w (evOf s.tmps x) (a.eval x) := by
  cases x with
  | tmp t => exact h.den t
  | const v => exact evConst_ok _ v
  | global g => unfold evOf DenV; trivial
  | func f => exact DenV_s (.fn0 f)

theorem getD_set_list {α : Type} (l : List α) (d t : Nat) (x y : α) : (l.set d x).getD t y = if t = d ∧ d < l.length then x else l.getD t y := by
  simp only [List.getD, List.getElem?_set]
  by_cases h : d = t
  · subst h
    by_cases h2 : d < l.length
    · simp [h2]
    · simp [h2]
  · have : ¬ (t = d ∧ d < l.length) := fun e => h e.1.symm
    simp [h, this]

theorem getD_set_arr (l : Array Value) (d t : Nat) (x : Value) : (l.setIfInBounds d x).getD t undef = if t = d ∧ d < l.size then x else l.getD t undef := by
  simp only [Array.getD_eq_getD_getElem?, Array.getElem?_setIfInBounds]
  by_cases h : d = t
  · subst h
    by_cases h2 : d < l.size
    · simp [h2]
    · simp [h2]
  · have : ¬ (t = d ∧ d < l.size) := fun e => h e.1.symm
    simp [h, this]

/-- Slots behind an operation. -/
theorem put_den {tmps : List AV} {arr : Array Value} (hsz : tmps.length = arr.size) (h : ∀ t, DenV ρ H O w (tmps.getD t (.s .junk)) (arr.getD t undef)) (dst : Option Tmp) {r : AV} {v : Value} (hr : DenV ρ H O w r v) (df : List Deferred) :
    (setSlot tmps dst r).length = ((Act.put ⟨arr, df⟩ dst v).tmps).size ∧ ∀ t, DenV ρ H O w ((setSlot tmps dst r).getD t (.s .junk)) ((Act.put ⟨arr, df⟩ dst v).tmps.getD t undef) := by
  cases dst with
  | none => exact ⟨hsz, h⟩
  | some d =>
    simp only [setSlot, Act.put]
    refine ⟨by simp [hsz], fun t => ?_⟩
    rw [getD_set_list, getD_set_arr, hsz]
    split
    · exact hr
    · exact h t

theorem upList_get (us : List (Nat × AObj)) : ∀ (L : List AObj) (j : Nat), j < L.length → (upList L us)[j]? = match findUp us j with | some o => some o | none => L[j]? := by
  induction us with
  | nil => intro L j h; rfl
  | cons u us ih =>
    obtain ⟨id, o⟩ := u
    intro L j h
    simp only [upList, findUp]
    rw [ih _ _ (by simpa using h)]
    cases findUp us j with
    | some x => rfl
    | none =>
      by_cases hj : j = id
      · subst hj; simp [h]
      · simp [hj, Ne.symm hj]

theorem upList_length (us : List (Nat × AObj)) : ∀ (L : List AObj), (upList L us).length = L.length := by
  induction us with
  | nil => intro L; rfl
  | cons u us ih => intro L; obtain ⟨id, o⟩ := u; simp only [upList]; rw [ih]; simp

/-- Only objects that are there are written. -/
def upsIn (n : Nat) (us : List (Nat × AObj)) : Prop := ∀ j, n ≤ j → findUp us j = none

theorem look_put (s : St) (dst : Option Tmp) (q : Res) (hu : upsIn s.H.length q.up) : (s.put dst q).look = resH s.look q.up s.H.length q.new := by
  funext j
  simp only [St.look, St.put, resH]
  by_cases hj : j < s.H.length
  · rw [List.getElem?_append_left (by rw [upList_length]; exact hj), upList_get _ _ _ hj]
    cases findUp q.up j with
    | some o => rfl
    | none => rw [if_neg (by omega)]
  · rw [List.getElem?_append_right (by rw [upList_length]; omega), upList_length, hu j (by omega)]
    by_cases h2 : j < s.H.length + q.new.length
    · simp only [show s.H.length ≤ j ∧ j < s.H.length + q.new.length from ⟨by omega, h2⟩, and_self, if_true]
    · have e1 : q.new[j - s.H.length]? = none := List.getElem?_eq_none (by omega)
      have e2 : s.H[j]? = none := List.getElem?_eq_none (by omega)
      rw [e1, if_neg (by omega)]
      exact e2.symm

theorem Frm.trans (h : Rep X ρ s a w) (k : Frm ρ s.look w w') : Frm X.ρ X.H X.w w' := by
  refine ⟨k.os.trans h.frm.os, k.tape.trans h.frm.tape, k.output.trans h.frm.output, fun b hb hO => ?_⟩
  rw [k.heap b (by have := h.from_.size; omega) (fun ho => ?_), h.frm.heap b hb hO]
  rcases h.from_.hot b (.inl ho) with (h1 | h1) | h1
  · exact hO h1
  · exact h.sat.apart b ho h1
  · omega

theorem yields_wp {o : Oper} {R : Value → World → Prop} {next : Act → World → Prop} {Q : Exit → Act → World → Prop} (h : Yields P o a.eval w R) (hn : ∀ v w', R v w' → next (a.put o.dst v) w') : o.wp P a w next Q := by
  unfold Yields at h
  unfold Oper.wp Oper.upon
  split at h
  · rename_i v w2 hr; rw [hr]; exact hn _ _ h
  · rename_i w2 hr; rw [hr]; exact hn _ _ h
  · rename_i f args w2 hr
    rw [hr]
    refine h.mono fun en w'' ⟨v, he, hv⟩ => ?_
    subst he
    exact hn _ _ hv
  · exact h.elim

/-- An operation is carried out. -/
theorem Rep.op (hS : SOk P S Z) (hzc : ZCtx Z X) (h : Rep X ρ s a w) {o : Oper} {q : Res} (hq : (opR P (S s.H.length) (evOf s.tmps) o).eval s.look = some q) (hn : Needs q.need) (hu : upsIn s.H.length q.up) :
    Yields P o a.eval w (fun v w' => ∃ ρ', Rep X ρ' (s.put o.dst q) (a.put o.dst v) w') := by
  have hfresh : ∀ i, i < q.new.length → s.look (s.H.length + i) = none := fun i _ => by simp [St.look]
  have := opR_ok (base := s.H.length) hS hq hn (zed hzc h.frm h.sat h.from_) h.sat (e := a.eval) (fun x _ => h.ev x) hfresh
  unfold Yields at *
  have key : ∀ v w', Good ρ s.look X.G w (resH s.look q.up s.H.length q.new) (q.r s.H.length) v w' → ∃ ρ', Rep X ρ' (s.put o.dst q) (a.put o.dst v) w' := by
    rintro v w' ⟨ρ', h1, h2, h3, h4⟩
    have hl := look_put s o.dst q hu
    rw [← hl] at h1 h2 h3
    obtain ⟨arr, df⟩ := a
    have hp := put_den (ρ := ρ') (H := (s.put o.dst q).look) (O := Hot ρ' (s.put o.dst q).look X.G) (w := w') h.size (fun t => DenV.step h3 _ _ (h.den t)) o.dst h2 df
    exact ⟨ρ', h1, hp.1, hp.2, by have := h.defers; cases o.dst <;> exact this, h.from_.trans h3, Frm.trans h h4⟩
  split at this
  · exact key _ _ this
  · exact key _ _ this
  · exact this.mono fun en w'' ⟨v, he, hv⟩ => ⟨v, he, key _ _ hv⟩
  · exact this
end
end Go.Sx
