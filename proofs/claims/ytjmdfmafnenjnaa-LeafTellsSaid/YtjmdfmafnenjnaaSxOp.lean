import Derived.Test.YtjmdfmafnenjnaaSxPart
import Derived.Test.YtjmdfmafnenjnaaSxEq
/-! One operation. -/
namespace Go.Sx
open Go

/-- What comes of one operation: a value, and a world. -/
def Yields (P : Program) (o : Oper) (e : Operand → Value) (w : World) (R : Value → World → Prop) : Prop :=
  match (execOp e o).run P w with
  | .ok (.value v) w' => R v w'
  | .ok .skip w' => R undef w'
  | .ok (.enter f args) w' => Calls P f args w' fun en w'' => ∃ v, en = .returned v ∧ R v w''
  | _ => False

/-- What the package's own variables bear, and stands. -/
structure Glob where
  bs : List Nat
  ok : World → Prop
  low : ∀ w, ok w → ∀ b, b ∈ bs → b < w.heap.size
  keep : ∀ w w', ok w → (∀ b, b ∈ bs → w'.heap[b]? = w.heap[b]?) → ok w'

/-- Nothing is said of them. -/
def Glob.any : Glob := ⟨[], fun _ => True, fun _ _ b hb => by simp at hb, fun _ _ _ _ => trivial⟩

/-- The variables stand ready, and none of their blocks is own. -/
def ZAt (Z : Glob) (ρ : Nat → Value) (H : AHeap) (w : World) : Prop := Z.ok w ∧ ∀ b, b ∈ Z.bs → ¬ Own ρ H b

/-- The summaries tell the truth. -/
def SOk (P : Program) (S : SummB) (Z : Glob) : Prop :=
  ∀ (base : Nat) (f : FuncId) (args : List AV) (H : AHeap) (q : Res), callable P f = true → (S base f args).eval H = some q → Needs q.need → ∀ (ρ : Nat → Value) (G : Nat → Prop) (w : World) (vs : List Value),
    (∀ i, i < q.new.length → H (base + i) = none) → ZAt Z ρ H w → Sat ρ H G w → DenL ρ H (Hot ρ H G) w args vs →
    Calls P f vs.toArray w fun en w' => ∃ v, en = .returned v ∧ Good ρ H G w (resH H q.up base q.new) (q.r base) v w'

section
variable {ρ ρ' : Nat → Value} {H H' : AHeap} {G O O' : Nat → Prop} {w w' : World} {P : Program} {S : SummB} {Z : Glob}

theorem orFail_ok {why : String} {p : Option (List Prop × AV)} {q : Res} (h : (orFail why p).eval H = some q) : ∃ x, p = some x ∧ q = ⟨x.1, [], [], fun _ => x.2⟩ := by
  cases p with
  | none => simp [orFail, RM.eval] at h
  | some x => simp only [orFail, plain, RM.eval, Option.some.injEq] at h; exact ⟨x, rfl, h.symm⟩

theorem yields_val {o : Oper} {e : Operand → Value} {q : Res} {s : Sem Value} (hs : Sat ρ H G w) (h : ValOK P ρ H (Hot ρ H G) w q s) (he : (execOp e o).run P w = (do pure (Next.value (← s)) : Sem Next).run P w) (base : Nat) :
    Yields P o e w (fun v w' => Good ρ H G w (resH H q.up base q.new) (q.r base) v w') := by
  obtain ⟨h1, h2, v, h3, h4⟩ := h
  unfold Yields
  rw [he, h1, h2, resH_nil]
  simp only [Sem.run_bind, h3, Result.andThen_ok, Sem.run_pure]
  exact Good.val hs (h4 base)

theorem yields_new {o : Oper} {e : Operand → Value} {R : Value → World → Prop} {s : Sem Value} (h : ∃ v w', s.run P w = .ok v w' ∧ R v w') (he : (execOp e o).run P w = (do pure (Next.value (← s)) : Sem Next).run P w) : Yields P o e w R := by
  obtain ⟨v, w', h1, h2⟩ := h
  unfold Yields
  rw [he]
  simp only [Sem.run_bind, h1, Result.andThen_ok, Sem.run_pure]
  exact h2

theorem DenL_map {ev : Operand → AV} {e : Operand → Value} : ∀ (l : List Operand), (∀ x ∈ l, DenV ρ H O w (ev x) (e x)) → DenL ρ H O w (l.map ev) (l.map e)
  | [], _ => DenL_nil.2 rfl
  | x :: l, h => DenL_cons.2 ⟨e x, l.map e, rfl, h x (by simp), DenL_map l (fun y hy => h y (by simp [hy]))⟩

theorem DenL_append {as bs : List AV} {us vs : List Value} (h1 : DenL ρ H O w as us) (h2 : DenL ρ H O w bs vs) : DenL ρ H O w (as ++ bs) (us ++ vs) := by
  induction as generalizing us with
  | nil => rw [DenL_nil.1 h1]; exact h2
  | cons a as ih =>
    obtain ⟨v, rest, rfl, h3, h4⟩ := DenL_cons.1 h1
    exact DenL_cons.2 ⟨v, rest ++ vs, rfl, h3, ih h4⟩

theorem callFunc_run {f : FuncId} (h : callable P f = true) (args : Array Value) (w : World) : (callFunc f args).run P w = .ok (.enter f args) w := by
  unfold callable at h
  split at h
  · rename_i fn hf
    simp only [Bool.and_eq_true, Bool.not_eq_true', beq_eq_false_iff_ne, ne_eq] at h
    have hb : ¬ fn.body = none := by
      intro hb
      rw [hb] at h
      simp at h
    simp [callFunc, hf, h.2, hb]
  · cases h

theorem fn0_den {f : FuncId} {v : Value} (h : DenS O w (.fn0 f) v) : v = .func (.func f) #[] #[] := by cases h; rfl

theorem denopt {ev : Operand → AV} {e : Operand → Value} {l : Option Operand} (h : ∀ x, l = some x → DenV ρ H O w (ev x) (e x)) : DenOpt ρ H O w (l.map ev) (l.map e) := by
  cases l with
  | none => trivial
  | some x => exact h x rfl

theorem mem_parts {ps : Array (Nat × Operand)} {p : Nat × Operand} (h : p ∈ ps) : p.2 ∈ (ps.toList.map (·.2)).toArray := by
  simp only [List.mem_toArray, List.mem_map]
  exact ⟨p, Array.mem_toList_iff.2 h, rfl⟩

theorem opR0_ok (hS : SOk P S Z) {base : Nat} {o : Oper} {ev : Operand → AV} {q : Res} (h : (opR0 P (S base) ev o).eval H = some q) (hn : Needs q.need) (hz : ZAt Z ρ H w) (hs : Sat ρ H G w) {e : Operand → Value}
    (hd : ∀ x ∈ o.op.operands, DenV ρ H (Hot ρ H G) w (ev x) (e x)) (hb : ∀ i, i < q.new.length → H (base + i) = none) :
    Yields P o e w (fun v w' => Good ρ H G w (resH H q.up base q.new) (q.r base) v w') := by
  unfold opR0 at h
  split at h
  · -- move
    rename_i x ho
    have hx := hd x (by simp [ho, Op.operands])
    simp only [plain, RM.eval, Option.some.injEq] at h
    subst h
    unfold Yields
    simp only [execOp, ho, Sem.run_pure, resH_nil]
    exact Good.val hs hx
  · -- assign
    rename_i x ho
    have hx := hd x (by simp [ho, Op.operands])
    simp only [plain, RM.eval, Option.some.injEq] at h
    subst h
    unfold Yields
    simp only [execOp, ho, Sem.run_pure, resH_nil]
    exact Good.val hs hx
  · -- pick
    rename_i c a b ho
    obtain ⟨⟨n, r⟩, h1, rfl⟩ := orFail_ok h
    obtain ⟨t, h2, h3⟩ := pickR_ok h1 (hd c (by simp [ho, Op.operands])) (hd a (by simp [ho, Op.operands])) (hd b (by simp [ho, Op.operands]))
    unfold Yields
    simp only [execOp, ho, h2, asBool, resH_nil]
    cases t <;> simp at h3 ⊢ <;> exact Good.val hs h3
  · -- alloc
    rename_i t ho
    exact yields_new (allocR_ok h hs hb (.tuple #[])) (by simp only [execOp, ho])
  · -- box
    rename_i t x ho
    exact yields_new (boxR_ok h hs (hd x (by simp [ho, Op.operands])) hb) (by simp only [execOp, ho])
  · -- build
    rename_i t ps ho
    exact yields_val hs (buildR_ok h hn (fun p hp => hd p.2 (by rw [ho]; exact mem_parts hp))) (by simp only [execOp, ho]) base
  · -- buildSlice
    rename_i t n ps ho
    exact yields_new (buildSliceR_ok h hs (fun p hp => hd p.2 (by rw [ho]; exact mem_parts hp)) hb) (by simp only [execOp, ho])
  · -- load
    rename_i t a ho
    exact yields_val hs (loadR_ok h hn hs (hd a (by simp [ho, Op.operands]))) (by simp only [execOp, ho]) base
  · -- store
    rename_i t a x ho
    obtain ⟨w', h1, h2⟩ := storeR_ok h hs (hd a (by simp [ho, Op.operands])) (hd x (by simp [ho, Op.operands]))
    unfold Yields
    simp only [execOp, ho, Sem.run_bind, h1, Result.andThen_ok, Sem.run_pure]
    exact h2 base
  · -- nilCheck
    rename_i x ho
    obtain ⟨h1, h2, h3, h4⟩ := nilCheckR_ok (P := P) h hn (hd x (by simp [ho, Op.operands])) e o x ho rfl
    unfold Yields
    rw [h3, h1, h2, resH_nil]
    exact Good.val hs (h4 base)
  · -- binOp
    rename_i op t x y ty ho
    obtain ⟨⟨n, r⟩, h1, rfl⟩ := orFail_ok h
    obtain ⟨v, h2, h3⟩ := binR_ok (ox := x) (oy := y) h1 hn (hd x (by simp [ho, Op.operands])) (hd y (by simp [ho, Op.operands]))
    exact yields_val hs ⟨rfl, rfl, v, h2, fun _ => h3⟩ (by simp only [execOp, ho]) base
  · -- unOp
    rename_i op t x ho
    obtain ⟨⟨n, r⟩, h1, rfl⟩ := orFail_ok h
    obtain ⟨v, h2, h3⟩ := unR_ok (P := P) h1 hn (hd x (by simp [ho, Op.operands]))
    exact yields_val hs ⟨rfl, rfl, v, h2, fun _ => h3⟩ (by simp only [execOp, ho]) base
  · -- convert
    rename_i a b x ho
    exact yields_val hs (convertR_ok h hn hs (hd x (by simp [ho, Op.operands]))) (by simp only [execOp, ho]) base
  · -- makeFunc
    rename_i fn a b ho
    refine yields_val hs (makeFuncR_ok h hn (DenL_map a.toList (fun x hx => hd x (by simp [ho, Op.operands, Array.mem_toList_iff.1 hx]))) (DenL_map b.toList (fun x hx => hd x (by simp [ho, Op.operands, Array.mem_toList_iff.1 hx])))) ?_ base
    have e1 : ∀ a : Array Operand, (a.toList.map e).toArray = a.map e := fun a => by apply Array.toList_inj.1; simp
    simp only [execOp, ho, e1]
  · -- slice
    rename_i t x l hi m ho
    refine yields_val hs (sliceR_ok hs h hn (hd x (by simp [ho, Op.operands])) (denopt (l := l) (fun y hy => hd y (by simp [ho, Op.operands, hy]))) (denopt (l := hi) (fun y hy => hd y (by simp [ho, Op.operands, hy]))) (denopt (l := m) (fun y hy => hd y (by simp [ho, Op.operands, hy])))) (by simp only [execOp, ho]) base
  · -- fieldAddr
    rename_i t x f ho
    exact yields_val hs (fieldAddrR_ok h hn (hd x (by simp [ho, Op.operands]))) (by simp only [execOp, ho]) base
  · -- field
    rename_i t x f ho
    exact yields_val hs (fieldR_ok h hn (hd x (by simp [ho, Op.operands]))) (by simp only [execOp, ho]) base
  · -- indexAddr
    rename_i t x i ho
    exact yields_val hs (indexAddrR_ok h hn hs (hd x (by simp [ho, Op.operands])) (hd i (by simp [ho, Op.operands]))) (by simp only [execOp, ho]) base
  · -- index
    rename_i t x i ho
    exact yields_val hs (indexR_ok h hn (hd x (by simp [ho, Op.operands])) (hd i (by simp [ho, Op.operands]))) (by simp only [execOp, ho]) base
  · -- extract
    rename_i x i ho
    exact yields_val hs (extractR_ok h hn (hd x (by simp [ho, Op.operands]))) (by simp only [execOp, ho]) base
  · -- lookup
    rename_i t x i ok ho
    exact yields_val hs (lookupR_ok h hn hs (hd x (by simp [ho, Op.operands])) (hd i (by simp [ho, Op.operands]))) (by simp only [execOp, ho]) base
  · -- mapUpdate
    rename_i t x i v ho
    obtain ⟨w', h1, h2⟩ := mapUpdateR_ok h hs (hd x (by simp [ho, Op.operands])) (hd i (by simp [ho, Op.operands])) (hd v (by simp [ho, Op.operands]))
    unfold Yields
    simp only [execOp, ho, Sem.run_bind, h1, Result.andThen_ok, Sem.run_pure]
    exact h2 base
  · -- makeMap
    rename_i t r ho
    obtain ⟨h1, h2⟩ := makeMapR_ok h hs hb
    have hr : r = none := by cases r with
      | none => rfl
      | some x => cases h1
    subst hr
    exact yields_new h2 (by simp only [execOp, ho]; rfl)
  · -- makeSlice
    rename_i t l c ho
    exact yields_new (makeSliceR_ok h hn hs (hd l (by simp [ho, Op.operands])) (hd c (by simp [ho, Op.operands])) hb) (by simp only [execOp, ho])
  · -- call
    rename_i c ho
    split at h
    · rename_i f hc
      have hf := hd f (by simp [ho, Op.operands, Call.operands, hc])
      have hargs : ∀ x ∈ c.args.toList, DenV ρ H (Hot ρ H G) w (ev x) (e x) := fun x hx => hd x (by simp [ho, Op.operands, Call.operands, hc, Array.mem_toList_iff.1 hx])
      have hl := DenL_map c.args.toList hargs
      have e1 : (c.args.toList.map e).toArray = c.args.map e := by apply Array.toList_inj.1; simp
      split at h
      · rename_i g hg
        rw [hg] at hf
        have hf' := DenS_of_V (by simp) hf
        unfold callR at h
        rw [Bool.cond_eq_ite] at h
        split at h
        · rename_i hcall
          have key := hS base g _ H q hcall h hn ρ G w _ hb hz hs hl
          unfold Yields
          have hv := fn0_den hf'
          have hrun : (execOp e o).run P w = .ok (.enter g (c.args.toList.map e).toArray) w := by
            rw [e1]
            simp [execOp, ho, resolve, hc, hv, Deferred.ofValue, invoke, callFunc_run hcall]
          rw [hrun]
          exact key
        · cases h
      · rename_i g caps hg
        rw [hg] at hf
        unfold DenV at hf
        obtain ⟨vs, hv, hcaps⟩ := hf
        unfold callR at h
        rw [Bool.cond_eq_ite] at h
        split at h
        · rename_i hcall
          have key := hS base g _ H q hcall h hn ρ G w _ hb hz hs (DenL_append hl hcaps)
          unfold Yields
          have hrun : (execOp e o).run P w = .ok (.enter g (c.args.toList.map e ++ vs).toArray) w := by
            have e2 : (c.args.toList.map e ++ vs).toArray = c.args.map e ++ vs.toArray := by apply Array.toList_inj.1; simp
            rw [e2]
            simp [execOp, ho, resolve, hc, hv, Deferred.ofValue, invoke, callFunc_run hcall]
          rw [hrun]
          exact key
        · cases h
      · cases h
    · rename_i b hc
      have hargs : ∀ x ∈ c.args.toList, DenV ρ H (Hot ρ H G) w (ev x) (e x) := fun x hx => hd x (by simp [ho, Op.operands, Call.operands, hc, Array.mem_toList_iff.1 hx])
      have hrun : (execOp e o).run P w = (builtin b c.argTypes o.type (c.args.map fun | .const _ => true | _ => false) (c.args.map e)).run P w := by
        simp [execOp, ho, resolve, hc, invoke]
        rfl
      unfold builtinR at h
      split at h
      · rename_i t ts x hts hx
        obtain ⟨y, hy, rfl⟩ : ∃ y, c.args.toList = [y] ∧ ev y = x := by
          cases hl : c.args.toList with
          | nil => rw [hl] at hx; simp at hx
          | cons y l =>
            rw [hl] at hx
            simp only [List.map_cons, List.cons.injEq, List.map_eq_nil_iff] at hx
            exact ⟨y, by rw [hx.2], hx.1⟩
        have ea : c.args.map e = #[e y] := by apply Array.toList_inj.1; simp [hy]
        have et : c.argTypes = (t :: ts).toArray := by apply Array.toList_inj.1; simp [hts]
        refine yields_val hs (lenR_ok (ty := o.type) (ts := ts) h hn hs (hargs y (by simp [hy]))) ?_ base
        rw [hrun, ea, et]
        rfl
      · rename_i t t' x y hts hx
        obtain ⟨x0, y0, hl, rfl, rfl⟩ : ∃ x0 y0, c.args.toList = [x0, y0] ∧ ev x0 = x ∧ ev y0 = y := by
          match hl : c.args.toList with
          | [] => rw [hl] at hx; simp at hx
          | [_] => rw [hl] at hx; simp at hx
          | [a, b] => rw [hl] at hx; simp at hx; exact ⟨a, b, rfl, hx.1, hx.2⟩
          | _ :: _ :: _ :: _ => rw [hl] at hx; simp at hx
        have ea : c.args.map e = #[e x0, e y0] := by apply Array.toList_inj.1; simp [hl]
        have et : c.argTypes = #[t, t'] := by apply Array.toList_inj.1; simp [hts]
        rw [Bool.cond_eq_ite] at h
        split at h
        · rename_i hz
          have hzero : (∃ e', P.underlying t' = some (.slice e')) ∨ P.underlying t' = some .string := by
            unfold srcType at hz
            split at hz
            · rename_i e' he; exact .inl ⟨e', he⟩
            · rename_i he; exact .inr he
            · cases hz
          refine yields_new (appendR_ok (ty := o.type) h hn hs (hargs x0 (by simp [hl])) (hargs y0 (by simp [hl])) hzero hb) ?_
          rw [hrun, ea, et]
          rfl
        · cases h
      · rename_i x y hx
        obtain ⟨x0, y0, hl, rfl, rfl⟩ : ∃ x0 y0, c.args.toList = [x0, y0] ∧ ev x0 = x ∧ ev y0 = y := by
          match hl : c.args.toList with
          | [] => rw [hl] at hx; simp at hx
          | [_] => rw [hl] at hx; simp at hx
          | [a, b] => rw [hl] at hx; simp at hx; exact ⟨a, b, rfl, hx.1, hx.2⟩
          | _ :: _ :: _ :: _ => rw [hl] at hx; simp at hx
        have ea : c.args.map e = #[e x0, e y0] := by apply Array.toList_inj.1; simp [hl]
        refine yields_val hs (minR_ok (ts := c.argTypes) (ty := o.type) h hn (hargs x0 (by simp [hl])) (hargs y0 (by simp [hl]))) ?_ base
        rw [hrun, ea]
        rfl
      · rename_i x y hx
        obtain ⟨x0, y0, hl, rfl, rfl⟩ : ∃ x0 y0, c.args.toList = [x0, y0] ∧ ev x0 = x ∧ ev y0 = y := by
          match hl : c.args.toList with
          | [] => rw [hl] at hx; simp at hx
          | [_] => rw [hl] at hx; simp at hx
          | [a, b] => rw [hl] at hx; simp at hx; exact ⟨a, b, rfl, hx.1, hx.2⟩
          | _ :: _ :: _ :: _ => rw [hl] at hx; simp at hx
        have ea : c.args.map e = #[e x0, e y0] := by apply Array.toList_inj.1; simp [hl]
        refine yields_val hs (minR_ok (ts := c.argTypes) (ty := o.type) h hn (hargs x0 (by simp [hl])) (hargs y0 (by simp [hl]))) ?_ base
        rw [hrun, ea]
        rfl
      · -- copy
        rename_i t t' x y hts hx
        obtain ⟨x0, y0, hl, rfl, rfl⟩ : ∃ x0 y0, c.args.toList = [x0, y0] ∧ ev x0 = x ∧ ev y0 = y := by
          match hl : c.args.toList with
          | [] => rw [hl] at hx; simp at hx
          | [_] => rw [hl] at hx; simp at hx
          | [a, b] => rw [hl] at hx; simp at hx; exact ⟨a, b, rfl, hx.1, hx.2⟩
          | _ :: _ :: _ :: _ => rw [hl] at hx; simp at hx
        have ea : c.args.map e = #[e x0, e y0] := by apply Array.toList_inj.1; simp [hl]
        have et : c.argTypes = #[t, t'] := by apply Array.toList_inj.1; simp [hts]
        rw [Bool.cond_eq_ite] at h
        split at h
        · obtain ⟨v, w', h1, h2⟩ := copyR_ok (ty := o.type) (t' := t') h hs (hargs x0 (by simp [hl])) (hargs y0 (by simp [hl]))
          refine yields_new ⟨v, w', h1, h2 base⟩ ?_
          rw [hrun, ea, et]
          rfl
        · cases h
      · -- clear
        rename_i t ts x hts hx
        obtain ⟨y, hy, rfl⟩ : ∃ y, c.args.toList = [y] ∧ ev y = x := by
          cases hl : c.args.toList with
          | nil => rw [hl] at hx; simp at hx
          | cons y l =>
            rw [hl] at hx
            simp only [List.map_cons, List.cons.injEq, List.map_eq_nil_iff] at hx
            exact ⟨y, by rw [hx.2], hx.1⟩
        have ea : c.args.map e = #[e y] := by apply Array.toList_inj.1; simp [hy]
        have et : c.argTypes = (t :: ts).toArray := by apply Array.toList_inj.1; simp [hts]
        obtain ⟨v, w', h1, h2⟩ := clearR_ok (ty := o.type) (ts := ts) h hs (hargs y (by simp [hy]))
        refine yields_new ⟨v, w', h1, h2 base⟩ ?_
        rw [hrun, ea, et]
        rfl
      · cases h
    · cases h
  · cases h

theorem opR_ok (hS : SOk P S Z) {base : Nat} {o : Oper} {ev : Operand → AV} {q : Res} (h : (opR P (S base) ev o).eval H = some q) (hn : Needs q.need) (hz : ZAt Z ρ H w) (hs : Sat ρ H G w) {e : Operand → Value}
    (hd : ∀ x ∈ o.op.operands, DenV ρ H (Hot ρ H G) w (ev x) (e x)) (hb : ∀ i, i < q.new.length → H (base + i) = none) :
    Yields P o e w (fun v w' => Good ρ H G w (resH H q.up base q.new) (q.r base) v w') := by
  unfold opR at h
  split at h
  · rename_i op t x y ty ho
    have hx := relax_den (hd x (by simp [ho, Op.operands]))
    have hy := hd y (by simp [ho, Op.operands])
    rw [Bool.cond_eq_ite] at h
    split at h
    · rename_i hi
      exact yields_val hs (nilR_ok (ox := x) (oy := y) h hn hs hx (nils_den hy hi)) (by simp only [execOp, ho]) base
    · obtain ⟨⟨n, r⟩, h1, rfl⟩ := orFail_ok h
      obtain ⟨v, h2, h3⟩ := binR_ok (ox := x) (oy := y) h1 hn hx hy
      exact yields_val hs ⟨rfl, rfl, v, h2, fun _ => h3⟩ (by simp only [execOp, ho]) base
  · exact opR0_ok hS h hn hz hs (fun x hx => relax_den (hd x hx)) hb
end
end Go.Sx
