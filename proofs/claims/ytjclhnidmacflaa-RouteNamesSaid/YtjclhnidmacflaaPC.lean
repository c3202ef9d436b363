/- Lemmas: SxFrames, SxFrames2, SxFrames3, SxResult, SxFrames4, SxSplit, SxThaw, SxExecOk, SxView, SxTy, SxOut, SxFn. -/
import Derived.RangeFuncIn
import Derived.RangeFuncRecord
import Derived.RangeFuncNested
import Derived.Test.YtjclhnidmacflaaPB

/-! Frames that wait, and those on top. -/
namespace Go.Sx
open Go

section
variable {ρ ρ' : Nat → Value} {H H' : AHeap} {G O O' : Nat → Prop} {w w' : World} {P : Program} {S : SummB} {Z : Glob} {X : Ctx} {s : St} {a : Act} {K : List AObj → AV → Prop} {C : Cfg → Prop} {ops : Array Oper}

/-- The act on top, seen among all slots. -/
structure TopR (n : Nat) (rest : List Value) (Ds : List Nat) (a t : Act) : Prop where
  sl : ∃ v0, a.tmps.toList = v0 ++ rest ∧ t.tmps = v0.toArray ∧ v0.length = n
  df : t.defers = a.defers ++ Ds.map markD

theorem TopR.get {n : Nat} {rest : List Value} {Ds : List Nat} {a t : Act} (h : TopR n rest Ds a t) {j : Nat} (hj : rest = [] ∨ j < n) : t.tmps[j]? = a.tmps[j]? := by
  obtain ⟨v0, h1, h2, h3⟩ := h.sl
  have e : a.tmps[j]? = (v0 ++ rest)[j]? := by rw [← h1, Array.getElem?_toList]
  rw [e, h2, List.getElem?_toArray]
  rcases hj with rfl | hj
  · rw [List.append_nil]
  · rw [List.getElem?_append_left (by omega)]

theorem TopR.eval {n : Nat} {rest : List Value} {Ds : List Nat} {a t : Act} (h : TopR n rest Ds a t) {x : Operand} (hx : rest = [] ∨ ∀ j, x = .tmp j → j < n) : t.eval x = a.eval x := by
  cases x with
  | tmp j =>
    show t.tmps.getD j undef = a.tmps.getD j undef
    rw [Array.getD_eq_getD_getElem?, Array.getD_eq_getD_getElem?, h.get (hx.imp id fun g => g j rfl)]
  | const v => rfl
  | global g => rfl
  | func f => rfl

theorem TopR.put {n : Nat} {rest : List Value} {Ds : List Nat} {a t : Act} (h : TopR n rest Ds a t) {dst : Option Tmp} (hd : rest = [] ∨ ∀ d, dst = some d → d < n) (v : Value) : TopR n rest Ds (a.put dst v) (t.put dst v) := by
  cases dst with
  | none => exact h
  | some d =>
    obtain ⟨v0, h1, h2, h3⟩ := h.sl
    refine ⟨⟨v0.set d v, ?_, ?_, by simp [h3]⟩, h.df⟩
    · show (a.tmps.setIfInBounds d v).toList = _
      rw [Array.toList_setIfInBounds, h1]
      rcases hd with rfl | hd
      · simp
      · rw [List.set_append_left _ _ (h3 ▸ hd d rfl)]
    · show t.tmps.setIfInBounds d v = _
      rw [h2]; simp

/-- An operation in its frame. -/
theorem op_step {R : Value → World → Prop} {i : Nat} {rest : List Nat} {o : Oper} (ho : ops[i]? = some o) (hw : Region.wanted o (yielded ops a.tmps) = true) (hnd : ∀ c, o.op ≠ .defer c) (h : Yields P o a.eval w R) (b : Frame) (k : List Item) (cs : List Frame) :
    ∃ v w', R v w' ∧ Steps P (lone (b.atR a (.inRegion ops (i :: rest) :: k)) cs w) (lone (b.atR (a.put o.dst v) (.inRegion ops rest :: k)) cs w') := by
  have hg := stepGR_op (P := P) (b := b) (k := k) (cs := cs) (w := w) (rest := rest) ho hw
  rw [Oper.semAt_eq _ _ _ hnd] at hg
  have hfin : ∀ v, (b.atR a (.inRegion ops (i :: rest) :: k)).finish v = b.atR (a.put o.dst v) (.inRegion ops rest :: k) := by
    intro v; rw [Frame.finish_atR, ho]; rfl
  unfold Yields at h
  split at h
  · rename_i v w' hr
    refine ⟨v, w', h, .one (step_lone_go ?_)⟩
    rw [hg, ← hfin]; simp [stepG.apply, hr]
  · rename_i w' hr
    refine ⟨undef, w', h, .one (step_lone_go ?_)⟩
    rw [hg, ← hfin]; simp [stepG.apply, hr]
  · rename_i f args w' hr
    obtain ⟨e, w2, fr, ⟨v, rfl, hv⟩, h2, h3, h4⟩ := h (b.atR a (.inRegion ops (i :: rest) :: k) :: cs)
    have henter : step P (lone (b.atR a (.inRegion ops (i :: rest) :: k)) cs w) =
        .next (lone (Frame.enter P f args .normal) (b.atR a (.inRegion ops (i :: rest) :: k) :: cs) w') :=
      step_lone_go (by rw [hg]; simp [stepG.apply, hr, Frame.atR])
    refine ⟨v, w2, hv, .head henter (Steps.trans h2 (.one ?_))⟩
    rw [← hfin]; exact step_leave_returned h4
  · exact h.elim

theorem op_skip {i : Nat} {rest : List Nat} {o : Oper} (ho : ops[i]? = some o) (hw : Region.wanted o (yielded ops a.tmps) = false) (b : Frame) (k : List Item) (cs : List Frame) :
    step P (lone (b.atR a (.inRegion ops (i :: rest) :: k)) cs w) = .next (lone (b.atR (a.put o.dst undef) (.inRegion ops rest :: k)) cs w) := by
  have := stepR_op_skip (P := P) (b := b) (a := a) (k := k) (cs := cs) (w := w) (ops := ops) (i := i) (rest := rest) (by simp [ho]; simpa using hw)
  simpa [ho] using this

/-- A call is entered. -/
theorem op_enter {i : Nat} {rest : List Nat} {o : Oper} (ho : ops[i]? = some o) (hw : Region.wanted o (yielded ops a.tmps) = true) (hnd : ∀ c, o.op ≠ .defer c) {f : FuncId} {args : Array Value} (h : (execOp a.eval o).run P w = .ok (.enter f args) w') (b : Frame) (k : List Item) (cs : List Frame) :
    step P (lone (b.atR a (.inRegion ops (i :: rest) :: k)) cs w) = .next (lone (Frame.enter P f args .normal) (b.atR a (.inRegion ops (i :: rest) :: k) :: cs) w') := by
  have hg := stepGR_op (P := P) (b := b) (k := k) (cs := cs) (w := w) (rest := rest) ho hw
  rw [Oper.semAt_eq _ _ _ hnd] at hg
  exact step_lone_go (by rw [hg]; simp [stepG.apply, h, Frame.atR])

theorem op_round {i : Nat} {rest : List Nat} {o : Oper} (ho : ops[i]? = some o) (hw : Region.wanted o (yielded ops a.tmps) = true) (hnd : ∀ c, o.op ≠ .defer c) {l : Nat} {f : FuncId} {tmps : Array Value} {asg body : Code} (h : (execOp a.eval o).run P w = .ok (.round l f tmps asg body) w') (b : Frame) (k : List Item) (cs : List Frame) :
    step P (lone (b.atR a (.inRegion ops (i :: rest) :: k)) cs w) = .next (lone (Frame.round l f tmps asg body .normal) (b.atR a (.inRegion ops (i :: rest) :: k) :: cs) w') := by
  have hg := stepGR_op (P := P) (b := b) (k := k) (cs := cs) (w := w) (rest := rest) ho hw
  rw [Oper.semAt_eq _ _ _ hnd] at hg
  exact step_lone_go (by rw [hg]; simp [stepG.apply, h])

theorem defer_ne (h : noDefer ops = true) {i : Nat} {o : Oper} (ho : ops[i]? = some o) : ∀ c, o.op ≠ .defer c := by
  intro c hc
  simp only [noDefer, List.all_eq_true] at h
  have := h o (by rw [← Array.getElem?_toList] at ho; exact List.mem_of_getElem? ho)
  rw [hc] at this
  cases this

/-- Operations whose proof stands, in their frame. -/
theorem ops_steps {Q : Exit → Act → World → Prop} (hnd : noDefer ops = true) (hQ : ∀ e a w, Q e a w → e = .normal) : ∀ (l : List Nat) (a : Act) (w : World), wpOps P ops Q l a w → ∀ (b : Frame) (k : List Item) (cs : List Frame),
    ∃ a' w', Q .normal a' w' ∧ Steps P (lone (b.atR a (.inRegion ops l :: k)) cs w) (lone (b.atR a' k) cs w')
  | [], a, w, h, b, k, cs => ⟨a, w, h, .one stepR_region_end⟩
  | i :: rest, a, w, h, b, k, cs => by
    simp only [wpOps] at h
    split at h
    · rename_i ho
      obtain ⟨a', w', h1, h2⟩ := ops_steps hnd hQ rest a w h b k cs
      have hs := stepR_op_skip (P := P) (b := b) (a := a) (k := k) (cs := cs) (w := w) (ops := ops) (i := i) (rest := rest) (by simp [ho])
      simp only [ho, Option.bind_none, Act.put] at hs
      exact ⟨a', w', h1, .head hs h2⟩
    · rename_i o ho
      by_cases hw : Region.wanted o (yielded ops a.tmps) = true
      · rw [if_pos hw] at h
        rcases h with h | ⟨_, a0, w0, hq⟩
        · unfold Oper.wp Oper.upon at h
          have hg := stepGR_op (P := P) (b := b) (k := k) (cs := cs) (w := w) (rest := rest) ho hw
          rw [Oper.semAt_eq _ _ _ (defer_ne hnd ho)] at hg
          have hfin : ∀ v, (b.atR a (.inRegion ops (i :: rest) :: k)).finish v = b.atR (a.put o.dst v) (.inRegion ops rest :: k) := by
            intro v; rw [Frame.finish_atR, ho]; rfl
          split at h
          · rename_i v w' hr
            obtain ⟨a', w2, h1, h2⟩ := ops_steps hnd hQ rest _ _ h b k cs
            refine ⟨a', w2, h1, .head (step_lone_go ?_) h2⟩
            rw [hg, ← hfin]; simp [stepG.apply, hr]
          · rename_i w' hr
            obtain ⟨a', w2, h1, h2⟩ := ops_steps hnd hQ rest _ _ h b k cs
            refine ⟨a', w2, h1, .head (step_lone_go ?_) h2⟩
            rw [hg, ← hfin]; simp [stepG.apply, hr]
          · rename_i d w' hr
            obtain ⟨a', w2, h1, h2⟩ := ops_steps hnd hQ rest _ _ h b k cs
            refine ⟨a', w2, h1, .head (step_lone_go ?_) h2⟩
            have : ({ b.atR a (.inRegion ops (i :: rest) :: k) with defers := d :: a.defers } : Frame).finish undef =
                b.atR ({ a with defers := d :: a.defers }.put o.dst undef) (.inRegion ops rest :: k) := by
              have := Frame.finish_atR b { a with defers := d :: a.defers } ops i rest k undef
              rw [ho] at this; exact this
            rw [hg]; simp only [stepG.apply, Sem.runT_eq, hr, GStep.bare_after]
            exact congrArg (fun fr => GStep.go { frame := fr, callers := cs, status := .running, dying := none } w') this
          · rename_i f args w' hr
            obtain ⟨e, w2, fr, hR, hsteps, hfn, hleave⟩ := h (b.atR a (.inRegion ops (i :: rest) :: k) :: cs)
            have henter : step P (lone (b.atR a (.inRegion ops (i :: rest) :: k)) cs w) =
                .next (lone (Frame.enter P f args .normal) (b.atR a (.inRegion ops (i :: rest) :: k) :: cs) w') :=
              step_lone_go (by rw [hg]; simp [stepG.apply, hr, Frame.atR])
            cases e with
            | returned v =>
              obtain ⟨a', w3, h1, h2⟩ := ops_steps hnd hQ rest _ _ hR b k cs
              refine ⟨a', w3, h1, .head henter (Steps.trans hsteps (.head ?_ h2))⟩
              rw [← hfin]; exact step_leave_returned hleave
            | panicked chain => cases hQ _ _ _ hR
            | outgrown =>
              obtain ⟨a0, w0, hq⟩ := hR
              cases hQ _ _ _ hq
          · rename_i row args w' hr
            obtain ⟨v, w2, hR, hsteps⟩ := h (b.atR a (.inRegion ops (i :: rest) :: k)) cs
            have henter : step P (lone (b.atR a (.inRegion ops (i :: rest) :: k)) cs w) =
                .next (lone (Frame.ofRow P row args .normal) (b.atR a (.inRegion ops (i :: rest) :: k) :: cs) w') :=
              step_lone_go (by rw [hg]; simp [stepG.apply, hr, Frame.atR])
            obtain ⟨a', w3, h1, h2⟩ := ops_steps hnd hQ rest _ _ hR b k cs
            refine ⟨a', w3, h1, .head henter (Steps.trans hsteps ?_)⟩
            rw [hfin]; exact h2
          · cases hQ _ _ _ h
          · exact h.elim
        · cases hQ _ _ _ hq
      · rw [if_neg hw] at h
        obtain ⟨a', w', h1, h2⟩ := ops_steps hnd hQ rest _ _ h b k cs
        exact ⟨a', w', h1, .head (op_skip ho (by simpa using hw) b k cs) h2⟩

/-- The first operations of some, in their frame. -/
theorem ops_stepsZ {more : List Nat} {Q : Exit → Act → World → Prop} (hnd : noDefer ops = true) (hQ : ∀ e a w, Q e a w → e = .normal) : ∀ (l : List Nat) (a : Act) (w : World), wpOps P ops Q l a w → ∀ (b : Frame) (k : List Item) (cs : List Frame),
    ∃ a' w', Q .normal a' w' ∧ Steps P (lone (b.atR a (.inRegion ops (l ++ more) :: k)) cs w) (lone (b.atR a' (.inRegion ops more :: k)) cs w')
  | [], a, w, h, b, k, cs => ⟨a, w, h, ⟨0, rfl⟩⟩
  | i :: rest, a, w, h, b, k, cs => by
    rw [List.cons_append]
    simp only [wpOps] at h
    split at h
    · rename_i ho
      obtain ⟨a', w', h1, h2⟩ := ops_stepsZ (more := more) hnd hQ rest a w h b k cs
      have hs := stepR_op_skip (P := P) (b := b) (a := a) (k := k) (cs := cs) (w := w) (ops := ops) (i := i) (rest := rest ++ more) (by simp [ho])
      simp only [ho, Option.bind_none, Act.put] at hs
      exact ⟨a', w', h1, .head hs h2⟩
    · rename_i o ho
      by_cases hw : Region.wanted o (yielded ops a.tmps) = true
      · rw [if_pos hw] at h
        rcases h with h | ⟨_, a0, w0, hq⟩
        · unfold Oper.wp Oper.upon at h
          have hg := stepGR_op (P := P) (b := b) (k := k) (cs := cs) (w := w) (rest := rest ++ more) ho hw
          rw [Oper.semAt_eq _ _ _ (defer_ne hnd ho)] at hg
          have hfin : ∀ v, (b.atR a (.inRegion ops (i :: (rest ++ more)) :: k)).finish v = b.atR (a.put o.dst v) (.inRegion ops (rest ++ more) :: k) := by
            intro v; rw [Frame.finish_atR, ho]; rfl
          split at h
          · rename_i v w' hr
            obtain ⟨a', w2, h1, h2⟩ := ops_stepsZ (more := more) hnd hQ rest _ _ h b k cs
            refine ⟨a', w2, h1, .head (step_lone_go ?_) h2⟩
            rw [hg, ← hfin]; simp [stepG.apply, hr]
          · rename_i w' hr
            obtain ⟨a', w2, h1, h2⟩ := ops_stepsZ (more := more) hnd hQ rest _ _ h b k cs
            refine ⟨a', w2, h1, .head (step_lone_go ?_) h2⟩
            rw [hg, ← hfin]; simp [stepG.apply, hr]
          · rename_i d w' hr
            obtain ⟨a', w2, h1, h2⟩ := ops_stepsZ (more := more) hnd hQ rest _ _ h b k cs
            refine ⟨a', w2, h1, .head (step_lone_go ?_) h2⟩
            have : ({ b.atR a (.inRegion ops (i :: (rest ++ more)) :: k) with defers := d :: a.defers } : Frame).finish undef =
                b.atR ({ a with defers := d :: a.defers }.put o.dst undef) (.inRegion ops (rest ++ more) :: k) := by
              have := Frame.finish_atR b { a with defers := d :: a.defers } ops i (rest ++ more) k undef
              rw [ho] at this; exact this
            rw [hg]; simp only [stepG.apply, Sem.runT_eq, hr, GStep.bare_after]
            exact congrArg (fun fr => GStep.go { frame := fr, callers := cs, status := .running, dying := none } w') this
          · rename_i f args w' hr
            obtain ⟨e, w2, fr, hR, hsteps, hfn, hleave⟩ := h (b.atR a (.inRegion ops (i :: (rest ++ more)) :: k) :: cs)
            have henter : step P (lone (b.atR a (.inRegion ops (i :: (rest ++ more)) :: k)) cs w) =
                .next (lone (Frame.enter P f args .normal) (b.atR a (.inRegion ops (i :: (rest ++ more)) :: k) :: cs) w') :=
              step_lone_go (by rw [hg]; simp [stepG.apply, hr, Frame.atR])
            cases e with
            | returned v =>
              obtain ⟨a', w3, h1, h2⟩ := ops_stepsZ (more := more) hnd hQ rest _ _ hR b k cs
              refine ⟨a', w3, h1, .head henter (Steps.trans hsteps (.head ?_ h2))⟩
              rw [← hfin]; exact step_leave_returned hleave
            | panicked chain => cases hQ _ _ _ hR
            | outgrown =>
              obtain ⟨a0, w0, hq⟩ := hR
              cases hQ _ _ _ hq
          · rename_i row args w' hr
            obtain ⟨v, w2, hR, hsteps⟩ := h (b.atR a (.inRegion ops (i :: (rest ++ more)) :: k)) cs
            have henter : step P (lone (b.atR a (.inRegion ops (i :: (rest ++ more)) :: k)) cs w) =
                .next (lone (Frame.ofRow P row args .normal) (b.atR a (.inRegion ops (i :: (rest ++ more)) :: k) :: cs) w') :=
              step_lone_go (by rw [hg]; simp [stepG.apply, hr, Frame.atR])
            obtain ⟨a', w3, h1, h2⟩ := ops_stepsZ (more := more) hnd hQ rest _ _ hR b k cs
            refine ⟨a', w3, h1, .head henter (Steps.trans hsteps ?_)⟩
            rw [hfin]; exact h2
          · cases hQ _ _ _ h
          · exact h.elim
        · cases hQ _ _ _ hq
      · rw [if_neg hw] at h
        obtain ⟨a', w', h1, h2⟩ := ops_stepsZ (more := more) hnd hQ rest _ _ h b k cs
        exact ⟨a', w', h1, .head (op_skip ho (by simpa using hw) b k cs) h2⟩

/-- The slots that the operations name are those of the frame on top. -/
def InTop (n : Nat) (rest : List Value) (ops : Array Oper) : Prop := rest = [] ∨ slotsIn n ops = true

theorem InTop.op {n : Nat} {rest : List Value} (h : InTop n rest ops) {i : Nat} {o : Oper} (ho : ops[i]? = some o) : rest = [] ∨ ((∀ t ∈ o.looksAt ops, t < n) ∧ (∀ d, o.dst = some d → d < n) ∧ ∀ cs b, o.op ≠ .select cs b) := by
  refine h.imp id fun h => ?_
  simp only [slotsIn, List.all_eq_true] at h
  have := h o (by rw [← Array.getElem?_toList] at ho; exact List.mem_of_getElem? ho)
  simp only [opSlots, Bool.and_eq_true, List.all_eq_true] at this
  obtain ⟨⟨h1, h2⟩, h3⟩ := this
  refine ⟨fun t ht => by have := h1 t ht; simpa [Nat.blt, Nat.lt_iff_add_one_le] using this, fun d hd => by rw [hd] at h2; simpa [Nat.blt, Nat.lt_iff_add_one_le] using h2, fun cs b hc => by rw [hc] at h3; cases h3⟩

theorem TopR.same {n : Nat} {rest : List Value} {Ds : List Nat} {a t : Act} (h : TopR n rest Ds a t) (hin : InTop n rest ops) {i : Nat} {o : Oper} (ho : ops[i]? = some o) :
    execOp t.eval o = execOp a.eval o ∧ Region.wanted o (yielded ops t.tmps) = Region.wanted o (yielded ops a.tmps) := by
  rcases hin.op ho with hr | ⟨h1, h2, h3⟩
  · have e : t.tmps = a.tmps := by
      obtain ⟨v0, k1, k2, _⟩ := h.sl
      rw [hr, List.append_nil] at k1
      rw [k2, ← k1]
    have ee : t.eval = a.eval := funext fun x => by cases x <;> simp [Act.eval, e]
    rw [ee, e]
    exact ⟨rfl, rfl⟩
  · refine ⟨execOp_congr o h3 fun x hx => h.eval (.inr fun j hj => h1 j ?_), ?_⟩
    · subst hj
      simp only [Oper.looksAt, List.mem_append, List.mem_filterMap]
      exact .inl ⟨.tmp j, by simpa using hx, rfl⟩
    · unfold Region.wanted
      cases hg : o.guard with
      | none => rfl
      | some g =>
        obtain ⟨g, b⟩ := g
        simp only []
        congr 1
        unfold yielded
        cases hd : (ops[g]?).bind (·.dst) with
        | none => rfl
        | some d =>
          have : t.tmps[d]? = a.tmps[d]? := h.get (.inr (h1 d (by simp [Oper.looksAt, hg, hd])))
          simp only [Option.bind_some, this]

/-- What is proved of all slots stands in the frame on top. -/
theorem wpOps_top {n : Nat} {rest : List Value} {Ds : List Nat} {Q : Exit → Act → World → Prop} (hin : InTop n rest ops) (hQ : ∀ e a w, Q e a w → e = .normal) : ∀ (l : List Nat) (a t : Act) (w : World), TopR n rest Ds a t → wpOps P ops Q l a w →
    wpOps P ops (fun e t' w' => e = .normal ∧ ∃ a', Q .normal a' w' ∧ TopR n rest Ds a' t') l t w
  | [], a, t, w, ht, h => ⟨rfl, a, h, ht⟩
  | i :: l, a, t, w, ht, h => by
    simp only [wpOps] at h ⊢
    split at h
    · rename_i ho; exact wpOps_top hin hQ l a t w ht h
    · rename_i o ho
      obtain ⟨e1, e2⟩ := ht.same hin ho
      have hdst : rest = [] ∨ ∀ d, o.dst = some d → d < n := (hin.op ho).imp id (·.2.1)
      rw [e2]
      split at h
      · rename_i hw
        rw [if_pos hw]
        rcases h with h | ⟨_, a0, w0, hq⟩
        · refine .inl ?_
          unfold Oper.wp at *
          rw [e1]
          generalize (execOp a.eval o).run P w = r at *
          cases r with
          | ok x w' =>
            cases x <;> simp only [Oper.upon] at h ⊢ <;> first
              | exact wpOps_top hin hQ l _ _ _ (ht.put hdst _) h
              | exact wpOps_top hin hQ l _ _ _ (TopR.put (a := { a with defers := _ :: a.defers }) (t := { t with defers := _ :: t.defers }) ⟨ht.sl, by simp [ht.df]⟩ hdst _) h
              | exact Calls.mono h (fun e w'' he => by
                  cases e <;> first
                    | exact wpOps_top hin hQ l _ _ _ (ht.put hdst _) he
                    | (exact (by cases hQ _ _ _ he))
                    | (obtain ⟨a0, w0, h2⟩ := he; exact (by cases hQ _ _ _ h2)))
              | exact Rows.mono h (fun _ _ he => wpOps_top hin hQ l _ _ _ (ht.put hdst _) he)
          | halt x w' => cases x <;> simp only [Oper.upon] at h ⊢ <;> exact (by cases hQ _ _ _ h)
        · cases hQ _ _ _ hq
      · rename_i hw
        rw [if_neg hw]
        exact wpOps_top hin hQ l _ _ _ (ht.put hdst _) h
end
end Go.Sx

/-! The loops' records: laid, turned, and what the frames know of them. -/
namespace Go.Sx
open Go

section
variable {ρ ρ' : Nat → Value} {H H' : AHeap} {G G' O O' O2 : Nat → Prop} {w w' : World} {P : Program} {S : SummB} {Z : Glob} {X : Ctx} {s : St} {a : Act} {K : List AObj → AV → Prop} {C : Cfg → Prop} {ops : Array Oper} {E E' : List (Nat × Obj)}

theorem Step.src (h : Step ρ H O w ρ' H' O' w') (k : ∀ b, O b → O2 b) : Step ρ H O2 w ρ' H' O' w' :=
  ⟨h.rho, h.keep, fun b hb => (h.hot b hb).imp (k b) id, fun b hb ho => h.heap b hb (fun h1 => ho (k b h1)), h.size⟩

theorem Kept.sub (h : Kept (X.at G E) w) (hs : ∀ y ∈ E', y ∈ E) : Kept (X.at G E') w := fun y hy => h y (hs y hy)

theorem Rep.sub (h : Rep (X.at G E) ρ s a w) (hs : ∀ y ∈ E', y ∈ E) : Rep (X.at G E') ρ s a w := ⟨h.sat, h.size, h.den, h.defers, h.from_, h.frm, h.kept.sub hs⟩

/-- A record is turned. -/
theorem Rep.poke (h : Rep (X.at G E) ρ s a w) {D : Nat} {o o' : Obj} (hx : (D, o) ∈ E) (hE : ∀ y ∈ E', (y ∈ E ∧ y.1 ≠ D) ∨ y = (D, o')) : Rep (X.at G E') ρ s a (w.putObj D o') := by
  obtain ⟨hG, hle, hh⟩ := h.kept _ hx
  have hs := h.sat
  have hlt : D < w.heap.size := (Array.getElem?_eq_some_iff.1 hh).1
  have st : Step ρ s.look (Hot ρ s.look G) w ρ s.look (Hot ρ s.look G) (w.putObj D o') :=
    ⟨fun _ _ _ => rfl, fun _ o h => ⟨o, h, fun c' e' e => ⟨c', e', e, rfl, rfl⟩⟩, fun _ h => .inl h, fun b hb hO => World.putObj_heap_other (fun e => hO (.inr (e ▸ hG))), by simp⟩
  have hown : ∀ b, Own ρ s.look b → (w.putObj D o').heap[b]? = w.heap[b]? := fun b hb => World.putObj_heap_other (fun e => hs.apart b hb (e ▸ hG))
  refine ⟨⟨fun id o ho => (hs.obj id o ho).step st (fun b ha hb => hown b ⟨id, o, ho, ha, hb⟩), hs.inj, hs.apart, fun b hb => by rw [World.putObj_size]; exact hs.low b hb⟩, h.size, fun t => DenV.step st _ _ (h.den t), h.defers, h.from_.trans st, ⟨h.frm.os, h.frm.tape, h.frm.output, fun b hb hO => ?_⟩, fun y hy => ?_⟩
  · rw [World.putObj_heap_other (by have : X.w.heap.size ≤ D := hle; have : b < X.w.heap.size := hb; omega)]
    exact h.frm.heap b hb hO
  · rcases hE y hy with ⟨h1, h2⟩ | rfl
    · obtain ⟨k1, k2, k3⟩ := h.kept y h1
      exact ⟨k1, k2, by rw [World.putObj_heap_other h2]; exact k3⟩
    · exact ⟨hG, hle, World.putObj_heap_same hlt⟩

def setR (ρ : Nat → Value) (n : Nat) (u : Value) : Nat → Value := fun j => if j = n then u else ρ j

/-- A record is laid. -/
theorem Rep.grow (h : Rep (X.at G E) ρ s a w) (o : Obj) (u : Value) :
    Rep (X.at (fun b => G b ∨ b = w.heap.size) ((w.heap.size, o) :: E)) (setR ρ s.H.length u) ⟨s.tmps, s.H ++ [.dead]⟩ a (w.alloc o) ∧
    Step ρ s.look (Hot ρ s.look G) w (setR ρ s.H.length u) (St.look ⟨s.tmps, s.H ++ [.dead]⟩) (Hot (setR ρ s.H.length u) (St.look ⟨s.tmps, s.H ++ [.dead]⟩) (fun b => G b ∨ b = w.heap.size)) (w.alloc o) := by
  have hs := h.sat
  have old : ∀ {id : Nat} {o : AObj}, (s.H ++ [AObj.dead])[id]? = some o → (id = s.H.length ∧ o = .dead) ∨ (id ≠ s.H.length ∧ s.look id = some o) := by
    intro id o ho
    have h2 := (List.getElem?_eq_some_iff.1 ho).1
    simp only [List.length_append, List.length_cons, List.length_nil] at h2
    by_cases hid : id = s.H.length
    · subst hid
      simp at ho
      exact .inl ⟨rfl, ho.symm⟩
    · refine .inr ⟨hid, ?_⟩
      rwa [List.getElem?_append_left (by omega)] at ho
  have hlt : ∀ {id : Nat} {o : AObj}, s.look id = some o → id < s.H.length := fun h => (List.getElem?_eq_some_iff.1 h).1
  have hown : ∀ b, Own (setR ρ s.H.length u) (St.look ⟨s.tmps, s.H ++ [.dead]⟩) b → Own ρ s.look b := by
    rintro b ⟨id, o, ho, ha, hb⟩
    rcases old ho with ⟨_, rfl⟩ | ⟨h1, h2⟩
    · cases ha
    · rw [setR, if_neg h1] at hb
      exact ⟨id, o, h2, ha, hb⟩
  have st : Step ρ s.look (Hot ρ s.look G) w (setR ρ s.H.length u) (St.look ⟨s.tmps, s.H ++ [.dead]⟩) (Hot (setR ρ s.H.length u) (St.look ⟨s.tmps, s.H ++ [.dead]⟩) (fun b => G b ∨ b = w.heap.size)) (w.alloc o) := by
    refine ⟨fun id o ho => ?_, fun id o ho => ?_, fun b hb => ?_, fun b hb _ => alloc_old hb, by rw [alloc_size]; omega⟩
    · have := hlt ho
      rw [setR, if_neg (by omega)]
    · have h1 := hlt ho
      exact ⟨o, by show (s.H ++ [AObj.dead])[id]? = _; rw [List.getElem?_append_left h1]; exact ho, fun c' e' hc => ⟨c', e', hc, rfl, rfl⟩⟩
    · rcases hb with hb | hb | hb
      · exact .inl (.inl (hown b hb))
      · exact .inl (.inr hb)
      · exact .inr (by omega)
  have hle : X.w.heap.size ≤ w.heap.size := h.from_.size
  refine ⟨?_, st⟩
  refine ⟨⟨fun id o' ho => ?_, fun i j oi oj b hi hj ai aj bi bj => ?_, fun b hb hg => ?_, fun b hb => ?_⟩, h.size, fun t => DenV.step st _ _ (h.den t), h.defers, (h.from_.trans st).src (fun b hb => hb.imp id .inl), ⟨h.frm.os, h.frm.tape, h.frm.output, fun b hb hO => ?_⟩, fun y hy => ?_⟩
  · rcases old ho with ⟨_, rfl⟩ | ⟨h1, h2⟩
    · trivial
    · rw [setR, if_neg h1]
      exact (hs.obj id o' h2).step st (fun b ha hb => alloc_old (own_lt hs ⟨id, o', h2, ha, hb⟩))
  · rcases old hi with ⟨_, rfl⟩ | ⟨h1, h2⟩
    · cases ai
    · rcases old hj with ⟨_, rfl⟩ | ⟨h3, h4⟩
      · cases aj
      · rw [setR, if_neg h1] at bi
        rw [setR, if_neg h3] at bj
        exact hs.inj i j oi oj b h2 h4 ai aj bi bj
  · rcases hg with hg | hg
    · exact hs.apart b (hown b hb) hg
    · have := own_lt hs (hown b hb)
      omega
  · rw [alloc_size]
    rcases hb with hb | hb
    · have := hs.low b hb
      omega
    · omega
  · rw [alloc_old (show b < w.heap.size from Nat.lt_of_lt_of_le hb hle)]
    exact h.frm.heap b hb hO
  · rcases List.mem_cons.1 hy with rfl | hy
    · exact ⟨.inr rfl, hle, alloc_get⟩
    · obtain ⟨k1, k2, k3⟩ := h.kept y hy
      exact ⟨.inl k1, k2, by rw [alloc_old (Array.getElem?_eq_some_iff.1 k3).1]; exact k3⟩

/-! ### what the end owes -/
/-- What was got with more that is further out, stands with less. -/
theorem Post.of_rep {L : List AObj} {tmps : List AV} {r : AV} {v : Value} (hG1 : ∀ b, X.G b → G b) (hG2 : ∀ b, G b → X.G b ∨ X.w.heap.size ≤ b) (hr : Rep (X.at G E) ρ ⟨tmps, L⟩ a w)
    (hv : DenV ρ (fun id => L[id]?) (Hot ρ (fun id => L[id]?) G) w r v) (hK : K L r) : Post X K (.returned v) w := by
  have hs : Sat ρ (fun id => L[id]?) G w := hr.sat
  have hf : Step X.ρ X.H (Hot X.ρ X.H G) X.w ρ (fun id => L[id]?) (Hot ρ (fun id => L[id]?) G) w := hr.from_
  have less : ∀ b, Hot ρ (fun id => L[id]?) X.G b → Hot ρ (fun id => L[id]?) G b := fun b hb => hb.imp id (hG1 b)
  refine .inl ⟨v, rfl, L, r, hK, ρ, ⟨fun id o ho => ?_, hs.inj, fun b hb hg => hs.apart b hb (hG1 b hg), fun b hb => hs.low b (hG1 b hb)⟩, ?_, ?_, hr.frm⟩
  · have st : Step ρ (fun id => L[id]?) (Hot ρ (fun id => L[id]?) G) w ρ (fun id => L[id]?) (Hot ρ (fun id => L[id]?) X.G) w :=
      ⟨fun _ _ _ => rfl, fun _ o h => ⟨o, h, fun c' e' e => ⟨c', e', e, rfl, rfl⟩⟩, fun b h => .inl (less b h), fun _ _ _ => rfl, Nat.le_refl _⟩
    exact (hs.obj id o ho).step st (fun _ _ _ => rfl)
  · have st : Step ρ (fun id => L[id]?) (Hot ρ (fun id => L[id]?) G) w ρ (fun id => L[id]?) (Hot ρ (fun id => L[id]?) X.G) w :=
      ⟨fun _ _ _ => rfl, fun _ o h => ⟨o, h, fun c' e' e => ⟨c', e', e, rfl, rfl⟩⟩, fun b h => .inl (less b h), fun _ _ _ => rfl, Nat.le_refl _⟩
    exact hv.step st
  · refine ⟨hf.rho, hf.keep, fun b hb => ?_, fun b hb hO => hr.frm.heap b hb (fun ho => hO (.inl ho)), hf.size⟩
    rcases hf.hot b (less b hb) with (h1 | h1) | h1
    · exact .inl (.inl h1)
    · rcases hG2 b h1 with h2 | h2
      · exact .inl (.inr h2)
      · exact .inr h2
    · exact .inr h1

/-! ### marks -/
theorem unwind_mark {fr : Frame} {cs : List Frame} {D : Nat} {Ds : List Deferred} (hm : fr.mode = .returning) (hd : fr.defers = markD D :: Ds) (h : w.heap[D]? = some (.deferred (some []))) :
    step P (lone fr cs w) = .next (lone { fr with defers := Ds } cs (w.putObj D (.deferred none))) := by
  have hr := run_takeDeferred (P := P) h
  exact step_lone_go (by simp [stepG, unwind, hm, hd, markD, Sem.runT_eq, hr, GStep.bare_after])

/-- The marks of a frame that ends are taken. -/
theorem take_marks : ∀ (Ds : List Nat) {ρ : Nat → Value} {E2 : List (Nat × Obj)} {a : Act} {w : World} {fr : Frame}, ((Ds.map (fun D => (D, Obj.deferred (some []))) ++ E2).map (·.1)).Nodup →
    Rep (X.at G (Ds.map (fun D => (D, Obj.deferred (some []))) ++ E2)) ρ s a w → fr.mode = .returning → fr.defers = Ds.map markD →
    ∃ w', Rep (X.at G E2) ρ s a w' ∧ ∀ cs, Steps P (lone fr cs w) (lone { fr with defers := [] } cs w')
  | [], ρ, E2, a, w, fr, hn, hr, hm, hd => ⟨w, hr, fun cs => by
      have : fr = { fr with defers := [] } := by cases fr; simp only [List.map_nil] at hd; subst hd; rfl
      rw [← this]; exact .refl _ _⟩
  | D :: Ds, ρ, E2, a, w, fr, hn, hr, hm, hd => by
    simp only [List.map_cons, List.cons_append, List.nodup_cons] at hn
    have hmem : (D, Obj.deferred (some [])) ∈ ((D :: Ds).map (fun D => (D, Obj.deferred (some []))) ++ E2) := by simp
    have hh := (hr.kept _ hmem).2.2
    have hr' : Rep (X.at G (Ds.map (fun D => (D, Obj.deferred (some []))) ++ E2)) ρ s a (w.putObj D (.deferred none)) := by
      refine hr.poke hmem (fun y hy => .inl ⟨by simp only [List.map_cons, List.cons_append, List.mem_cons]; exact .inr hy, fun e => hn.1 (e ▸ List.mem_map_of_mem (f := Prod.fst) hy)⟩)
    obtain ⟨w', h1, h2⟩ := take_marks Ds (fr := { fr with defers := Ds.map markD }) hn.2 hr' hm rfl
    exact ⟨w', h1, fun cs => .head (unwind_mark hm hd hh) (h2 cs)⟩

/-! ### the loop with that yield -/
def upE (l : Nat) (o : Obj) (E : List (Nat × Obj)) : List (Nat × Obj) := E.map fun x => if x.1 = l then (l, o) else x

theorem upE_keys (l : Nat) (o : Obj) (E : List (Nat × Obj)) : (upE l o E).map (·.1) = E.map (·.1) := by
  rw [upE, List.map_map]
  refine List.map_congr_left fun x _ => ?_
  simp only [Function.comp]
  split
  · rename_i h; exact h.symm
  · rfl

theorem upE_none {l : Nat} {o : Obj} {E : List (Nat × Obj)} (h : l ∉ E.map (·.1)) : upE l o E = E := by
  rw [upE, show E = E.map id from (List.map_id _).symm, List.map_map]
  refine List.map_congr_left fun x hx => ?_
  simp only [Function.comp, id]
  rw [if_neg]
  rintro rfl
  exact h (List.mem_map_of_mem hx)

theorem upE_mem {l : Nat} {o : Obj} {E : List (Nat × Obj)} : ∀ y ∈ upE l o E, (y ∈ E ∧ y.1 ≠ l) ∨ y = (l, o) := by
  intro y hy
  simp only [upE, List.mem_map] at hy
  obtain ⟨x, hx, rfl⟩ := hy
  split
  · exact .inr rfl
  · rename_i hne; exact .inl ⟨hx, hne⟩

theorem upE_append (l : Nat) (o : Obj) (E F : List (Nat × Obj)) : upE l o (E ++ F) = upE l o E ++ upE l o F := List.map_append

theorem WfS.len {f0 : FuncId} : ∀ {ds : List FrD} {vs : List Value} {E : List (Nat × Obj)} {fs : List Frame}, WfS f0 ds vs E fs → vs.length = sizes ds
  | [], vs, E, fs, h => by rw [h.1]; rfl
  | d :: ds, vs, E, fs, h => by
    obtain ⟨v0, rv, v2, Ds, E1, E2, b, a, fs2, lv, lE, todo, rfl, rfl, rfl, h1, h2, h3, h4, h5⟩ := h
    have hrv : rv.length = oneIf d.round := by
      obtain ⟨r, _, h6⟩ := h3.fr
      cases hd : d.round <;> rw [hd] at h6 <;> simp only [] at h6
      · rw [h6.1]; rfl
      · obtain ⟨l, rfl, _⟩ := h6; rfl
    have hlv : lv.length = oneIf d.lp.isSome := by
      cases hd : d.lp <;> rw [hd] at h5 <;> simp only [] at h5
      · rw [h5.1]; rfl
      · obtain ⟨l, D, rfl, _⟩ := h5; rfl
    simp only [List.length_append, List.length_map, sizes, FrD.size, h4.len, hrv, hlv, h1, h2]
    omega

theorem yieldV_inj {l l' : Nat} (h : yieldV l = yieldV l') : l = l' := by
  simp only [yieldV, Value.func.injEq, Fn.yield.injEq] at h
  exact h.1

/-- The loop is found, and its record. -/
theorem findLp_ok {f0 : FuncId} {id : Nat} {d : FrD} {L : Lp} {st : LpSt} {slots : List AV} : ∀ {ds : List FrD} {azs : List AV} {vs : List Value} {E : List (Nat × Obj)} {fs : List Frame},
    findLp id ds azs = some (d, L, st, slots) → WfS f0 ds vs E fs → (E.map (·.1)).Nodup → (∀ t, DenV ρ H O w (azs.getD t (.s .junk)) (vs.getD t undef)) →
    ∃ (l D : Nat) (v0 : List Value), ρ id = yieldV l ∧ v0.length = d.n ∧ (l, Obj.loop (st.lrec L (d.f.getD f0) v0.toArray D)) ∈ E ∧ (∀ t, t < d.n → DenV ρ H O w (slots.getD t (.s .junk)) (v0.getD t undef)) ∧ (azs.length = vs.length → slots.length = d.n) ∧
      ∀ st', WfS f0 (setLp id st' ds azs) vs (upE l (Obj.loop (st'.lrec L (d.f.getD f0) v0.toArray D)) E) fs
  | [], azs, vs, E, fs, h, _, _, _ => by simp [findLp] at h
  | e :: ds, azs, vs, E, fs, h, hw, hn, hd => by
    have hw0 := hw
    obtain ⟨v0, rv, v2, Ds, E1, E2, b, a, fs2, lv, lE, todo, rfl, rfl, rfl, h1, h2, h3, h4, h5⟩ := hw
    have hrv : rv.length = oneIf e.round := by
      obtain ⟨r, _, h6⟩ := h3.fr
      cases hd : e.round <;> rw [hd] at h6 <;> simp only [] at h6
      · rw [h6.1]; rfl
      · obtain ⟨l, rfl, _⟩ := h6; rfl
    have hlv : lv.length = oneIf e.lp.isSome := by
      cases hd : e.lp <;> rw [hd] at h5 <;> simp only [] at h5
      · rw [h5.1]; rfl
      · obtain ⟨l, D, rfl, _⟩ := h5; rfl
    have hdrop : ∀ t, DenV ρ H O w ((azs.drop e.size).getD t (.s .junk)) (v2.getD t undef) := by
      intro t
      have := hd (e.size + t)
      have e1 : (azs.drop e.size).getD t (.s .junk) = azs.getD (e.size + t) (.s .junk) := by simp [List.getD]
      have e2 : (v0 ++ (rv ++ (Ds.map markV ++ (lv ++ v2)))).getD (e.size + t) undef = v2.getD t undef := by
        rw [show v0 ++ (rv ++ (Ds.map markV ++ (lv ++ v2))) = (v0 ++ (rv ++ (Ds.map markV ++ lv))) ++ v2 from by simp]
        rw [List.getD, List.getElem?_append_right (by simp only [List.length_append, List.length_map, hrv, hlv, h1, h2, FrD.size]; omega)]
        rw [show e.size + t - (v0 ++ (rv ++ (Ds.map markV ++ lv))).length = t from by simp only [List.length_append, List.length_map, hrv, hlv, h1, h2, FrD.size]; omega]
        rfl
      rw [e1, ← e2]; exact this
    -- the rest of the frames
    have next : (findLp id ds (azs.drop e.size) = some (d, L, st, slots)) → (∀ st', setLp id st' (e :: ds) azs = e :: setLp id st' ds (azs.drop e.size)) →
        ∃ (l D : Nat) (v0' : List Value), ρ id = yieldV l ∧ v0'.length = d.n ∧ (l, Obj.loop (st.lrec L (d.f.getD f0) v0'.toArray D)) ∈ (E1 ++ (lE ++ E2)) ∧ (∀ t, t < d.n → DenV ρ H O w (slots.getD t (.s .junk)) (v0'.getD t undef)) ∧ (azs.length = (v0 ++ (rv ++ (Ds.map markV ++ (lv ++ v2)))).length → slots.length = d.n) ∧
          ∀ st', WfS f0 (setLp id st' (e :: ds) azs) (v0 ++ (rv ++ (Ds.map markV ++ (lv ++ v2)))) (upE l (Obj.loop (st'.lrec L (d.f.getD f0) v0'.toArray D)) (E1 ++ (lE ++ E2))) (b.atR a todo :: fs2) := by
      intro hf hset
      have hn2 : (E2.map (·.1)).Nodup := by
        rw [List.map_append, List.map_append] at hn
        exact (List.nodup_append.1 (List.nodup_append.1 hn).2.1).2.1
      obtain ⟨l, D, v0', g1, g2, g3, g4, g5, g6⟩ := findLp_ok hf h4 hn2 hdrop
      have hl2 : l ∈ E2.map (·.1) := List.mem_map_of_mem (f := Prod.fst) g3
      have hl1 : l ∉ (E1 ++ lE).map (·.1) := by
        intro hm
        rw [← List.append_assoc, List.map_append] at hn
        exact (List.nodup_append.1 hn).2.2 l hm l hl2 rfl
      rw [List.map_append, List.mem_append, not_or] at hl1
      refine ⟨l, D, v0', g1, g2, by simp [g3], g4, fun hl => g5 ?_, fun st' => ?_⟩
      · rw [List.length_drop, hl]
        simp only [List.length_append, List.length_map, hrv, hlv, h1, h2, FrD.size]
        omega
      · rw [hset, upE_append, upE_append, upE_none hl1.1, upE_none hl1.2]
        exact ⟨v0, rv, v2, Ds, E1, _, b, a, fs2, lv, lE, todo, rfl, rfl, rfl, h1, h2, h3, g6 st', h5⟩
    unfold findLp at h
    split at h
    · rename_i L' st0 hlp
      rw [hlp] at h5
      obtain ⟨l, D, rfl, rfl, rfl⟩ := h5
      split at h
      · rename_i j hj
        rw [Bool.cond_eq_ite] at h
        split at h
        · rename_i hjid
          have hjid : j = id := Nat.eq_of_beq_eq_true hjid
          subst hjid
          simp only [Option.some.injEq, Prod.mk.injEq] at h
          obtain ⟨rfl, rfl, rfl, rfl⟩ := h
          have hval : (v0 ++ (rv ++ (Ds.map markV ++ ([yieldV l] ++ v2)))).getD (e.n + oneIf e.round + e.marks) undef = yieldV l := by
            rw [show v0 ++ (rv ++ (Ds.map markV ++ ([yieldV l] ++ v2))) = (v0 ++ (rv ++ Ds.map markV)) ++ (yieldV l :: v2) from by simp]
            rw [List.getD, List.getElem?_append_right (by simp only [List.length_append, List.length_map, hrv, h1, h2]; omega)]
            rw [show e.n + oneIf e.round + e.marks - (v0 ++ (rv ++ Ds.map markV)).length = 0 from by simp only [List.length_append, List.length_map, hrv, h1, h2]; omega]
            rfl
          have hden := hd (e.n + oneIf e.round + e.marks)
          rw [hj, hval] at hden
          unfold DenV Den1 at hden
          refine ⟨l, D, v0, hden.1.symm, h1, by simp, fun t ht => ?_, fun hl => ?_, fun st' => ?_⟩
          · have := hd t
            have e1 : (azs.take e.n).getD t (.s .junk) = azs.getD t (.s .junk) := by simp [List.getD, List.getElem?_take, ht]
            have e2 : (v0 ++ (rv ++ (Ds.map markV ++ ([yieldV l] ++ v2)))).getD t undef = v0.getD t undef := by
              rw [List.getD, List.getElem?_append_left (by omega)]; rfl
            rw [e1, ← e2]; exact this
          · rw [List.length_take, hl]
            simp only [List.length_append, h1]
            omega
          · have hs : setLp j st' (e :: ds) azs = { e with lp := some (L', st') } :: ds := by
              unfold setLp
              rw [hlp]
              simp only [hj, Nat.beq_eq_true_eq, Bool.cond_eq_ite, show Nat.beq j j = true from Nat.beq_refl j, if_true]
            rw [hs]
            have hl1 : l ∉ E1.map (·.1) := by
              intro hm
              rw [List.map_append] at hn
              exact (List.nodup_append.1 hn).2.2 l hm l (by simp) rfl
            have hl2 : l ∉ E2.map (·.1) := by
              intro hm
              rw [List.map_append, List.map_append] at hn
              exact (List.nodup_append.1 (List.nodup_append.1 hn).2.1).2.2 l (by simp) l hm rfl
            rw [upE_append, upE_append, upE_none hl1, upE_none hl2, show upE l (Obj.loop (st'.lrec L' (e.f.getD f0) v0.toArray D)) [(l, Obj.loop (st0.lrec L' (e.f.getD f0) v0.toArray D))] = [(l, Obj.loop (st'.lrec L' (e.f.getD f0) v0.toArray D))] from by simp [upE]]
            exact ⟨v0, rv, v2, Ds, E1, E2, b, a, fs2, _, _, _, rfl, rfl, rfl, h1, h2, h3, h4, ⟨l, D, rfl, rfl, rfl⟩⟩
        · rename_i hjid
          refine next h (fun st' => ?_)
          rw [show setLp id st' (e :: ds) azs = _ from by unfold setLp; rw [hlp]]
          simp only [hj, Bool.cond_eq_ite, if_neg hjid]
      · rename_i hj
        refine next h (fun st' => ?_)
        rw [setLp, hlp]
        all_goals (try simp only [])
        all_goals (split <;> first | (rename_i j' hj'; exact absurd hj' (hj j')) | rfl)
    · rename_i hlp
      refine next h (fun st' => ?_)
      rw [show setLp id st' (e :: ds) azs = _ from by unfold setLp; rw [hlp]]
end
end Go.Sx

/-! Calls that are entered, and what comes back. -/
namespace Go.Sx
open Go

section
variable {ρ ρ' : Nat → Value} {H H' : AHeap} {G G' O O' O2 : Nat → Prop} {w w' : World} {P : Program} {S : SummB} {Z : Glob} {X : Ctx} {s : St} {a : Act} {K : List AObj → AV → Prop} {C : Cfg → Prop} {ops : Array Oper} {E E' : List (Nat × Obj)}

/-- Slots, one by one. -/
structure DP (ρ : Nat → Value) (H : AHeap) (O : Nat → Prop) (w : World) (T : List AV) (vs : List Value) : Prop where
  len : T.length = vs.length
  get : ∀ t, DenV ρ H O w (T.getD t (.s .junk)) (vs.getD t undef)

theorem arr_getD (x : Array Value) (t : Nat) : x.getD t undef = x.toList.getD t undef := by
  rw [Array.getD_eq_getD_getElem?, List.getD, Array.getElem?_toList]

theorem Rep.dp (h : Rep X ρ s a w) : DP ρ s.look (Hot ρ s.look X.G) w s.tmps a.tmps.toList :=
  ⟨by rw [h.size]; simp, fun t => by rw [← arr_getD]; exact h.den t⟩

theorem Rep.slots (h : Rep X ρ s a w) {T : List AV} {vs : List Value} (hd : DP ρ s.look (Hot ρ s.look X.G) w T vs) : Rep X ρ ⟨T, s.H⟩ ⟨vs.toArray, []⟩ w :=
  ⟨h.sat, by simpa using hd.len, fun t => by rw [arr_getD]; exact hd.get t, rfl, h.from_, h.frm, h.kept⟩

theorem DP.step {T : List AV} {vs : List Value} (h : DP ρ H O w T vs) (st : Step ρ H O w ρ' H' O' w') : DP ρ' H' O' w' T vs := ⟨h.len, fun t => (h.get t).step st⟩

theorem DP.nil : DP ρ H O w [] [] := ⟨rfl, fun t => by simp only [List.getD_nil]; unfold DenV; trivial⟩

theorem DP.cons {x : AV} {v : Value} {T : List AV} {vs : List Value} (hx : DenV ρ H O w x v) (h : DP ρ H O w T vs) : DP ρ H O w (x :: T) (v :: vs) :=
  ⟨by simp [h.len], fun t => by
    cases t with
    | zero => simpa using hx
    | succ t => simpa using h.get t⟩

theorem DP.append {T T' : List AV} {vs vs' : List Value} (h : DP ρ H O w T vs) (h' : DP ρ H O w T' vs') : DP ρ H O w (T ++ T') (vs ++ vs') := by
  refine ⟨by simp [h.len, h'.len], fun t => ?_⟩
  by_cases ht : t < T.length
  · have := h.get t
    simp only [List.getD] at this ⊢
    rwa [List.getElem?_append_left ht, List.getElem?_append_left (h.len ▸ ht)]
  · have := h'.get (t - T.length)
    simp only [List.getD] at this ⊢
    rwa [List.getElem?_append_right (by omega), List.getElem?_append_right (by have := h.len; omega), ← h.len]

theorem DP.drop {T : List AV} {vs : List Value} (h : DP ρ H O w T vs) (n : Nat) : DP ρ H O w (T.drop n) (vs.drop n) :=
  ⟨by simp [h.len], fun t => by have := h.get (n + t); simpa [List.getD] using this⟩

theorem DP.take {T : List AV} {vs : List Value} (h : DP ρ H O w T vs) (n : Nat) : DP ρ H O w (T.take n) (vs.take n) := by
  refine ⟨by simp [h.len], fun t => ?_⟩
  have := h.get t
  simp only [List.getD, List.getElem?_take] at this ⊢
  split
  · exact this
  · unfold DenV; trivial

theorem DP.set {T : List AV} {vs : List Value} (h : DP ρ H O w T vs) (d : Nat) {x : AV} {v : Value} (hx : DenV ρ H O w x v) : DP ρ H O w (T.set d x) (vs.set d v) := by
  refine ⟨by simp [h.len], fun t => ?_⟩
  rw [getD_set_list, getD_set_list, h.len]
  split
  · exact hx
  · exact h.get t

theorem DP.undefs (n : Nat) : DP ρ H O w (List.replicate n (.tup [])) (List.replicate n undef) := by
  induction n with
  | zero => exact DP.nil
  | succ n ih => exact DP.cons den_undef ih

theorem DP.ofL : ∀ {azs : List AV} {vs : List Value}, DenL ρ H O w azs vs → DP ρ H O w azs vs
  | [], vs, h => by rw [DenL_nil.1 h]; exact DP.nil
  | x :: azs, vs, h => by
    obtain ⟨v, rest, rfl, h1, h2⟩ := DenL_cons.1 h
    exact DP.cons h1 (DP.ofL h2)

theorem DP.split {T1 T2 : List AV} {v1 v2 : List Value} (h : DP ρ H O w (T1 ++ T2) (v1 ++ v2)) (hl : T1.length = v1.length) : DP ρ H O w T1 v1 ∧ DP ρ H O w T2 v2 := by
  have h1 := h.take T1.length
  have h2 := h.drop T1.length
  rw [List.take_left' rfl, hl, List.take_left' rfl] at h1
  rw [List.drop_left' rfl, hl, List.drop_left' rfl] at h2
  exact ⟨h1, h2⟩

theorem DP.setAll : ∀ (ps : List Tmp) {args : List AV} {us : List Value} {T : List AV} {vs : List Value}, DP ρ H O w T vs → DenL ρ H O w args us → DP ρ H O w (setAll T ps args) (setAll vs ps us)
  | [], args, us, T, vs, h, _ => h
  | p :: ps, [], us, T, vs, h, hl => by rw [DenL_nil.1 hl]; exact h
  | p :: ps, x :: args, us, T, vs, h, hl => by
    obtain ⟨u, rest, rfl, h1, h2⟩ := DenL_cons.1 hl
    exact DP.setAll ps (h.set p h1) h2

theorem setAll_arr : ∀ (ps : List Tmp) (us : List Value) (vs : List Value), (ps.toArray.zip us.toArray).foldl (fun (tmps : Array Value) (x : Tmp × Value) => tmps.setIfInBounds x.1 x.2) vs.toArray = (setAll vs ps us).toArray := by
  intro ps us vs
  rw [← Array.foldl_toList]
  simp only [Array.toList_zip]
  have : ∀ (l : List (Tmp × Value)) (vs : List Value), l.foldl (fun (tmps : Array Value) (x : Tmp × Value) => tmps.setIfInBounds x.1 x.2) vs.toArray = (l.foldl (fun t x => t.set x.1 x.2) vs).toArray := by
    intro l
    induction l with
    | nil => intro vs; rfl
    | cons x l ih => intro vs; simp only [List.foldl_cons, List.setIfInBounds_toArray]; exact ih _
  exact this _ _

/-! ### what a call calls -/
theorem call_ev {o : Oper} {ev : Operand → AV} {e : Operand → Value} {g : AV} {args : List AV} (h : callee? o ev = some (g, args)) (hd : ∀ x ∈ o.op.operands, DenV ρ H O w (ev x) (e x)) :
    ∃ (vf : Value) (us : List Value), DenV ρ H O w g vf ∧ DenL ρ H O w args us ∧
      (∀ f vs, vf = .func (.func f) #[] vs.toArray → callable P f = true → (execOp e o).run P w = .ok (.enter f (us ++ vs).toArray) w) ∧
      (∀ l, vf = yieldV l → ∀ r, w.heap[l]? = some (.loop r) → us.length = r.params.size → (execOp e o).run P w = .ok (.round l r.fn ((r.params.zip us.toArray).foldl (fun tmps (t, a) => tmps.setIfInBounds t a) r.tmps) r.assign r.body) w) := by
  unfold callee? at h
  split at h
  · rename_i c ho
    split at h
    · rename_i f hc
      simp only [Option.some.injEq, Prod.mk.injEq] at h
      obtain ⟨rfl, rfl⟩ := h
      have hf := relax_den (hd f (by simp [ho, Op.operands, Call.operands, hc]))
      have hl := DenL_map c.args.toList (ev := fun x => relax (ev x)) (e := e) (fun x hx => relax_den (hd x (by simp [ho, Op.operands, Call.operands, hc, Array.mem_toList_iff.1 hx])))
      have e1 : (c.args.toList.map e).toArray = c.args.map e := by apply Array.toList_inj.1; simp
      refine ⟨e f, c.args.toList.map e, hf, hl, fun g vs hv hcall => ?_, fun l hv r hr hs => ?_⟩
      · have e2 : (c.args.toList.map e ++ vs).toArray = c.args.map e ++ vs.toArray := by apply Array.toList_inj.1; simp
        rw [e2]
        simp [execOp, ho, resolve, hc, hv, Deferred.ofValue, invoke, callFunc_run hcall]
      · rw [e1]
        have hy := run_yield (P := P) (args := c.args.map e) hr (by rw [← hs]; simp)
        simp only [yieldV] at hv
        simp [execOp, ho, resolve, hc, hv, Deferred.ofValue, invoke, hy]
    · cases h
  · cases h

/-- What goes on from a frame on top. -/
def GoesFr (P : Program) (f : FuncId) (R : Ending → World → Prop) (top : Frame) (fs : List Frame) (w : World) : Prop :=
  ∀ cs, ∃ e w' fr, R e w' ∧ Comes P (lone top (fs ++ cs) w) (lone fr cs w') e ∧ fr.fn = f ∧ fr.leaving P w' e

theorem GoesFr.steps {f : FuncId} {R : Ending → World → Prop} {top top' : Frame} {fs fs' : List Frame} (hs : ∀ cs, Steps P (lone top (fs ++ cs) w) (lone top' (fs' ++ cs) w')) (h : GoesFr P f R top' fs' w') : GoesFr P f R top fs w := by
  intro cs
  obtain ⟨e, w2, fr, h1, h2, h3⟩ := h cs
  exact ⟨e, w2, fr, h1, Comes.of_steps (hs cs) h2, h3⟩

/-- A function is entered. -/
theorem pushFn_goes {f0 f : FuncId} {c : Cfg} {args : List AV} {us : List Value} {wait : FrD} {go : Cfg → Tree} {fs : List Frame} (h : (pushFn P c f args wait go).Holds K C) (hgo : ∀ c', (go c').Holds K C → Safe P f0 X K c')
    (hG1 : ∀ b, X.G b → G b) (hG2 : ∀ b, G b → X.G b ∨ X.w.heap.size ≤ b) (hr : Rep (X.at G E) ρ ⟨c.tmps, c.H⟩ a w) (hl : DenL ρ (St.look ⟨c.tmps, c.H⟩) (Hot ρ (St.look ⟨c.tmps, c.H⟩) G) w args us) (hn : (E.map (·.1)).Nodup)
    (hw : WfS f0 (wait :: c.stk.below) a.tmps.toList E fs) : callable P f = true ∧ GoesFr P f0 (Post X K) (Frame.enter P f us.toArray .normal) fs w := by
  unfold pushFn at h
  split at h
  · rename_i g hg
    rw [Bool.cond_eq_ite] at h
    split at h
    · rename_i hb
      simp only [Bool.and_eq_true] at hb
      obtain ⟨hcall, hlen⟩ := hb
      refine ⟨hcall, ?_⟩
      have hlen : args.length ≤ g.ntmps := Nat.le_of_ble_eq_true hlen
      have hul : us.length = args.length := (DP.ofL hl).len.symm
      have hb : g.body.isSome = true := by
        unfold callable at hcall
        rw [hg] at hcall
        simp only [Bool.and_eq_true] at hcall
        exact hcall.1
      obtain ⟨cd, hcd⟩ := Option.isSome_iff_exists.1 hb
      have hr' := hr.slots (((DP.ofL hl).append (DP.undefs (g.ntmps - args.length))).append hr.dp)
      have key := hgo _ h G E ρ _ w hG1 hG2 hr' { (default : Frame) with fn := f, kind := .normal, roundOf := none } { tmps := (us ++ List.replicate (g.ntmps - args.length) undef).toArray, defers := [] } fs
        ⟨hn, us ++ List.replicate (g.ntmps - args.length) undef, [], a.tmps.toList, [], [], E, by simp, rfl, rfl, ⟨⟨none, rfl, rfl, rfl⟩, rfl, rfl⟩, hw⟩
      have henter : Frame.enter P f us.toArray .normal = Frame.atR { (default : Frame) with fn := f, kind := .normal, roundOf := none } { tmps := (us ++ List.replicate (g.ntmps - args.length) undef).toArray, defers := [] } [.code (g.body.getD .skip)] := by
        simp [Frame.enter, Frame.atR, hg, hcd, hul]
      rw [henter]
      exact key
    · exact h.elim
  · exact h.elim

/-- A round is entered. -/
theorem pushRd_goes {f0 : FuncId} {c : Cfg} {id : Nat} {args : List AV} {us : List Value} {wait : FrD} {go : Cfg → Tree} {fs : List Frame} {E0 E1 : List (Nat × Obj)} {vs1 : List Value} {fs1 : List Frame} {v : Value} (h : (pushRd c id args wait go).Holds K C) (hgo : ∀ c', (go c').Holds K C → Safe P f0 X K c')
    (hG1 : ∀ b, X.G b → G b) (hG2 : ∀ b, G b → X.G b ∨ X.w.heap.size ≤ b) (hr : Rep (X.at G E) ρ ⟨c.tmps, c.H⟩ a w) (hl : DenL ρ (St.look ⟨c.tmps, c.H⟩) (Hot ρ (St.look ⟨c.tmps, c.H⟩) G) w args us) (hn : (E.map (·.1)).Nodup)
    (hw : WfS f0 (wait :: c.stk.below) a.tmps.toList E fs) (hE : E = E0 ++ E1) (hvs : a.tmps.toList.drop (c.n + c.stk.extra) = vs1) (hb : WfS f0 c.stk.below vs1 E1 fs1) (htag : DenV ρ (St.look ⟨c.tmps, c.H⟩) (Hot ρ (St.look ⟨c.tmps, c.H⟩) G) w (.tag id) v) :
    ∃ l r, v = yieldV l ∧ w.heap[l]? = some (.loop r) ∧ us.length = r.params.size ∧
      GoesFr P f0 (Post X K) (Frame.round l r.fn ((r.params.zip us.toArray).foldl (fun tmps (t, a) => tmps.setIfInBounds t a) r.tmps) r.assign r.body .normal) fs w := by
  unfold pushRd at h
  split at h
  · rename_i d L st slots hf
    rw [Bool.cond_eq_ite] at h
    split at h
    · rename_i hb1
      simp only [Bool.and_eq_true] at hb1
      have hlen : args.length = L.ps.length := Nat.eq_of_beq_eq_true hb1.1
      have hn1 : (E1.map (·.1)).Nodup := by
        rw [hE, List.map_append] at hn
        exact (List.nodup_append.1 hn).2.1
      have hdp := hr.dp.drop (c.n + c.stk.extra)
      rw [hvs] at hdp
      obtain ⟨l, D, v0, g1, g2, g3, g4, g5, g6⟩ := findLp_ok hf hb hn1 hdp.get
      have hden := htag
      unfold DenV Den1 at hden
      have hlen0 : slots.length = d.n := g5 hdp.len
      have hmem : (l, Obj.loop (st.lrec L (d.f.getD f0) v0.toArray D)) ∈ E := by rw [hE]; exact List.mem_append_right _ g3
      have hheap := (hr.kept _ hmem).2.2
      have hul : us.length = args.length := (DP.ofL hl).len.symm
      refine ⟨l, st.lrec L (d.f.getD f0) v0.toArray D, hden.1.trans g1, hheap, by rw [hul, hlen]; simp [LpSt.lrec], ?_⟩
      have hsl : DP ρ (St.look ⟨c.tmps, c.H⟩) (Hot ρ (St.look ⟨c.tmps, c.H⟩) G) w slots v0 := ⟨by rw [hlen0, g2], fun t => by
        by_cases ht : t < d.n
        · exact g4 t ht
        · have e1 : slots.getD t (.s .junk) = .s .junk := by rw [List.getD, List.getElem?_eq_none (by omega)]; rfl
          rw [e1]; unfold DenV; trivial⟩
      have hr' := hr.slots ((hsl.setAll L.ps hl).append (DP.cons htag hr.dp))
      have hv : v = yieldV l := hden.1.trans g1
      have key := hgo _ h G E ρ _ w hG1 hG2 hr' { (default : Frame) with fn := d.f.getD f0, kind := .normal, roundOf := some l } { tmps := (setAll v0 L.ps us).toArray, defers := [] } fs
        ⟨hn, setAll v0 L.ps us, [v], a.tmps.toList, [], [], E, by simp, rfl, rfl, ⟨⟨some l, rfl, l, by rw [hv], rfl⟩, rfl, rfl⟩, hw⟩
      have hround : Frame.round l (st.lrec L (d.f.getD f0) v0.toArray D).fn (((st.lrec L (d.f.getD f0) v0.toArray D).params.zip us.toArray).foldl (fun tmps (t, a) => tmps.setIfInBounds t a) (st.lrec L (d.f.getD f0) v0.toArray D).tmps) (st.lrec L (d.f.getD f0) v0.toArray D).assign (st.lrec L (d.f.getD f0) v0.toArray D).body .normal
          = Frame.atR { (default : Frame) with fn := d.f.getD f0, kind := .normal, roundOf := some l } { tmps := (setAll v0 L.ps us).toArray, defers := [] } [.code L.asg, .beginRound, .code L.body] := by
        have := setAll_arr L.ps us v0
        simp only [LpSt.lrec, Frame.round, Frame.atR]
        rw [← this]
      rw [hround]
      exact key
    · exact h.elim
  · exact h.elim
end
end Go.Sx

/-! What a function hands back. -/
namespace Go.Sx
open Go

section
variable {ρ ρ' : Nat → Value} {H H' : AHeap} {G O O' : Nat → Prop} {w w' : World} {P : Program} {S : SummB} {Z : Glob} {X : Ctx} {s : St} {a : Act} {K : List AObj → AV → Prop} {C : Cfg → Prop}

theorem load_asAddr {t : TypeId} {va v : Value} {w' : World} (h : (Instr.loadAt t va).run P w = .ok v w') : (do loadVar t (← asAddr va) : Sem Value).run P w = .ok v w' := by
  cases va with
  | pointer o =>
    cases o with
    | none => simp [Instr.loadAt, Instr.sureAddr] at h
    | some x => simpa [Instr.loadAt, Instr.sureAddr, asAddr] using h
  | _ => simp [Instr.loadAt, Instr.sureAddr] at h

theorem resultOf_ok (h : Rep X ρ s a w) : ∀ (rs : List ResultVar) {vs : List AV}, resultOf P s rs = some vs →
    ∃ us : List Value, (rs.mapM (m := Sem) fun | .tmp t => pure (a.tmps.getD t undef) | .cell x t => do loadVar t (← asAddr (a.tmps.getD x undef))).run P w = .ok us w ∧ DenL ρ s.look (Hot ρ s.look X.G) w vs us
  | [], vs, hv => by
    simp only [resultOf, Option.some.injEq] at hv
    subst hv
    exact ⟨[], by simp, DenL_nil.2 rfl⟩
  | .tmp t :: rs, vs, hv => by
    simp only [resultOf, Option.map_eq_some_iff] at hv
    obtain ⟨vs', h1, rfl⟩ := hv
    obtain ⟨us, h2, h3⟩ := resultOf_ok h rs h1
    refine ⟨a.tmps.getD t undef :: us, ?_, DenL_cons.2 ⟨_, _, rfl, h.den t, h3⟩⟩
    simp only [List.mapM_cons, Sem.run_bind, Sem.run_pure, Result.andThen_ok, h2]
  | .cell t T :: rs, vs, hv => by
    simp only [resultOf] at hv
    split at hv
    · rename_i r vs' hr hrs
      split at hv
      · rename_i e1 e2 e3
        simp only [Option.some.injEq] at hv
        subst hv
        obtain ⟨us, h2, h3⟩ := resultOf_ok h rs hrs
        obtain ⟨_, _, v, h4, h5⟩ := loadR_ok hr (by rw [e1]; trivial) h.sat (h.den t)
        refine ⟨v :: us, ?_, DenL_cons.2 ⟨_, _, rfl, h5 0, h3⟩⟩
        have h6 := load_asAddr h4
        simp only [List.mapM_cons]
        rw [Sem.run_bind, h6]
        simp only [Result.andThen_ok, Sem.run_bind, h2, Sem.run_pure]
      · cases hv
    · cases hv

theorem results_ok {fn : Func} (h : Rep X ρ s a w) {vs : List AV} (hv : resultOf P s fn.results.toList = some vs) : ∃ v, (results fn a.tmps).run P w = .ok v w ∧ DenV ρ s.look (Hot ρ s.look X.G) w (oneOf vs) v := by
  obtain ⟨us, h1, h2⟩ := resultOf_ok h _ hv
  have key : (results fn a.tmps).run P w = .ok (if h : us.toArray.size = 1 then us.toArray[0] else .tuple us.toArray) w := by
    unfold results
    rw [Array.mapM_eq_mapM_toList]
    simp only [Sem.run_bind, Sem.run_map]
    erw [h1]
    rfl
  refine ⟨_, key, ?_⟩
  unfold oneOf
  split
  · rename_i x
    obtain ⟨v, rest, rfl, h3, h4⟩ := DenL_cons.1 h2
    obtain rfl := DenL_nil.1 h4
    simpa using h3
  · rename_i hne
    have : ¬ us.toArray.size = 1 := by
      intro h0
      cases us with
      | nil => simp at h0
      | cons u us =>
        cases us with
        | nil =>
          cases vs with
          | nil => have := DenL_nil.1 h2; cases this
          | cons y ys =>
            obtain ⟨v, rest, e, h3, h4⟩ := DenL_cons.1 h2
            cases e
            cases ys with
            | nil => exact hne y rfl
            | cons z zs =>
              obtain ⟨v', rest', e', _⟩ := DenL_cons.1 h4
              cases e'
        | cons _ _ => simp at h0
    rw [dif_neg this]
    unfold DenV
    exact ⟨us, rfl, h2⟩

end
end Go.Sx

/-! Calls that end, rounds that end, ranges that begin. -/
namespace Go.Sx
open Go

section
variable {ρ ρ' : Nat → Value} {H H' : AHeap} {G G' O O' O2 : Nat → Prop} {w w' : World} {P : Program} {S : SummB} {Z : Glob} {X : Ctx} {s : St} {a : Act} {K : List AObj → AV → Prop} {C : Cfg → Prop} {ops : Array Oper} {E E' : List (Nat × Obj)}

theorem setSlot_dp {T : List AV} {vs : List Value} (h : DP ρ H O w T vs) (dst : Option Tmp) {x : AV} {v : Value} (hx : DenV ρ H O w x v) : DP ρ H O w (setSlot T dst x) (match dst with | some d => vs.set d v | none => vs) := by
  cases dst with
  | none => exact h
  | some d => exact h.set d hx

/-- A call comes back to the frame that waited. -/
theorem resume_goes {f0 : FuncId} {c : Cfg} {v : AV} {u : Value} {below : List FrD} {go : Cfg → Tree} {vs1 : List Value} {fs : List Frame} (h : (resume c v below go).Holds K C) (hgo : ∀ c', (go c').Holds K C → Safe P f0 X K c')
    (hG1 : ∀ b, X.G b → G b) (hG2 : ∀ b, G b → X.G b ∨ X.w.heap.size ≤ b) (hr : Rep (X.at G E) ρ ⟨c.tmps, c.H⟩ a w) (hvs : a.tmps.toList.drop (c.n + c.stk.extra) = vs1) (hb : WfS f0 below vs1 E fs) (hn : (E.map (·.1)).Nodup)
    (hv : DenV ρ (St.look ⟨c.tmps, c.H⟩) (Hot ρ (St.look ⟨c.tmps, c.H⟩) G) w v u) : ∃ fr fs1, fs = fr :: fs1 ∧ GoesFr P f0 (Post X K) (fr.finish u) fs1 w := by
  unfold resume at h
  split at h
  · rename_i d ds
    simp only [] at h
    split at h
    · rename_i ops i rest td hlp htd
      simp only [Bool.cond_eq_ite] at h
      split at h
      · rename_i hdst
        obtain ⟨v0, rv, v2, Ds, E1, E2, b, t, fs2, lv, lE, todo, e1, e2, e3, h1, h2, h3, h4, h5⟩ := hb
        rw [hlp] at h5
        obtain ⟨rfl, rfl, rfl⟩ := h5
        rw [htd] at e3
        refine ⟨_, _, e3, ?_⟩
        rw [Frame.finish_atR]
        have hdp := setSlot_dp (hr.dp.drop (c.n + c.stk.extra)) ((ops[i]?).bind (·.dst)) hv
        have hr' := hr.slots hdp
        have hdn : ∀ d', (ops[i]?).bind (·.dst) = some d' → d' < v0.length := fun d' hd => by
          rw [hd] at hdst
          rw [h1]; simpa [Nat.blt, Nat.lt_iff_add_one_le] using hdst
        refine hgo _ h G E ρ _ w hG1 hG2 hr' b (t.put ((ops[i]?).bind (·.dst)) u) fs2 ⟨hn, match (ops[i]?).bind (·.dst) with | some d' => v0.set d' u | none => v0, rv, v2, Ds, E1, E2, ?_, by rw [e2]; rfl, h2, ⟨h3.fr, ?_, h3.ghost⟩, h4⟩
        · rw [hvs, e1]
          cases hd : (ops[i]?).bind (·.dst) with
          | none => simp
          | some d' =>
            simp only [List.toList_toArray]
            rw [List.set_append_left _ _ (hdn d' hd)]; simp
        · rw [h3.act]
          cases hd : (ops[i]?).bind (·.dst) with
          | none => rfl
          | some d' => simp [Act.put]
      · exact h.elim
    · exact h.elim
  · exact h.elim

/-- How many slots the frame on top has. -/
theorem top_len {f0 : FuncId} {c : Cfg} {vs : List Value} {v0 rv v2 : List Value} {Ds : List Nat} {E1 E2 : List (Nat × Obj)} {b : Frame} {t : Act} {fs : List Frame} (hl : c.tmps.length = vs.length) (e : vs = v0 ++ (rv ++ (Ds.map markV ++ v2))) (hd : Ds.length = c.stk.marks)
    (h3 : WfTop f0 c.stk.round v0 rv Ds E1 b t) {f1 : FuncId} (h4 : WfS f1 c.stk.below v2 E2 fs) : v0.length = c.n ∧ rv.length = oneIf c.stk.round ∧ vs.drop (c.n + c.stk.extra) = v2 := by
  have hrv : rv.length = oneIf c.stk.round := by
    obtain ⟨r, _, h6⟩ := h3.fr
    cases hd : c.stk.round <;> rw [hd] at h6 <;> simp only [] at h6
    · rw [h6.1]; rfl
    · obtain ⟨l, rfl, _⟩ := h6; rfl
  have h0 : v0.length = c.n := by
    unfold Cfg.n
    rw [hl, e]
    simp only [List.length_append, List.length_map, hrv, hd, h4.len, Stk.extra]
    omega
  refine ⟨h0, hrv, ?_⟩
  rw [e, show v0 ++ (rv ++ (Ds.map markV ++ v2)) = (v0 ++ (rv ++ Ds.map markV)) ++ v2 from by simp]
  exact List.drop_left' (by simp only [List.length_append, List.length_map, hrv, hd, h0, Stk.extra])

/-- A function that is on top ends. -/
theorem endFn_goes {f0 : FuncId} {c : Cfg} {fn g : Func} {vs : List AV} {go : Cfg → Tree} {b : Frame} {t : Act} {fs : List Frame} {todo : List Item} (hf : P.funcs[f0]? = some fn) (hg : c.stk.fn P fn = some g) (hround : c.stk.round = false)
    (hres : resultOf P ⟨c.tmps.take c.n, c.H⟩ g.results.toList = some vs) (h : (endFn c (oneOf vs) go).Holds K C) (hgo : ∀ c', (go c').Holds K C → Safe P f0 X K c')
    (hG1 : ∀ b, X.G b → G b) (hG2 : ∀ b, G b → X.G b ∨ X.w.heap.size ≤ b) (hr : Rep (X.at G E) ρ ⟨c.tmps, c.H⟩ a w) (hw : Wf f0 c.stk a.tmps.toList E b t fs) :
    GoesFr P f0 (Post X K) { b.atR t todo with mode := .returning } fs w := by
  obtain ⟨hn, v0, rv, v2, Ds, E1, E2, e1, rfl, hd, h3, h4⟩ := hw
  obtain ⟨l0, l1, l2⟩ := top_len hr.dp.len e1 hd h3 h4
  have hgE := h3.ghost
  subst hgE
  have hb := h3.fr
  rw [hround] at hb
  obtain ⟨r, rfl, hrv, hrr⟩ := hb
  subst hrv hrr
  have hact := h3.act
  subst hact
  -- the marks
  obtain ⟨w', hr', hst⟩ := take_marks (P := P) Ds (fr := { Frame.atR { (default : Frame) with fn := c.stk.f.getD f0, kind := .normal, roundOf := none } { tmps := v0.toArray, defers := Ds.map markD } todo with mode := .returning }) hn hr rfl rfl
  have hn2 : (E2.map (·.1)).Nodup := by
    rw [List.map_append] at hn
    exact (List.nodup_append.1 hn).2.1
  -- the results
  have htop : DP ρ (St.look ⟨c.tmps, c.H⟩) (Hot ρ (St.look ⟨c.tmps, c.H⟩) G) w' (c.tmps.take c.n) v0 := by
    have := hr'.dp.take c.n
    rw [e1, List.take_left' l0] at this
    exact this
  have hrt := hr'.slots htop
  obtain ⟨u, hrun, hden⟩ := results_ok (fn := g) hrt hres
  have hfn : P.funcs[c.stk.f.getD f0]? = some g := by
    unfold Stk.fn at hg
    split at hg
    · rename_i h0; rw [h0]; cases hg; exact hf
    · rename_i g' h0; rw [h0]; exact hg
  let fr : Frame := { Frame.atR { (default : Frame) with fn := c.stk.f.getD f0, kind := .normal, roundOf := none } { tmps := v0.toArray, defers := Ds.map markD } todo with mode := .returning, defers := [] }
  have hleave : fr.leaving P w' (.returned u) := ⟨rfl, rfl, rfl, g, hfn, hrun⟩
  refine GoesFr.steps (fun cs => hst (fs ++ cs)) ?_
  show GoesFr P f0 (Post X K) fr fs w'
  have hvs1 : a.tmps.toList.drop (c.n + c.stk.extra) = v2 := l2
  unfold endFn at h
  split at h
  · rename_i hbel
    rw [hbel] at h4
    obtain ⟨_, _, rfl⟩ := h4
    intro cs
    rw [Bool.cond_eq_ite] at h
    split at h
    · rename_i hk
      refine ⟨.returned u, w', fr, Post.of_rep hG1 hG2 hr' hden h, Steps.refl _ _, ?_, hleave⟩
      show c.stk.f.getD f0 = f0
      rw [Option.isNone_iff_eq_none.1 hk]; rfl
    · exact h.elim
  · rename_i d ds hbel
    split at h
    · rename_i hlp
      obtain ⟨fr1, fs1, rfl, key⟩ := resume_goes h hgo hG1 hG2 hr' hvs1 h4 hn2 hden
      exact GoesFr.steps (fun cs => .one (step_leave_returned hleave)) key
    · exact h.elim
    · rename_i L st hst' hlp
      rw [hbel] at h4
      obtain ⟨v0', rv', v2', Ds', E1', E2', b', t', fs2, lv, lE, todo', e1', e2', e3', h1', h2', h3', h4', h5'⟩ := h4
      rw [hlp] at h5'
      obtain ⟨l, D, rfl, rfl, rfl⟩ := h5'
      subst e3' e2'
      have hmem : (l, Obj.loop (st.lrec L (d.f.getD f0) v0'.toArray D)) ∈ (E1' ++ ([(l, Obj.loop (st.lrec L (d.f.getD f0) v0'.toArray D))] ++ E2')) := by simp
      have hheap := (hr'.kept _ hmem).2.2
      have hnb : (st.lrec L (d.f.getD f0) v0'.toArray D).state ≠ .busy := by
        unfold LpSt.lrec
        cases st with
        | busy => exact absurd rfl (hst' )
        | ready => simp
        | done c => simp
      have hend := run_endLoop (P := P) hheap hnb
      have hl1 : l ∉ E1'.map (·.1) := by
        intro hm
        rw [List.map_append] at hn2
        exact (List.nodup_append.1 hn2).2.2 l hm l (by simp) rfl
      have hl2 : l ∉ E2'.map (·.1) := by
        intro hm
        rw [List.map_append, List.map_append] at hn2
        exact (List.nodup_append.1 (List.nodup_append.1 hn2).2.1).2.2 l (by simp) l hm rfl
      have hr2 : Rep (X.at G (E1' ++ E2')) ρ ⟨c.tmps, c.H⟩ a (w'.putObj l (.loop { st.lrec L (d.f.getD f0) v0'.toArray D with state := .exhausted })) :=
        hr'.poke hmem (fun y hy => .inl (by
          rcases List.mem_append.1 hy with h6 | h6
          · exact ⟨by simp [h6], fun e => hl1 (e ▸ List.mem_map_of_mem (f := Prod.fst) h6)⟩
          · exact ⟨by simp [h6], fun e => hl2 (e ▸ List.mem_map_of_mem (f := Prod.fst) h6)⟩))
      have hn3 : ((E1' ++ E2').map (·.1)).Nodup := by
        rw [List.map_append, List.map_append] at hn2
        rw [List.map_append]
        obtain ⟨n1, n2, n3⟩ := List.nodup_append.1 hn2
        exact List.nodup_append.2 ⟨n1, (List.nodup_append.1 n2).2.1, fun x hx y hy => n3 x hx y (List.mem_append_right _ hy)⟩
      -- the slots, without the loop's
      have hdp : DP ρ (St.look ⟨c.tmps, c.H⟩) (Hot ρ (St.look ⟨c.tmps, c.H⟩) G) (w'.putObj l (.loop { st.lrec L (d.f.getD f0) v0'.toArray D with state := .exhausted }))
          ((c.tmps.drop (c.n + c.stk.extra)).take (d.n + oneIf d.round + d.marks) ++ (c.tmps.drop (c.n + c.stk.extra)).drop (d.n + oneIf d.round + d.marks + 1)) (v0' ++ (rv' ++ (Ds'.map markV ++ v2'))) := by
        have hrv' : rv'.length = oneIf d.round := by
          obtain ⟨r, _, h6⟩ := h3'.fr
          cases hd : d.round <;> rw [hd] at h6 <;> simp only [] at h6
          · rw [h6.1]; rfl
          · obtain ⟨l, rfl, _⟩ := h6; rfl
        have h6 := hr2.dp.drop (c.n + c.stk.extra)
        rw [hvs1, e1'] at h6
        have h7 := (h6.take (d.n + oneIf d.round + d.marks)).append (h6.drop (d.n + oneIf d.round + d.marks + 1))
        rw [show v0' ++ (rv' ++ (Ds'.map markV ++ ([yieldV l] ++ v2'))) = (v0' ++ (rv' ++ Ds'.map markV)) ++ ([yieldV l] ++ v2') from by simp] at h7
        rw [List.take_left' (by simp only [List.length_append, List.length_map, hrv', h1', h2']; omega), show (v0' ++ (rv' ++ Ds'.map markV)) ++ ([yieldV l] ++ v2') = ((v0' ++ (rv' ++ Ds'.map markV)) ++ [yieldV l]) ++ v2' from by simp,
          List.drop_left' (by simp only [List.length_append, List.length_map, hrv', h1', h2', List.length_cons, List.length_nil]; omega)] at h7
        rw [List.append_assoc, List.append_assoc] at h7
        exact h7
      have hr3 := hr2.slots hdp
      have key := hgo _ h G (E1' ++ E2') ρ _ _ hG1 hG2 hr3 b' t' fs2 ⟨hn3, v0', rv', v2', Ds', E1', E2', by simp, rfl, h2', h3', h4'⟩
      refine GoesFr.steps (fun cs => .head (step_leave_returned hleave) ?_) key
      rw [finish_atR_inRangeFunc]
      refine .one ?_
      have := stepR_endRangeFunc (P := P) (b := b') (a := t') (k := d.todo) (cs := fs2 ++ cs) hend
      rw [List.append_eq] 
      rw [this]
      cases st <;> rfl

/-- A round ends. -/
theorem endRd_goes {f0 : FuncId} {c : Cfg} {jump : Option Code} {go : Cfg → Tree} {b : Frame} {t : Act} {fs : List Frame} {todo : List Item} (hround : c.stk.round = true)
    (h : (endRd c jump go).Holds K C) (hgo : ∀ c', (go c').Holds K C → Safe P f0 X K c')
    (hG1 : ∀ b, X.G b → G b) (hG2 : ∀ b, G b → X.G b ∨ X.w.heap.size ≤ b) (hr : Rep (X.at G E) ρ ⟨c.tmps, c.H⟩ a w) (hw : Wf f0 c.stk a.tmps.toList E b t fs)
    (hstep : ∀ (l : Nat) (w' : World) (c0 : Frame) (cs : List Frame), b.roundOf = some l → b.kind = .normal → (Instr.endRound l jump).run P w = .ok (.bool jump.isNone) w' → step P (lone (b.atR t todo) (c0 :: cs) w) = .next (lone (c0.finish (.bool jump.isNone)) cs w')) :
    GoesFr P f0 (Post X K) (b.atR t todo) fs w := by
  obtain ⟨hn, v0, rv, v2, Ds, E1, E2, e1, rfl, hd, h3, h4⟩ := hw
  obtain ⟨l0, l1, l2⟩ := top_len hr.dp.len e1 hd h3 h4
  have hb := h3.fr
  rw [hround] at hb
  obtain ⟨r, rfl, l, hrv, hrr⟩ := hb
  subst hrv hrr
  unfold endRd at h
  split at h
  · rename_i id hid
    rw [Bool.cond_eq_ite] at h
    split at h
    · rename_i hm
      have hD0 : Ds = [] := by
        have := Nat.eq_of_beq_eq_true hm
        exact List.eq_nil_of_length_eq_zero (hd.trans this)
      subst hD0
      have hgE : E1 = [] := h3.ghost
      subst hgE
      split at h
      · rename_i y hf
        obtain ⟨d, L, st, slots⟩ := y
        have hdp := hr.dp.drop (c.n + c.stk.extra)
        rw [l2] at hdp
        have hn2 : (E2.map (·.1)).Nodup := by simpa using hn
        obtain ⟨l', D, v0', g1, g2, g3, g4, g5, g6⟩ := findLp_ok hf h4 hn2 hdp.get
        have hval : a.tmps.toList.getD c.n undef = yieldV l := by
          rw [e1, List.getD, List.getElem?_append_right (by omega), show c.n - v0.length = 0 from by omega]
          rfl
        have hden := hr.dp.get c.n
        rw [hid, hval] at hden
        unfold DenV Den1 at hden
        have hll : l' = l := yieldV_inj (g1.symm.trans hden.1.symm)
        subst hll
        have hheap := (hr.kept _ (show _ ∈ ([] ++ E2) from g3)).2.2
        have hend := run_endRound (P := P) jump hheap
        have hrec : ({ st.lrec L (d.f.getD f0) v0'.toArray D with state := if jump.isNone then .ready else .done, pending := jump } : Loop) = (match jump with | none => LpSt.ready | some j => LpSt.done j).lrec L (d.f.getD f0) v0'.toArray D := by
          cases jump <;> rfl
        rw [hrec] at hend
        have hr2 : Rep (X.at G (upE l' (Obj.loop ((match jump with | none => LpSt.ready | some j => LpSt.done j).lrec L (d.f.getD f0) v0'.toArray D)) E2)) ρ ⟨c.tmps, c.H⟩ a (w.putObj l' (Obj.loop ((match jump with | none => LpSt.ready | some j => LpSt.done j).lrec L (d.f.getD f0) v0'.toArray D))) :=
          hr.poke (show (l', Obj.loop (st.lrec L (d.f.getD f0) v0'.toArray D)) ∈ ([] ++ E2) from g3) (fun y hy => by
            rcases upE_mem y hy with h6 | h6
            · exact .inl h6
            · exact .inr h6)
        obtain ⟨fr1, fs1, rfl, key⟩ := resume_goes (u := .bool jump.isNone) h hgo hG1 hG2 hr2 l2 (g6 _) (by rw [upE_keys]; exact hn2) (DenV_s (.blit _))
        exact GoesFr.steps (fun cs => .one (hstep l' _ fr1 (fs1 ++ cs) rfl rfl hend)) key
      · exact h.elim
    · exact h.elim
  · exact h.elim

/-- A range over a function begins. -/
theorem pushLp_goes {f0 f : FuncId} {c : Cfg} {caps : List AV} {cvs : List Value} {L : Lp} {td : List Item} {go : Cfg → Tree} {b : Frame} {t : Act} {fs : List Frame} {g : Operand} {asg body : Code} {ps : Array Tmp} (hL : L = ⟨ps.toList, asg, body⟩)
    (h : (pushLp P c f caps L td go).Holds K C) (hgo : ∀ c', (go c').Holds K C → Safe P f0 X K c')
    (hG1 : ∀ b, X.G b → G b) (hG2 : ∀ b, G b → X.G b ∨ X.w.heap.size ≤ b) (hr : Rep (X.at G E) ρ ⟨c.tmps, c.H⟩ a w) (hw : Wf f0 c.stk a.tmps.toList E b t fs)
    (hg : t.eval g = .func (.func f) #[] cvs.toArray) (hl : DenL ρ (St.look ⟨c.tmps, c.H⟩) (Hot ρ (St.look ⟨c.tmps, c.H⟩) G) w caps cvs) :
    GoesFr P f0 (Post X K) (b.atR t (.code (.rangeFunc g ps asg body) :: td)) fs w := by
  unfold pushLp at h
  rw [Bool.cond_eq_ite] at h
  split at h
  · exact h.elim
  rename_i hround
  have hround : c.stk.round = false := by simpa using hround
  obtain ⟨hn, v0, rv, v2, Ds, E1, E2, e1, rfl, hd, h3, h4⟩ := hw
  obtain ⟨l0, l1, l2⟩ := top_len hr.dp.len e1 hd h3 h4
  have hb := h3.fr
  rw [hround] at hb
  obtain ⟨r, rfl, hrv, hrr⟩ := hb
  subst hrv hrr
  have hgE := h3.ghost
  subst hgE
  have hact := h3.act
  subst hact
  -- the block of the rounds' deferred calls, and the record
  let Dn := w.heap.size
  let ln := w.heap.size + 1
  let rec0 : Loop := LpSt.ready.lrec L (c.stk.f.getD f0) v0.toArray Dn
  obtain ⟨r1, s1⟩ := hr.grow (.deferred (some [])) (markV Dn)
  obtain ⟨r2, s2⟩ := r1.grow (.loop rec0) (yieldV ln)
  have hsz : (w.alloc (.deferred (some []))).heap.size = ln := alloc_size
  rw [hsz] at r2 s2
  have hold : ∀ x ∈ (Ds.map (fun D => (D, Obj.deferred (some []))) ++ E2).map (·.1), x < Dn := fun x hx => by
    obtain ⟨y, hy, rfl⟩ := List.mem_map.1 hx
    exact (Array.getElem?_eq_some_iff.1 (hr.kept y hy).2.2).1
  -- as the frames have them
  have r3 := r2.sub (E' := (Dn :: Ds).map (fun D => (D, Obj.deferred (some []))) ++ ([(ln, Obj.loop rec0)] ++ E2)) (fun y hy => by
    simp only [List.map_cons, List.cons_append, List.mem_cons, List.mem_append, List.nil_append] at hy ⊢
    rcases hy with rfl | hy | rfl | hy
    · exact .inr (.inl rfl)
    · exact .inr (.inr (.inl hy))
    · exact .inl rfl
    · exact .inr (.inr (.inr hy)))
  have hn3 : (((Dn :: Ds).map (fun D => (D, Obj.deferred (some []))) ++ ([(ln, Obj.loop rec0)] ++ E2)).map (·.1)).Nodup := by
    rw [List.map_append] at hn
    obtain ⟨n1, n2, n3⟩ := List.nodup_append.1 hn
    rw [List.map_append, List.map_append]
    refine List.nodup_append.2 ⟨?_, ?_, ?_⟩
    · rw [List.map_cons, List.map_cons, List.nodup_cons]
      exact ⟨fun hm => absurd (hold Dn (by rw [List.map_append]; exact List.mem_append_left _ hm)) (Nat.lt_irrefl _), n1⟩
    · rw [List.map_cons, List.map_nil, List.singleton_append, List.nodup_cons]
      exact ⟨fun hm => absurd (hold ln (by rw [List.map_append]; exact List.mem_append_right _ hm)) (by omega), n2⟩
    · intro x hx y hy hxy
      subst hxy
      simp only [List.map_cons, List.map_nil, List.mem_cons, List.mem_append, List.not_mem_nil, or_false] at hx hy
      rcases hx with rfl | hx
      · rcases hy with hy | hy
        · omega
        · exact absurd (hold Dn (by rw [List.map_append]; exact List.mem_append_right _ hy)) (Nat.lt_irrefl _)
      · rcases hy with rfl | hy
        · exact absurd (hold ln (by rw [List.map_append]; exact List.mem_append_left _ hx)) (by omega)
        · exact n3 x hx x hy rfl
  -- the slots
  let L0 := c.H ++ [AObj.dead] ++ [AObj.dead]
  let G2 : Nat → Prop := fun b => (G b ∨ b = w.heap.size) ∨ b = ln
  let ρ2 := setR (setR ρ c.H.length (markV Dn)) (c.H ++ [AObj.dead]).length (yieldV ln)
  have hlen1 : (c.H ++ [AObj.dead]).length = c.H.length + 1 := by simp
  have hρ1 : ρ2 (c.H.length + 1) = yieldV ln := by simp [ρ2, setR]
  have hρ0 : ρ2 c.H.length = markV Dn := by simp [ρ2, setR]
  have look0 : (St.look ⟨c.tmps, L0⟩) c.H.length = some .dead := by simp [St.look, L0]
  have look1 : (St.look ⟨c.tmps, L0⟩) (c.H.length + 1) = some .dead := by simp [St.look, L0]
  have d3 := r3.dp
  have tagD : DenV ρ2 (St.look ⟨c.tmps, L0⟩) (Hot ρ2 (St.look ⟨c.tmps, L0⟩) G2) ((w.alloc (.deferred (some []))).alloc (.loop rec0)) (.tag c.H.length) (markV Dn) := by
    unfold DenV Den1; exact ⟨hρ0.symm, rfl, by rw [look0]; rfl⟩
  have tagL : DenV ρ2 (St.look ⟨c.tmps, L0⟩) (Hot ρ2 (St.look ⟨c.tmps, L0⟩) G2) ((w.alloc (.deferred (some []))).alloc (.loop rec0)) (.tag (c.H.length + 1)) (yieldV ln) := by
    unfold DenV Den1; exact ⟨hρ1.symm, rfl, by rw [look1]; rfl⟩
  have dnew : DP ρ2 (St.look ⟨c.tmps, L0⟩) (Hot ρ2 (St.look ⟨c.tmps, L0⟩) G2) ((w.alloc (.deferred (some []))).alloc (.loop rec0))
      (c.tmps.take c.n ++ .tag c.H.length :: ((c.tmps.drop c.n).take c.stk.marks ++ .tag (c.H.length + 1) :: c.tmps.drop (c.n + c.stk.marks))) (v0 ++ ([] ++ ((Dn :: Ds).map markV ++ ([yieldV ln] ++ v2)))) := by
    have e2 : a.tmps.toList = v0 ++ (Ds.map markV ++ v2) := by simpa using e1
    have a1 := d3.take c.n
    have a2 := (d3.drop c.n).take c.stk.marks
    have a3 := d3.drop (c.n + c.stk.marks)
    rw [e2, List.take_left' l0] at a1
    rw [e2, List.drop_left' l0, List.take_left' (by rw [List.length_map, hd])] at a2
    rw [e2, show v0 ++ (Ds.map markV ++ v2) = (v0 ++ Ds.map markV) ++ v2 from by simp, List.drop_left' (by rw [List.length_append, List.length_map, hd, l0])] at a3
    have := a1.append (DP.cons tagD (a2.append (DP.cons tagL a3)))
    exact this
  have r4 := r3.slots dnew
  -- the callee's arguments
  have st12 : Step ρ (St.look ⟨c.tmps, c.H⟩) (Hot ρ (St.look ⟨c.tmps, c.H⟩) G) w ρ2 (St.look ⟨c.tmps, L0⟩) (Hot ρ2 (St.look ⟨c.tmps, L0⟩) G2) ((w.alloc (.deferred (some []))).alloc (.loop rec0)) := s1.trans s2
  have hargs : DenL ρ2 (St.look ⟨c.tmps, L0⟩) (Hot ρ2 (St.look ⟨c.tmps, L0⟩) G2) ((w.alloc (.deferred (some []))).alloc (.loop rec0)) (.tag (c.H.length + 1) :: caps) (yieldV ln :: cvs) :=
    DenL_cons.2 ⟨_, _, rfl, tagL, DenL.step st12 _ _ hl⟩
  have hwait : WfS f0 (⟨c.stk.f, c.n, false, c.stk.marks + 1, some (L, .ready), td, ((firstReg L.body).getD 0, 0)⟩ :: c.stk.below) (v0 ++ ([] ++ ((Dn :: Ds).map markV ++ ([yieldV ln] ++ v2))))
      ((Dn :: Ds).map (fun D => (D, Obj.deferred (some []))) ++ ([(ln, Obj.loop rec0)] ++ E2))
      ((Frame.atR { (default : Frame) with fn := c.stk.f.getD f0, kind := .normal, roundOf := none } { tmps := v0.toArray, defers := (Dn :: Ds).map markD } (.inRangeFunc ln :: td)) :: fs) :=
    ⟨v0, [], v2, Dn :: Ds, _, E2, _, _, fs, [yieldV ln], [(ln, Obj.loop rec0)], _, rfl, rfl, rfl, l0, by simp [hd], ⟨⟨none, rfl, rfl, rfl⟩, rfl, rfl⟩, h4, ⟨ln, Dn, rfl, rfl, rfl⟩⟩
  have key := pushFn_goes (us := yieldV ln :: cvs) h hgo (fun b hb => .inl (.inl (hG1 b hb))) (fun b hb => by
      have hle : X.w.heap.size ≤ w.heap.size := hr.from_.size
      rcases hb with (hb | hb) | hb
      · exact hG2 b hb
      · exact .inr (by omega)
      · exact .inr (by omega)) r4 hargs hn3 (by simpa using hwait)
  obtain ⟨hcall, key⟩ := key
  refine GoesFr.steps (fun cs => .one ?_) key
  have he := run_enterLoop_outer (P := P) (w := w) (c.stk.f.getD f0) v0.toArray ps asg body
  have hrec0 : rec0 = { state := .ready, pending := none, fn := c.stk.f.getD f0, tmps := v0.toArray, params := ps, assign := asg, body := body, defers := w.heap.size } := by
    simp only [rec0, LpSt.lrec, hL, Dn]
  rw [← hrec0] at he
  refine stepR_rangeFunc (b := { (default : Frame) with fn := c.stk.f.getD f0, kind := .normal, roundOf := none }) (a := { tmps := v0.toArray, defers := Ds.map markD }) (ps := ps) (assign := asg) (body := body) (w := w) (l := ln) (w₁' := (w.alloc (.deferred (some []))).alloc (.loop rec0)) (d := { target := .fn (.func f) cvs.toArray, args := #[yieldV ln] }) he ?_ ?_
  · simp only [resolve, hg]
    simp [go_sem, yieldV, ln]
  · have := callFunc_run hcall (#[yieldV ln] ++ cvs.toArray) ((w.alloc (.deferred (some []))).alloc (.loop rec0))
    simp only [invoke]
    rw [this]
    simp
end
end Go.Sx

/-! A region that draws its order, of which the last operations have one order alone: what is ahead of them may come in any order, they come behind it as they stand. -/
namespace Go.Sx
open Go
section
variable {ρ ρ' : Nat → Value} {H H' : AHeap} {G O O' : Nat → Prop} {w w' : World} {P : Program} {S : SummB} {Z : Glob} {X : Ctx} {s : St} {a : Act} {K : List AObj → AV → Prop} {C : Cfg → Prop} {ops : Array Oper}

def wpC (P : Program) (ops : Array Oper) (Q : Act → World → Prop) : Nat → Array Bool → Act → World → Prop
  | 0, _, a, w => Q a w
  | fuel + 1, listed, a, w => Region.ready .any ops listed ≠ [] ∧ ∀ i ∈ Region.ready .any ops listed, wpOp P ops (fun e a w => e = .normal ∧ Q a w) i (wpC P ops Q fuel (listed.setIfInBounds i true)) a w

theorem wpC_sound {Q : Act → World → Prop} : ∀ (fuel t : Nat) (listed : Array Bool) (a : Act) (w : World), wpC P ops Q fuel listed a w →
    wpOps P ops (fun e a w => e = .normal ∧ Q a w) (Region.linearise.go .any ops fuel t listed []) a w := by
  intro fuel
  induction fuel with
  | zero => intro t listed a w h; simpa [Region.linearise.go, wpOps, wpC] using h
  | succ fuel ih =>
    intro t listed a w h
    obtain ⟨h₀, h₁⟩ := h
    simp only [Region.linearise.go]
    change wpOps P ops _ (match (Region.ready .any ops listed)[t % (Region.ready .any ops listed).length]? with
      | some i => Region.linearise.go .any ops fuel (t / (Region.ready .any ops listed).length) (listed.setIfInBounds i true) [i]
      | none => [].reverse) a w
    cases hi : (Region.ready .any ops listed)[t % (Region.ready .any ops listed).length]? with
    | none =>
      exfalso
      cases hr : Region.ready .any ops listed with
      | nil => exact h₀ hr
      | cons x xs =>
        rw [hr] at hi
        have hlt : t % (x :: xs).length < (x :: xs).length := Nat.mod_lt _ (by simp)
        simp at hi
        simp at hlt
        omega
    | some i =>
      simp only []
      rw [linearise_go_acc, List.reverse_singleton, List.singleton_append, wpOps_cons]
      exact wpOp_mono (fun a w => ih _ _ a w) (h₁ i (List.mem_of_getElem? hi))

theorem ready_mem {listed : Array Bool} {i : Nat} (hi : i ∈ Region.ready .any ops listed) : i < ops.size ∧ listed.getD i true = false ∧ ∃ o, ops[i]? = some o ∧ ∀ e ∈ o.after, Region.binds .any e = true → listed.getD e.on false = true := by
  simp only [Region.ready, List.mem_filter, List.mem_range, Bool.and_eq_true] at hi
  obtain ⟨h1, h2, h3⟩ := hi
  refine ⟨h1, by simpa using h2, ?_⟩
  cases ho : ops[i]? with
  | none => rw [ho] at h3; simp at h3
  | some o =>
    rw [ho] at h3
    simp only [Option.map_some, Option.getD_some, Array.all_eq_true] at h3
    refine ⟨o, rfl, fun e he hb => ?_⟩
    obtain ⟨n, hn, rfl⟩ := Array.mem_iff_getElem.1 he
    have := h3 n hn
    rw [hb] at this
    simpa using this

/-- Whoever is not listed, while all ahead of it are, is ready. -/
theorem ready_of {listed : Array Bool} (hsz : listed.size = ops.size) (heb : edgesBack ops = true) {i : Nat} (hi : i < ops.size) (hn : listed.getD i true = false) (hl : ∀ k, k < i → listed.getD k true = true) : i ∈ Region.ready .any ops listed := by
  simp only [Region.ready, List.mem_filter, List.mem_range, Bool.and_eq_true]
  have ho : ops[i]? = some ops[i] := Array.getElem?_eq_getElem hi
  refine ⟨hi, by simpa using hn, ?_⟩
  rw [ho]
  simp only [Option.map_some, Option.getD_some, Array.all_eq_true]
  intro n hn
  have hb : edgesBack ops = true := heb
  simp only [edgesBack, List.all_eq_true, List.mem_range] at hb
  have hb := hb i hi
  rw [ho] at hb
  simp only [Array.all_eq_true] at hb
  have hb := hb n hn
  cases hbi : Region.binds .any (ops[i].after[n]) with
  | false => simp
  | true =>
    rw [hbi] at hb
    have hon : (ops[i].after[n]).on < i := by simpa [Nat.blt, Nat.lt_iff_add_one_le] using hb
    have hne := hl _ hon
    have hin : (ops[i].after[n]).on < listed.size := by omega
    simp only [Array.getD, hin, dif_pos] at hne ⊢
    simpa using hne

theorem cutOk_at {j i k : Nat} (h : cutOk ops j = true) (hi : i < ops.size) (hj : j ≤ i) (hk : k < i) : afterOf ops i k = true := by
  have h1 := List.all_eq_true.1 h i (List.mem_range.2 hi)
  rw [Bool.or_eq_true] at h1
  rcases h1 with h1 | h1
  · have : i < j := by simpa [Nat.blt, Nat.lt_iff_add_one_le] using h1
    omega
  · exact List.all_eq_true.1 h1 k (List.mem_range.2 hk)

/-- What is listed is listed with all that it waits for. -/
def Down (ops : Array Oper) (listed : Array Bool) : Prop := ∀ i o, ops[i]? = some o → listed.getD i false = true → ∀ e ∈ o.after, Region.binds .any e = true → listed.getD e.on false = true

theorem getD_both {listed : Array Bool} {i : Nat} (h : listed.getD i false = true) : listed.getD i true = true := by
  simp only [Array.getD_eq_getD_getElem?] at h ⊢
  cases hx : listed[i]? with
  | none => rw [hx] at h; simp at h
  | some b => rw [hx] at h; simpa using h
theorem ready_after {listed : Array Bool} (hd : Down ops listed) {i k : Nat} (hi : i ∈ Region.ready .any ops listed) (ha : afterOf ops i k = true) : listed.getD k true = true := by
  obtain ⟨h1, h2, o, ho, h3⟩ := ready_mem hi
  exact getD_both (afterN_listed (L := fun i => listed.getD i false = true) hd 9 ho h3 ha)
theorem Down.set {listed : Array Bool} (hd : Down ops listed) {i : Nat} (hi : i ∈ Region.ready .any ops listed) : Down ops (listed.setIfInBounds i true) := by
  obtain ⟨h1, h2, o, ho, h3⟩ := ready_mem hi
  have keep : ∀ j, listed.getD j false = true → (listed.setIfInBounds i true).getD j false = true := fun j hj => by
    simp only [Array.getD_eq_getD_getElem?, Array.getElem?_setIfInBounds] at hj ⊢
    split
    · split <;> simp_all
    · exact hj
  intro k o' ho' hi' e he hb
  by_cases hif : k = i
  · subst hif
    rw [ho] at ho'
    cases ho'
    exact keep _ (h3 e he hb)
  · refine keep _ (hd k o' ho' ?_ e he hb)
    simp only [Array.getD_eq_getD_getElem?, Array.getElem?_setIfInBounds, if_neg (Ne.symm hif)] at hi' ⊢
    exact hi'
theorem get_set {listed : Array Bool} (hsz : listed.size = ops.size) {i k : Nat} (hi : i < ops.size) : (listed.setIfInBounds i true).getD k true = if k = i then true else listed.getD k true := by
  simp only [Array.getD_eq_getD_getElem?, Array.getElem?_setIfInBounds]
  by_cases hjf : i = k
  · subst hjf; simp [hsz, hi]
  · simp [hjf, Ne.symm hjf]

theorem go_tail (heb : edgesBack ops = true) {j : Nat} (hc : cutOk ops j = true) : ∀ (m t i : Nat) (listed : Array Bool), i + m = ops.size → j ≤ i → listed.size = ops.size → Down ops listed → (∀ k, k < ops.size → (listed.getD k true = false ↔ i ≤ k)) →
    Region.linearise.go .any ops m t listed [] = List.range' i m
  | 0, t, i, listed, _, _, _, _, _ => rfl
  | m + 1, t, i, listed, him, hj, hsz, hd, hl => by
    have hr : Region.ready .any ops listed = [i] := by
      have hmem : i ∈ Region.ready .any ops listed := ready_of hsz heb (by omega) ((hl i (by omega)).2 (Nat.le_refl _)) (fun k hk => by
        cases h : listed.getD k true with
        | true => rfl
        | false => have := (hl k (by omega)).1 h; omega)
      have huniq : ∀ k ∈ Region.ready .any ops listed, k = i := fun k hk => by
        obtain ⟨h1, h2, _⟩ := ready_mem hk
        have h3 := (hl k h1).1 h2
        rcases Nat.lt_or_ge i k with h4 | h4
        · have := ready_after hd hk (cutOk_at hc h1 (by omega) h4)
          rw [(hl i (by omega)).2 (Nat.le_refl _)] at this
          cases this
        · omega
      have hnd : (Region.ready .any ops listed).Nodup := List.Nodup.sublist List.filter_sublist List.nodup_range
      generalize Region.ready .any ops listed = l at *
      match l, hmem, huniq, hnd with
      | [x], hmem, huniq, hnd => rw [huniq x (by simp)]
      | x :: y :: l, hmem, huniq, hnd =>
        have h1 := huniq x (by simp)
        have h2 := huniq y (by simp)
        rw [h1, h2] at hnd
        simp at hnd
    simp only [Region.linearise.go]
    change (match (Region.ready .any ops listed)[t % (Region.ready .any ops listed).length]? with
      | some i => Region.linearise.go .any ops m (t / (Region.ready .any ops listed).length) (listed.setIfInBounds i true) [i]
      | none => [].reverse) = _
    rw [hr]
    simp only [List.length_singleton, Nat.mod_one, List.getElem?_cons_zero]
    rw [linearise_go_acc, List.reverse_singleton, List.singleton_append, List.range'_succ]
    congr 1
    have hmem : i ∈ Region.ready .any ops listed := by rw [hr]; simp
    refine go_tail heb hc m _ (i + 1) _ (by omega) (by omega) (by simp [hsz]) (hd.set hmem) (fun k hk => ?_)
    rw [get_set hsz (by omega)]
    by_cases hki : k = i
    · subst hki
      simp
    · rw [if_neg hki, hl k hk]; omega

theorem go_split (heb : edgesBack ops = true) {j : Nat} (hj : j ≤ ops.size) (hc : cutOk ops j = true) : ∀ (m t : Nat) (listed : Array Bool) (us : List Nat), us.length = m → us.Nodup → (∀ i ∈ us, i < j) → listed.size = ops.size → Down ops listed →
    (∀ k, k < ops.size → (listed.getD k true = false ↔ k ∈ us ∨ j ≤ k)) → Region.linearise.go .any ops (m + (ops.size - j)) t listed [] = Region.linearise.go .any ops m t listed [] ++ List.range' j (ops.size - j)
  | 0, t, listed, us, hm, _, _, hsz, hd, hl => by
    obtain rfl : us = [] := List.length_eq_zero_iff.1 hm
    rw [Nat.zero_add, go_tail heb hc (ops.size - j) t j listed (by omega) (Nat.le_refl _) hsz hd (fun k hk => by rw [hl k hk]; simp)]
    rfl
  | m + 1, t, listed, us, hm, hnd, hlt, hsz, hd, hl => by
    rw [show m + 1 + (ops.size - j) = (m + (ops.size - j)) + 1 from by omega]
    simp only [Region.linearise.go]
    change (match (Region.ready .any ops listed)[t % (Region.ready .any ops listed).length]? with
      | some i => Region.linearise.go .any ops (m + (ops.size - j)) (t / (Region.ready .any ops listed).length) (listed.setIfInBounds i true) [i]
      | none => [].reverse) = (match (Region.ready .any ops listed)[t % (Region.ready .any ops listed).length]? with
      | some i => Region.linearise.go .any ops m (t / (Region.ready .any ops listed).length) (listed.setIfInBounds i true) [i]
      | none => [].reverse) ++ _
    obtain ⟨mn, hmn, hmin⟩ : ∃ i ∈ us, ∀ k ∈ us, i ≤ k := by
      cases us with
      | nil => simp at hm
      | cons x xs =>
        clear hnd hlt hl hm
        induction xs generalizing x with
        | nil => exact ⟨x, by simp, by simp⟩
        | cons y ys ih =>
          obtain ⟨i, h1, h2⟩ := ih y
          rcases Nat.le_total x i with h3 | h3
          · exact ⟨x, by simp, fun k hk => by
              rcases List.mem_cons.1 hk with rfl | hk
              · exact Nat.le_refl _
              · exact Nat.le_trans h3 (h2 k hk)⟩
          · exact ⟨i, List.mem_cons_of_mem _ h1, fun k hk => by
              rcases List.mem_cons.1 hk with rfl | hk
              · exact h3
              · exact h2 k hk⟩
    have hr0 : mn ∈ Region.ready .any ops listed := by
      have h1 := hlt mn hmn
      refine ready_of hsz heb (by omega) ((hl mn (by omega)).2 (.inl hmn)) (fun k hk => ?_)
      cases h : listed.getD k true with
      | true => rfl
      | false =>
        rcases (hl k (by omega)).1 h with h2 | h2
        · have := hmin k h2; omega
        · omega
    cases hi : (Region.ready .any ops listed)[t % (Region.ready .any ops listed).length]? with
    | none =>
      exfalso
      cases hr : Region.ready .any ops listed with
      | nil => rw [hr] at hr0; simp at hr0
      | cons x xs =>
        rw [hr] at hi
        have hlt : t % (x :: xs).length < (x :: xs).length := Nat.mod_lt _ (by simp)
        simp at hi
        simp at hlt
        omega
    | some i =>
      simp only []
      have hmem := List.mem_of_getElem? hi
      obtain ⟨h1, h2, _⟩ := ready_mem hmem
      have hij : i ∈ us := by
        rcases (hl i h1).1 h2 with h3 | h3
        · exact h3
        · have h4 := hlt mn hmn
          have := ready_after hd hmem (cutOk_at hc h1 h3 (show mn < i by omega))
          rw [(hl mn (by omega)).2 (.inl hmn)] at this
          cases this
      rw [linearise_go_acc _ _ (m + (ops.size - j)), linearise_go_acc _ _ m, List.append_assoc]
      congr 1
      refine go_split heb hj hc m _ _ (us.erase i) (by rw [List.length_erase_of_mem hij]; omega) (hnd.erase i) (fun k hk => hlt k (List.mem_of_mem_erase hk)) (by simp [hsz]) (hd.set hmem) (fun k hk => ?_)
      rw [get_set hsz h1]
      by_cases hki : k = i
      · subst hki
        have := hlt k hij
        simp only [if_true, Bool.true_eq_false, false_iff, not_or]
        exact ⟨fun h => (List.Nodup.not_mem_erase hnd) h, by omega⟩
      · rw [if_neg hki, hl k hk, List.Nodup.mem_erase_iff hnd]
        simp [hki]

theorem schedule_split (heb : edgesBack ops = true) {j : Nat} (hj : j ≤ ops.size) (hc : cutOk ops j = true) (t : Nat) :
    Region.linearise .any ops t = Region.linearise.go .any ops j t (Array.replicate ops.size false) [] ++ List.range' j (ops.size - j) := by
  have := go_split heb hj hc j t (Array.replicate ops.size false) (List.range j) List.length_range List.nodup_range (fun i hi => List.mem_range.1 hi) (by simp)
    (fun i o _ hi => by rw [Array.getD_eq_getD_getElem?, Array.getElem?_replicate] at hi; split at hi <;> simp at hi) (fun k hk => by
      simp only [Array.getD_eq_getD_getElem?, Array.getElem?_replicate, hk, if_true, Option.getD_some, true_iff, List.mem_range]
      omega)
  rw [show j + (ops.size - j) = ops.size from by omega] at this
  exact this

theorem cut_of_chain {j0 : Nat} (hcut : cutOk ops j0 = true) (hS : SOk P S Z) (hzc : ZCtx Z X) (heb : edgesBack ops = true) {T' : List AV} {H' : AHeap} {Q : Act → World → Prop} (hQ : ∀ ρ' a' w', RepF X ρ' T' H' a' w' → Q a' w') :
    ∀ (fuel : Nat) (listed : Array Bool) (es : List El) (T : List AV) (H : AHeap) (ρ : Nat → Value) (a : Act) (w : World), es.length = fuel → listed.size = ops.size → es.Pairwise (Before ops) →
    (∀ e ∈ es, e.i < j0) → (∀ i, i < ops.size → (listed.getD i true = false ↔ (∃ e ∈ es, e.i = i) ∨ j0 ≤ i)) → (∀ i o, ops[i]? = some o → listed.getD i false = true → ∀ e ∈ o.after, Region.binds .any e = true → listed.getD e.on false = true) → RepF X ρ T H a w → Chain P S ops T H es T' H' → wpC P ops Q fuel listed a w := by
  intro fuel
  induction fuel with
  | zero =>
    intro listed es T H ρ a w hlen hsz hp hlt0 hl hdc hrep hc
    obtain rfl : es = [] := List.length_eq_zero_iff.1 hlen
    obtain ⟨rfl, rfl⟩ := hc
    exact hQ _ _ _ hrep
  | succ fuel ih =>
    intro listed es T H ρ a w hlen hsz hp hlt0 hl hdc hrep hc
    have first : ∃ e ∈ es, e.i ∈ Region.ready .any ops listed := by
      cases es with
      | nil => simp at hlen
      | cons e es =>
        have ho := hc.1.op
        have hlt : e.i < ops.size := (Array.getElem?_eq_some_iff.1 ho).1
        refine ⟨e, by simp, ready_of hsz heb hlt ((hl e.i hlt).2 (.inl ⟨e, by simp, rfl⟩)) (fun k hk => ?_)⟩
        have hej := hlt0 e (by simp)
        cases h : listed.getD k true with
        | true => rfl
        | false =>
          rcases (hl k (by omega)).1 h with ⟨f, hf1, hf2⟩ | h2
          · rcases List.mem_cons.1 hf1 with rfl | hf1
            · omega
            · have := ((List.pairwise_cons.1 hp).1 f hf1).1
              omega
          · omega
    refine ⟨fun hr => ?_, fun i hi => ?_⟩
    · obtain ⟨e, _, he⟩ := first
      rw [hr] at he
      simp at he
    · obtain ⟨h1, h2, o, ho, h3⟩ := ready_mem hi
      obtain ⟨f, hf, rfl⟩ : ∃ e ∈ es, e.i = i := by
        rcases (hl i h1).1 h2 with h | h
        · exact h
        · obtain ⟨e, he1, he2⟩ := first
          obtain ⟨h4, h5, _⟩ := ready_mem he2
          have h6 := hlt0 e he1
          have := ready_after hdc hi (cutOk_at hcut h1 h (show e.i < i by omega))
          rw [h5] at this
          cases this
      obtain ⟨pre, post, rfl⟩ := List.append_of_mem hf
      have hpre : ∀ e ∈ pre, Before ops e f := fun e he => (List.pairwise_append.1 hp).2.2 e he f (by simp)
      have hind : ∀ e ∈ pre, Indep ops e f := by
        intro e he
        rcases (hpre e he).2 with h4 | h4
        · exfalso
          have h8 : listed.getD e.i false = true := afterN_listed (L := fun i => listed.getD i false = true) hdc 9 ho h3 h4
          have hlt : e.i < ops.size := by have := (hpre e he).1; omega
          have h9 := (hl e.i hlt).2 (.inl ⟨e, by simp [he], rfl⟩)
          have hin : e.i < listed.size := by omega
          simp only [Array.getD, hin, dif_pos] at h8 h9
          rw [h8] at h9
          cases h9
        · exact h4
      obtain ⟨hok, hch⟩ := front pre hc hind
      refine wpOp_el hS hzc hok hrep (fun ρ' a' w' hr' => ?_)
      have keep : ∀ j, listed.getD j false = true → (listed.setIfInBounds f.i true).getD j false = true := fun j hj => by
        simp only [Array.getD_eq_getD_getElem?, Array.getElem?_setIfInBounds] at hj ⊢
        split
        · split <;> simp_all
        · exact hj
      have hdc' : ∀ i o, ops[i]? = some o → (listed.setIfInBounds f.i true).getD i false = true → ∀ e ∈ o.after, Region.binds .any e = true → (listed.setIfInBounds f.i true).getD e.on false = true := by
        intro i o' ho' hi' e he hb
        by_cases hif : i = f.i
        · subst hif
          rw [ho] at ho'
          cases ho'
          exact keep _ (h3 e he hb)
        · refine keep _ (hdc i o' ho' ?_ e he hb)
          simp only [Array.getD_eq_getD_getElem?, Array.getElem?_setIfInBounds, if_neg (Ne.symm hif)] at hi' ⊢
          exact hi'
      refine ih _ (pre ++ post) _ _ ρ' a' w' ?_ (by simp [hsz]) ?_ (fun e he => hlt0 e (by
        rcases List.mem_append.1 he with he | he
        · exact List.mem_append.2 (.inl he)
        · exact List.mem_append.2 (.inr (List.mem_cons_of_mem _ he)))) ?_ hdc' hr' hch
      · simp only [List.length_append, List.length_cons] at hlen ⊢
        omega
      · exact hp.sublist (List.Sublist.append (List.Sublist.refl _) (List.sublist_cons_self _ _))
      · intro j hj
        have hinj : ∀ e ∈ pre ++ post, e.i ≠ f.i := by
          intro e he
          rcases List.mem_append.1 he with he | he
          · have := (hpre e he).1; omega
          · have := (List.pairwise_cons.1 (List.pairwise_append.1 hp).2.1).1 e he
            have := this.1
            omega
        have hin : j < listed.size := by omega
        have hget : (listed.setIfInBounds f.i true).getD j true = if j = f.i then true else listed.getD j true := by
          simp only [Array.getD_eq_getD_getElem?, Array.getElem?_setIfInBounds]
          by_cases hjf : f.i = j
          · subst hjf; simp [hin]
          · simp [hjf, Ne.symm hjf]
        rw [hget]
        by_cases hjf : j = f.i
        · subst hjf
          have := hlt0 f hf
          simp only [if_true, Bool.true_eq_false, false_iff, not_or, not_exists, not_and]
          exact ⟨hinj, by omega⟩
        · rw [if_neg hjf, hl j hj]
          constructor
          · rintro (⟨e, he, rfl⟩ | h)
            · refine .inl ⟨e, ?_, rfl⟩
              simp only [List.mem_append, List.mem_cons] at he ⊢
              rcases he with he | rfl | he
              · exact .inl he
              · exact (hjf rfl).elim
              · exact .inr he
            · exact .inr h
          · rintro (⟨e, he, rfl⟩ | h)
            · refine .inl ⟨e, ?_, rfl⟩
              simp only [List.mem_append, List.mem_cons] at he ⊢
              rcases he with he | he
              · exact .inl he
              · exact .inr (.inr he)
            · exact .inr h

theorem runOps_cut {j0 : Nat} (hj0 : j0 ≤ ops.size) (hcut : cutOk ops j0 = true) (hS : SOk P S Z) (hzc : ZCtx Z X) {cont : St → List Touch → Tree} (hso : slotsOrdered ops = true) (heb : edgesBack ops = true) (h : (runOps P S ops cont 0 (ops.toList.take j0) s []).Holds K C) (hcl : ∀ s' tr', (cont s' tr').Holds K C → clashFree ops tr' = true)
    {Q : Act → World → Prop} (hQ : ∀ ρ' s' tr' a' w', (cont s' tr').Holds K C → Rep X ρ' s' a' w' → Q a' w') (hr : Rep X ρ s a w) : wpC P ops Q j0 (Array.replicate ops.size false) a w := by
  obtain ⟨es, s', tr', T', g1, g2, g3, g4, g5, g6⟩ := chain_of_runOps (ops.toList.take j0) 0 s [] s.tmps (fun j o hj => by
    rw [List.getElem?_take] at hj
    split at hj
    · simpa using hj
    · cases hj) h rfl (fun t => .inl rfl)
  have hcf := clashFree_pairwise _ (hcl _ _ g1)
  rw [g6, List.append_nil, List.pairwise_reverse, List.pairwise_map, List.pairwise_filter] at hcf
  have hop := chain_op g2
  have hidx : es.Pairwise (fun e f => e.i < f.i) := by
    have : (es.map El.i).Pairwise (· < ·) := by rw [g5]; exact List.pairwise_lt_range'
    rwa [List.pairwise_map] at this
  have hbefore : es.Pairwise (Before ops) := by
    refine (hcf.and hidx).imp_of_mem (fun {e f} he hf ⟨hc, hlt⟩ => ⟨hlt, ?_⟩)
    cases hna : afterOf ops f.i e.i with
    | true => exact .inl rfl
    | false =>
      refine .inr ?_
      obtain ⟨s1, s2⟩ := slots_indep hso (hop e he) (hop f hf) hlt hna
      have hh : (∀ id ∈ e.wr, id ∉ f.rd ∧ id ∉ f.wr) ∧ ∀ id ∈ f.wr, id ∉ e.rd := by
        cases hqe : e.q with
        | none =>
          have e1 : e.wr = [] := by simp [El.wr, hqe]
          have e2 := chain_skip g2 e he hqe
          exact ⟨fun id hid => by rw [e1] at hid; simp at hid, fun id _ => by rw [e2]; simp⟩
        | some qe =>
          cases hqf : f.q with
          | none =>
            have e1 : f.wr = [] := by simp [El.wr, hqf]
            have e2 := chain_skip g2 f hf hqf
            exact ⟨fun id _ => by rw [e1, e2]; simp, fun id hid => by rw [e1] at hid; simp at hid⟩
          | some qf =>
            rcases hc (by rw [hqe]; rfl) (by rw [hqf]; rfl) with h1 | h1
            · exact Touch.clash_spec (a := e.touch) (b := f.touch) h1
            · exact (by rw [show f.touch.i = f.i from rfl, show e.touch.i = e.i from rfl, hna] at h1; cases h1)
      exact ⟨s1, s2, hh.1, hh.2⟩
  have hlen : es.length = j0 := by
    have := congrArg List.length g5
    simp only [List.length_map, List.length_range', List.length_take, Array.length_toList] at this
    omega
  refine cut_of_chain hcut hS hzc heb (fun ρ' a' w' hr' => hQ ρ' s' tr' a' w' g1 ⟨hr'.sat, g3 ▸ hr'.size, fun t => (g4 t).den (hr'.den t), hr'.defers, hr'.from_, hr'.frm, hr'.kept⟩) j0 _ es s.tmps s.look ρ a w hlen (by simp) hbefore (fun e he => ?_) ?_ (fun i o _ hi => by rw [Array.getD_eq_getD_getElem?, Array.getElem?_replicate] at hi; split at hi <;> simp at hi) hr.toF g2
  · have : e.i ∈ es.map El.i := List.mem_map_of_mem he
    rw [g5, List.mem_range'_1, List.length_take] at this
    omega
  · intro i hi
    simp only [Array.getD_eq_getD_getElem?, Array.getElem?_replicate, hi, if_true, Option.getD_some, true_iff]
    rcases Nat.lt_or_ge i j0 with h1 | h1
    · have : i ∈ es.map El.i := by rw [g5, List.mem_range'_1, List.length_take, Array.length_toList]; omega
      obtain ⟨e, he, rfl⟩ := List.mem_map.1 this
      exact .inl ⟨e, he, rfl⟩
    · exact .inr h1
end
end Go.Sx

/-! Own rows that are given up in the middle of a run. -/
namespace Go.Sx
open Go

section
variable {ρ ρ' : Nat → Value} {H H' : AHeap} {G O O' : Nat → Prop} {w w' : World} {P : Program} {Z : Glob} {X : Ctx} {s : St} {a : Act}

theorem frzO_alive {id : Nat} {c : Con} {o : AObj} : (frzO id c o).alive = o.alive := by cases o <;> rfl
theorem frzO_vec {id : Nat} {c : Con} {o : AObj} {c' : Con} {e' : TypeId} (h : frzO id c o = .vec c' e') : o = .vec c' e' := by
  cases o <;> simp [frzO] at h ⊢
  exact h
theorem Rep.frz1 (h : Rep X ρ s a w) (id : Nat) : Rep X ρ (frzSt s id) a w := by
  unfold frzSt
  split
  · rename_i c e ho
    have hs := h.sat
    have hlt : id < s.H.length := (List.getElem?_eq_some_iff.1 ho).1
    let s' : St := ⟨s.tmps.map (frzAV id c), (s.H.map (frzO id c)).set id .dead⟩
    have look : ∀ j, s'.look j = if j = id then some .dead else (s.look j).map (frzO id c) := by
      intro j
      show ((s.H.map (frzO id c)).set id .dead)[j]? = _
      rw [List.getElem?_set]
      by_cases hj : id = j
      · subst hj; simp [hlt]
      · rw [if_neg hj, if_neg (Ne.symm hj), List.getElem?_map]; rfl
    have own' : ∀ b, Own ρ s'.look b → Own ρ (updH s.look id .dead) b := by
      rintro b ⟨j, o, hj, h1, h2⟩
      rw [look] at hj
      by_cases e1 : j = id
      · rw [if_pos e1] at hj; cases hj; cases h1
      · rw [if_neg e1] at hj
        obtain ⟨o0, h3, rfl⟩ := Option.map_eq_some_iff.1 hj
        exact ⟨j, o0, by simp [updH, e1, h3], by rw [frzO_alive] at h1; exact h1, h2⟩
    have own : ∀ b, Own ρ s'.look b → Own ρ s.look b := fun b hb => own_kill (own' b hb)
    have st : Step ρ s.look (Hot ρ s.look X.G) w ρ s'.look (Hot ρ s'.look X.G) w := by
      refine ⟨fun _ _ _ => rfl, fun j o hj => ?_, fun b hb => .inl (hb.imp (own b) (fun x => x)), fun _ _ _ => rfl, Nat.le_refl _⟩
      by_cases e1 : j = id
      · exact ⟨.dead, by rw [look, if_pos e1], fun c' e' he => by cases he⟩
      · refine ⟨frzO id c o, by rw [look, if_neg e1, hj]; rfl, fun c' e' he => ?_⟩
        exact ⟨c', e', frzO_vec he, rfl, rfl⟩
    have gone : DenS (Hot ρ s'.look X.G) w (.ro c) (ρ id) := (given_up hs ho).less0 fun b hb => hb.imp (own' b) (fun x => x)
    have eqv : ∀ {j : Nat} {v : Value}, Den1 ρ s.look (Hot ρ s.look X.G) w (.vec j) v → j = id → v = ρ id := by
      intro j v hv e1
      subst e1
      unfold Den1 at hv
      obtain ⟨_, o, h1, h2⟩ := hv
      have h3 : s.look j = some (.vec c e) := ho
      rw [h3] at h1
      cases h1
      exact h2 c e rfl
    have denC : ∀ x cs, DenC ρ s.look (Hot ρ s.look X.G) w x cs → DenC ρ s'.look (Hot ρ s'.look X.G) w (frz1AV id c x) cs := by
      intro x cs hx
      have hst := DenC.step st x cs hx
      cases x <;> try exact hst
      rename_i j
      simp only [frz1AV, Bool.cond_eq_ite]
      split
      · rename_i hj
        have hj : j = id := by simpa using hj
        unfold DenC at hx ⊢
        obtain ⟨u, rfl, hu⟩ := hx
        exact ⟨u, rfl, by rw [eqv hu hj]; exact gone⟩
      · exact hst
    have denSegs : ∀ (xs : List AV) cs, DenSegs ρ s.look (Hot ρ s.look X.G) w xs cs → DenSegs ρ s'.look (Hot ρ s'.look X.G) w (xs.map (frz1AV id c)) cs := by
      intro xs
      induction xs with
      | nil => intro cs hx; exact DenSegs_nil.2 (DenSegs_nil.1 hx)
      | cons x xs ih =>
        intro cs hx
        obtain ⟨c1, c2, rfl, h1, h2⟩ := DenSegs_cons.1 hx
        exact DenSegs_cons.2 ⟨c1, c2, rfl, denC _ _ h1, ih _ h2⟩
    have denV : ∀ x v, DenV ρ s.look (Hot ρ s.look X.G) w x v → DenV ρ s'.look (Hot ρ s'.look X.G) w (frzAV id c x) v := by
      intro x v hx
      have hst := DenV.step st x v hx
      cases x with
      | agg segs =>
        unfold DenV at hx
        obtain ⟨cs, rfl, h1⟩ := hx
        show DenV _ _ _ _ (.agg _) _
        unfold DenV
        exact ⟨cs, rfl, denSegs _ _ h1⟩
      | vec j =>
        simp only [frzAV, Bool.cond_eq_ite]
        split
        · rename_i hj
          have hj : j = id := by simpa using hj
          unfold DenV at hx
          rw [eqv hx hj]
          exact DenV_s gone
        · exact hst
      | _ => exact hst
    refine ⟨⟨fun j o hj => ?_, fun i j oi oj b h1 h2 h3 h4 h5 h6 => ?_, fun b hb => hs.apart b (own b hb), hs.low⟩, by rw [← h.size]; exact List.length_map _, fun t => ?_, h.defers, h.from_.trans st, h.frm, h.kept⟩
    · have hj : s'.look j = some o := hj
      rw [look] at hj
      by_cases e1 : j = id
      · rw [if_pos e1] at hj; cases hj; trivial
      · rw [if_neg e1] at hj
        obtain ⟨o0, h3, rfl⟩ := Option.map_eq_some_iff.1 hj
        have hobj := hs.obj j o0 h3
        cases o0 with
        | own segs e1 =>
          obtain ⟨b, cells, fr, g1, g2, g3, g4⟩ := hobj
          exact ⟨b, cells, fr, g1, g2, g3, denSegs _ _ g4⟩
        | _ => exact hobj.step st (fun _ _ _ => rfl)
    · have key : ∀ i oi, s'.look i = some oi → oi.alive = true → ∃ x, s.look i = some x ∧ x.alive = true := by
        intro i oi hi ha
        rw [look] at hi
        by_cases e1 : i = id
        · rw [if_pos e1] at hi; cases hi; cases ha
        · rw [if_neg e1] at hi
          obtain ⟨o0, h3, rfl⟩ := Option.map_eq_some_iff.1 hi
          exact ⟨o0, h3, by rw [frzO_alive] at ha; exact ha⟩
      obtain ⟨x, hx, hxa⟩ := key i oi h1 h3
      obtain ⟨y, hy, hya⟩ := key j oj h2 h4
      exact hs.inj i j x y b hx hy hxa hya h5 h6
    · have e1 : (s.tmps.map (frzAV id c)).getD t (.s .junk) = frzAV id c (s.tmps.getD t (.s .junk)) := by
        rw [List.getD_eq_getElem?_getD, List.getD_eq_getElem?_getD, List.getElem?_map]
        cases s.tmps[t]? <;> rfl
      show DenV _ _ _ _ ((s.tmps.map (frzAV id c)).getD t (.s .junk)) _
      rw [e1]
      exact denV _ _ (h.den t)
  · exact h

theorem Rep.frzs (ids : List Nat) : ∀ {s : St}, Rep X ρ s a w → Rep X ρ (ids.foldl frzSt s) a w := by
  induction ids with
  | nil => intro s h; exact h
  | cons id ids ih => intro s h; exact ih (h.frz1 id)

theorem Rep.frzFor (h : Rep X ρ s a w) (o : Oper) : Rep X ρ (frzFor s o) a w := by
  unfold Sx.frzFor
  split
  · exact h.frzs _
  · split
    · exact h.frzs _
    · exact h
  · exact h
end
end Go.Sx

/-! The executor tells the truth. -/
namespace Go.Sx
open Go

section
variable {ρ ρ' : Nat → Value} {H H' : AHeap} {G O O' : Nat → Prop} {w w' : World} {P : Program} {S : SummB} {Z : Glob} {X : Ctx} {s : St} {a : Act} {K : List AObj → AV → Prop} {C : Cfg → Prop} {ops : Array Oper} {E E' : List (Nat × Obj)}

theorem TopR.tmp {n : Nat} {rest : List Value} {Ds : List Nat} {a t : Act} (h : TopR n rest Ds a t) {o : Oper} {i : Nat} (hin : InTop n rest ops) (ho : ops[i]? = some o) : Region.wanted o (yielded ops t.tmps) = Region.wanted o (yielded ops a.tmps) := (h.same hin ho).2

/-- A region that draws no order, from an operation on. -/
theorem runOpsI_goes (hS : SOk P S Z) (hzc : ZCtx Z X) {f0 : FuncId} {R : Ending → World → Prop} {enter : St → Nat → Oper → Option Tree} {cont : St → Tree} {n : Nat} {rest : List Value} {Ds : List Nat} {b : Frame} {k : List Item} {fs : List Frame}
    (hnd : noDefer ops = true) (hin : InTop n rest ops)
    (hcont : ∀ s, (cont s).Holds K C → ∀ ρ a t w, Rep X ρ s a w → TopR n rest Ds a t → GoesM P f0 R b t k fs w)
    (henter : ∀ s i o tr, enter s i o = some tr → tr.Holds K C → ∀ ρ a t w, ops[i]? = some o → Region.wanted o (yielded ops a.tmps) = true → Rep X ρ s a w → TopR n rest Ds a t →
      GoesM P f0 R b t (.inRegion ops (List.range' i (ops.size - i)) :: k) fs w) :
    ∀ (l : List Oper) (i : Nat) (s : St), (∀ j, l[j]? = ops[i + j]?) → i + l.length = ops.size → (runOpsI P S ops enter cont i l s).Holds K C → ∀ (ρ : Nat → Value) (a t : Act) (w : World), Rep X ρ s a w → TopR n rest Ds a t →
      GoesM P f0 R b t (.inRegion ops (List.range' i l.length) :: k) fs w
  | [], i, s, hl, hsz, h, ρ, a, t, w, hr, ht => GoesM.step (fun _ => stepR_region_end) (hcont s h ρ a t w hr ht)
  | o :: l, i, s, hl, hsz, h, ρ, a, t, w, hr, ht => by
    have ho : ops[i]? = some o := by simpa using (hl 0).symm
    have hl' : ∀ j, l[j]? = ops[i + 1 + j]? := fun j => by
      have := hl (j + 1)
      rw [show i + (j + 1) = i + 1 + j from by omega] at this
      simpa using this
    have hsz' : i + 1 + l.length = ops.size := by simp only [List.length_cons] at hsz; omega
    have hdst : rest = [] ∨ ∀ d, o.dst = some d → d < n := (hin.op ho).imp id (·.2.1)
    simp only [List.length_cons, List.range'_succ]
    have hgo : ∀ (s : St) (a : Act), Rep X ρ s a w → TopR n rest Ds a t → Region.wanted o (yielded ops a.tmps) = true →
        (match enter s i o with
          | some t => t
          | none => match (opR P (S (frzFor s o).H.length) (evOf (frzFor s o).tmps) o).eval (frzFor s o).look with
            | some r => bif upsOk (frzFor s o).H.length r.up then Tree.needs r.need (runOpsI P S ops enter cont (i + 1) l ((frzFor s o).put o.dst r)) else .stuck "up"
            | none => .stuck (o.pos ++ " " ++ (opR P (S (frzFor s o).H.length) (evOf (frzFor s o).tmps) o).why (frzFor s o).look)).Holds K C →
        GoesM P f0 R b t (.inRegion ops (i :: List.range' (i + 1) l.length) :: k) fs w := by
      intro s a hr ht hw h
      split at h
      · rename_i tr hc
        have := henter s i o tr hc h ρ a t w ho hw hr ht
        rwa [show ops.size - i = l.length + 1 from by omega, List.range'_succ] at this
      · have hr := hr.frzFor o
        generalize frzFor s o = s at *
        split at h
        · rename_i q hq
          rw [Bool.cond_eq_ite] at h
          split at h
          · rename_i hup
            obtain ⟨hn, h2⟩ := needs_holds _ _ h
            have hy := hr.op hS hzc hq hn (ups_in hup)
            have hy' : Yields P o t.eval w (fun v w' => ∃ ρ', Rep X ρ' (s.put o.dst q) (a.put o.dst v) w') := by
              unfold Yields at *
              rw [(ht.same hin ho).1]; exact hy
            intro cs
            obtain ⟨v, w', ⟨ρ', hr'⟩, hst⟩ := op_step ho (by rw [(ht.same hin ho).2]; exact hw) (defer_ne hnd ho) hy' b k (fs ++ cs) (rest := List.range' (i + 1) l.length)
            obtain ⟨e, w2, fr, g1, g2, g3⟩ := runOpsI_goes hS hzc hnd hin hcont henter l (i + 1) _ hl' hsz' h2 ρ' _ _ w' hr' (ht.put hdst v) cs
            exact ⟨e, w2, fr, g1, Comes.of_steps hst g2, g3⟩
          · exact h.elim
        · exact h.elim
    have hskip : ∀ (s : St) (a : Act), Rep X ρ s a w → TopR n rest Ds a t → Region.wanted o (yielded ops a.tmps) = false → (runOpsI P S ops enter cont (i + 1) l { s with tmps := setSlot s.tmps o.dst (.tup []) }).Holds K C →
        GoesM P f0 R b t (.inRegion ops (i :: List.range' (i + 1) l.length) :: k) fs w := by
      intro s a hr ht hw h
      refine GoesM.step (fun cs => op_skip ho (by rw [(ht.same hin ho).2]; exact hw) b k (fs ++ cs)) ?_
      exact runOpsI_goes hS hzc hnd hin hcont henter l (i + 1) _ hl' hsz' h ρ _ _ w (hr.skip o.dst) (ht.put hdst undef)
    unfold runOpsI at h
    simp only [] at h
    split at h
    · rename_i hg
      exact hgo s a hr ht (by simp [Region.wanted, hg]) h
    · rename_i g want hg
      split at h
      · exact h.elim
      · rename_i d hd
        split at h
        · rename_i b' hb
          have hy : yielded ops a.tmps g = some b' := by
            simp only [yielded, hd, Option.bind_some, blit_get hr hb]
          rw [Bool.cond_eq_ite] at h
          split at h
          · rename_i hbw
            exact hgo s a hr ht (by simp only [Region.wanted, hg, hy]; simpa using hbw) h
          · rename_i hbw
            exact hskip s a hr ht (by simp only [Region.wanted, hg, hy]; simpa using hbw) h
        · rename_i b' hb
          have hr' : Rep X ρ { s with tmps := s.tmps.set d (.s (.blit b')) } a w := hr.refine hb bool_refine
          have hlt : d < s.tmps.length := by
            rcases Nat.lt_or_ge d s.tmps.length with h3 | h3
            · exact h3
            · rw [List.getD, List.getElem?_eq_none h3] at hb
              simp at hb
          have hy : yielded ops a.tmps g = some b' := by
            simp only [yielded, hd, Option.bind_some]
            rw [blit_get hr' (d := d) (b := b') (by simp [List.getD, hlt])]
          obtain ⟨h1, h2⟩ := h
          cases b'
          · have h2 := h2 rfl
            cases want
            · exact hgo _ a hr' ht (by simp only [Region.wanted, hg, hy]; rfl) h2
            · exact hskip _ a hr' ht (by simp only [Region.wanted, hg, hy]; rfl) h2
          · have h1 := h1 rfl
            cases want
            · exact hskip _ a hr' ht (by simp only [Region.wanted, hg, hy]; rfl) h1
            · exact hgo _ a hr' ht (by simp only [Region.wanted, hg, hy]; rfl) h1
        · rename_i n0 eq hb
          have hlt : d < s.tmps.length := by
            rcases Nat.lt_or_ge d s.tmps.length with h3 | h3
            · exact h3
            · rw [List.getD, List.getElem?_eq_none h3] at hb
              simp at hb
          have hd0 := hr.den d
          rw [hb] at hd0
          obtain ⟨bb, hbv, hb0⟩ : ∃ bb, a.tmps.getD d undef = .bool bb ∧ (bb = eq → n0 = 0) := by
            have h2 := DenS_of_V (by simp) hd0
            generalize a.tmps.getD d undef = u at h2
            cases h2
            exact ⟨_, rfl, by assumption⟩
          have hr' : Rep X ρ { s with tmps := s.tmps.set d (.s (.blit bb)) } a w := hr.refine1 hb (by rw [hbv]; exact DenV_s (.blit bb))
          have hy : yielded ops a.tmps g = some bb := by
            simp only [yielded, hd, Option.bind_some]
            rw [blit_get hr' (d := d) (b := bb) (by simp [List.getD, hlt])]
          obtain ⟨h1, h2⟩ := h
          cases bb
          · have h2 := h2 (by cases eq <;> first | exact hb0 rfl | trivial)
            cases want
            · exact hgo _ a hr' ht (by simp only [Region.wanted, hg, hy]; rfl) h2
            · exact hskip _ a hr' ht (by simp only [Region.wanted, hg, hy]; rfl) h2
          · have h1 := h1 (by cases eq <;> first | exact hb0 rfl | trivial)
            cases want
            · exact hskip _ a hr' ht (by simp only [Region.wanted, hg, hy]; rfl) h1
            · exact hgo _ a hr' ht (by simp only [Region.wanted, hg, hy]; rfl) h1
        · rename_i hb
          have hy : yielded ops a.tmps g = none := by
            simp only [yielded, hd, Option.bind_some, undef_get hr hb, undef]
          exact hskip s a hr ht (by simp only [Region.wanted, hg, hy]; simp) h
        · exact h.elim

/-- The frame on top, out of all slots; and what is left of it when its own slots turn. -/
theorem Wf.top {f0 : FuncId} {c : Cfg} {vs : List Value} {b : Frame} {t : Act} {fs : List Frame} (hl : c.tmps.length = vs.length) (hw : Wf f0 c.stk vs E b t fs) : ∃ rest Ds, TopR c.n rest Ds ⟨vs.toArray, []⟩ t ∧ (c.stk.plain = true → rest = []) ∧
    ∀ a' t', TopR c.n rest Ds a' t' → a'.defers = [] → Wf f0 c.stk a'.tmps.toList E b t' fs := by
  obtain ⟨hn, v0, rv, v2, Ds, E1, E2, rfl, rfl, hd, h3, h4⟩ := hw
  obtain ⟨l0, l1, l2⟩ := top_len hl rfl hd h3 h4
  refine ⟨rv ++ (Ds.map markV ++ v2), Ds, ⟨⟨v0, by simp, by rw [h3.act], l0⟩, by rw [h3.act]; rfl⟩, fun hp => ?_, fun a' t' ht hdf => ?_⟩
  · simp only [Stk.plain, Bool.and_eq_true, Bool.not_eq_true'] at hp
    obtain ⟨⟨p1, p2⟩, p3⟩ := hp
    have e1 : rv = [] := List.eq_nil_of_length_eq_zero (by rw [l1, p1]; rfl)
    have e2 : Ds = [] := List.eq_nil_of_length_eq_zero (hd.trans (Nat.eq_of_beq_eq_true p2))
    have e3 : c.stk.below = [] := List.isEmpty_iff.1 p3
    rw [e3] at h4
    rw [e1, e2, h4.1]; rfl
  · obtain ⟨v0', k1, k2, k3⟩ := ht.sl
    refine ⟨hn, v0', rv, v2, Ds, E1, E2, k1, rfl, hd, ⟨h3.fr, ?_, h3.ghost⟩, h4⟩
    obtain ⟨tt, td⟩ := t'
    have := ht.df
    rw [hdf] at this
    simp only [List.nil_append] at this
    simp only at k2 this
    rw [k2, this]

theorem Act.eta {a : Act} (h : a.defers = []) : (⟨a.tmps.toList.toArray, []⟩ : Act) = a := by
  obtain ⟨x, y⟩ := a
  simp only at h
  subst h
  simp

theorem TopR.bool {n : Nat} {rest : List Value} {Ds : List Nat} {a t : Act} (h : TopR n rest Ds a t) {j : Nat} (hj : rest = [] ∨ j < n) : t.eval (.tmp j) = a.tmps.getD j undef := by
  rw [h.eval (hj.imp id fun g => fun i e => by cases e; exact g)]; rfl

theorem or_in {p q : Bool} {rest : List Value} {R : Prop} (h : (p || q) = true) (h1 : p = true → rest = []) (h2 : q = true → R) : rest = [] ∨ R := by
  rcases Bool.or_eq_true_iff.1 h with h | h
  · exact .inl (h1 h)
  · exact .inr (h2 h)

theorem blt_lt {a b : Nat} (h : a.blt b = true) : a < b := by simpa [Nat.blt, Nat.lt_iff_add_one_le] using h

theorem beginRd_goes {f0 : FuncId} {c : Cfg} {id : Nat} {y : FrD × Lp × List AV} {b : Frame} {t : Act} {fs : List Frame} {k : List Item} (hround : c.stk.round = true) (hid : c.tmps.getD c.n (.s .junk) = .tag id)
    (hf : findLp id c.stk.below (c.tmps.drop (c.n + c.stk.extra)) = some (y.1, y.2.1, .ready, y.2.2))
    (hgo : Safe P f0 X K { c with todo := k, stk := { c.stk with below := setLp id .busy c.stk.below (c.tmps.drop (c.n + c.stk.extra)) } })
    (hG1 : ∀ b, X.G b → G b) (hG2 : ∀ b, G b → X.G b ∨ X.w.heap.size ≤ b) (hr : Rep (X.at G E) ρ ⟨c.tmps, c.H⟩ a w) (hw : Wf f0 c.stk a.tmps.toList E b t fs) :
    GoesM P f0 (Post X K) b t (.beginRound :: k) fs w := by
  obtain ⟨hn, v0, rv, v2, Ds, E1, E2, e1, rfl, hd, h3, h4⟩ := hw
  obtain ⟨l0, l1, l2⟩ := top_len hr.dp.len e1 hd h3 h4
  have hb := h3.fr
  rw [hround] at hb
  obtain ⟨r, rfl, l, hrv, hrr⟩ := hb
  subst hrv hrr
  have hdp := hr.dp.drop (c.n + c.stk.extra)
  rw [l2] at hdp
  have hn2 : (E2.map (·.1)).Nodup := by
    rw [List.map_append] at hn
    exact (List.nodup_append.1 hn).2.1
  obtain ⟨l', D, v0', g1, g2, g3, g4, g5, g6⟩ := findLp_ok hf h4 hn2 hdp.get
  have hval : a.tmps.toList.getD c.n undef = yieldV l := by
    rw [e1, List.getD, List.getElem?_append_right (by omega), show c.n - v0.length = 0 from by omega]
    rfl
  have hden := hr.dp.get c.n
  rw [hid, hval] at hden
  unfold DenV Den1 at hden
  have hll : l' = l := yieldV_inj (g1.symm.trans hden.1.symm)
  subst hll
  have hheap := (hr.kept _ (show _ ∈ (E1 ++ E2) from List.mem_append_right _ g3)).2.2
  have hbeg := run_beginRound (P := P) hheap rfl
  have hl1 : l' ∉ E1.map (·.1) := by
    intro hm
    rw [List.map_append] at hn
    exact (List.nodup_append.1 hn).2.2 l' hm l' (List.mem_map_of_mem (f := Prod.fst) g3) rfl
  have hr2 : Rep (X.at G (E1 ++ upE l' (Obj.loop (LpSt.busy.lrec y.2.1 (y.1.f.getD f0) v0'.toArray D)) E2)) ρ ⟨c.tmps, c.H⟩ a (w.putObj l' (Obj.loop (LpSt.busy.lrec y.2.1 (y.1.f.getD f0) v0'.toArray D))) :=
    hr.poke (show (l', Obj.loop (LpSt.ready.lrec y.2.1 (y.1.f.getD f0) v0'.toArray D)) ∈ (E1 ++ E2) from List.mem_append_right _ g3) (fun z hz => by
      rcases List.mem_append.1 hz with h6 | h6
      · exact .inl ⟨List.mem_append_left _ h6, fun e => hl1 (e ▸ List.mem_map_of_mem (f := Prod.fst) h6)⟩
      · rcases upE_mem z h6 with h7 | h7
        · exact .inl ⟨List.mem_append_right _ h7.1, h7.2⟩
        · exact .inr h7)
  have key := hgo G _ ρ a _ hG1 hG2 hr2 _ t fs ⟨by rw [List.map_append, upE_keys, ← List.map_append]; exact hn, v0, [yieldV l'], v2, Ds, E1, _, e1, rfl, hd, h3, g6 .busy⟩
  exact GoesM.step (fun cs => stepR_beginRound (l := l') rfl hbeg) key

theorem exec_ok {f : FuncId} {fn : Func} {stop inl : Nat → Bool} (hS : SOk P S Z) (hzc : ZCtx Z X) (hm : P.follows .mixedOrders = true) (hf : P.funcs[f]? = some fn) : ∀ (n : Nat) (fst : Bool) (c : Cfg), (exec P S fn stop inl n fst c).Holds K (Safe P f X K) → Safe P f X K c
  | 0, _, c, h => h
  | n + 1, fst, c, h => by
    intro G E ρ a w hG1 hG2 hr b t fs hw
    have hgo : ∀ c', (exec P S fn stop inl n false c').Holds K (Safe P f X K) → Safe P f X K c' := fun c' h' => exec_ok hS hzc hm hf n false c' h'
    obtain ⟨rest, Ds, htop, hplain, hwf⟩ := hw.top hr.dp.len
    rw [Act.eta hr.defers] at htop
    have hto : ∀ k, (exec P S fn stop inl n fst { c with todo := k }).Holds K (Safe P f X K) → GoesM P f (Post X K) b t k fs w := fun k hk => exec_ok hS hzc hm hf n fst _ hk G E ρ a w hG1 hG2 hr b t fs hw
    have hbr : c.stk.round = false → b.roundOf = none := fun h0 => by
      obtain ⟨_, _, _, _, _, _, _, _, _, _, h3, _⟩ := hw
      have := h3.fr
      rw [h0] at this
      obtain ⟨r, rfl, _, rfl⟩ := this
      rfl
    have hback : ∀ k, (k = [] ∨ ∃ k', k = .code .ret :: k') → c.stk.round = false →
        (match c.stk.fn P fn with
          | some g => (match resultOf P ⟨c.tmps.take c.n, c.H⟩ g.results.toList with
            | some vs => endFn c (oneOf vs) (fun c => exec P S fn stop inl n false c)
            | none => .stuck "results")
          | none => .stuck "results: whose?").Holds K (Safe P f X K) → GoesM P f (Post X K) b t k fs w := by
      intro k hk h0 h
      split at h
      · rename_i g hg
        split at h
        · rename_i vs hv
          have key := endFn_goes (todo := k) hf hg h0 hv h hgo hG1 hG2 hr hw
          refine GoesFr.steps (fun cs => .one ?_) key
          rcases hk with rfl | ⟨k', rfl⟩
          · exact stepR_end (hbr h0)
          · exact stepR_ret (hbr h0)
        · exact h.elim
      · exact h.elim
    -- a region that draws no order, from a place on
    have hops : ∀ (ff : Bool) (id : Nat) (rs : Array Oper) (i : Nat) (k : List Item), i ≤ rs.size →
        (bif noDefer rs && (c.stk.plain || slotsIn c.n rs) then
          runOpsI P S rs (fun s j o =>
            bif stop (midAt c.stk id j) && !(ff && j.beq i) then some (.at { c with tmps := s.tmps, H := s.H, todo := .inRegion rs (List.range' j (rs.size - j)) :: k, stk := { c.stk with rid := id } }) else
            match callee? o (evOf s.tmps) with
            | some (g, args) => (match g with
            | .s (.fn0 f) => bif inl f then some (pushFn P { c with tmps := s.tmps, H := s.H } f args ⟨c.stk.f, c.n, c.stk.round, c.stk.marks, none, .inRegion rs (List.range' j (rs.size - j)) :: k, (id, j)⟩ (fun c => exec P S fn stop inl n false c)) else none
            | .fn f caps => bif inl f then some (pushFn P { c with tmps := s.tmps, H := s.H } f (args ++ caps) ⟨c.stk.f, c.n, c.stk.round, c.stk.marks, none, .inRegion rs (List.range' j (rs.size - j)) :: k, (id, j)⟩ (fun c => exec P S fn stop inl n false c)) else none
            | .tag y => some (pushRd { c with tmps := s.tmps, H := s.H } y args ⟨c.stk.f, c.n, c.stk.round, c.stk.marks, none, .inRegion rs (List.range' j (rs.size - j)) :: k, (id, j)⟩ (fun c => exec P S fn stop inl n false c))
            | _ => none)
            | none => bif waitsOp o then some (.at { c with tmps := s.tmps, H := s.H, todo := .inRegion rs (List.range' j (rs.size - j)) :: k, stk := { c.stk with rid := id } }) else none) (fun s => exec P S fn stop inl n ff { c with tmps := s.tmps, H := s.H, todo := k, stk := { c.stk with rid := 0 } }) i (rs.toList.drop i) ⟨c.tmps, c.H⟩
          else .stuck "region: slots").Holds K (Safe P f X K) →
        GoesM P f (Post X K) b t (.inRegion rs (List.range' i (rs.size - i)) :: k) fs w := by
      intro ff id rs i k hi h
      rw [Bool.cond_eq_ite] at h
      split at h
      · rename_i hc
        simp only [Bool.and_eq_true] at hc
        have hin : InTop c.n rest rs := or_in hc.2 hplain (fun x => x)
        have hlen : (rs.toList.drop i).length = rs.size - i := by simp
        have hcn : ∀ (s : St), s.tmps.length = c.tmps.length → (Cfg.n { c with tmps := s.tmps, H := s.H }) = c.n := fun s hs => by unfold Cfg.n; simp only [hs]
        have key := runOpsI_goes (X := X.at G E) (b := b) (fs := fs) (k := k) (f0 := f) (R := Post X K) (n := c.n) (rest := rest) (Ds := Ds) hS (hzc.at G E) hc.1 hin (fun s hs ρ' a' t' w' hr' ht' => ?_) (fun s j o tr hen htr ρ' a' t' w' ho hwant hr' ht' => ?_)
          (rs.toList.drop i) i ⟨c.tmps, c.H⟩ (fun j => by rw [List.getElem?_drop, Array.getElem?_toList]) (by rw [hlen]; omega) h ρ a t w hr htop
        · rw [hlen] at key; exact key
        · exact exec_ok hS hzc hm hf n ff _ hs G E ρ' a' w' hG1 hG2 hr' b t' fs (hwf a' t' ht' hr'.defers)
        · -- a call is entered
          have hw' := hwf a' t' ht' hr'.defers
          have hnd := defer_ne hc.1 ho
          rw [Bool.cond_eq_ite] at hen
          split at hen
          · cases hen
            exact htr G E ρ' a' w' hG1 hG2 hr' b t' fs hw'
          by_cases hcal : callee? o (evOf s.tmps) = none
          · rw [hcal] at hen
            simp only [Bool.cond_eq_ite] at hen
            split at hen
            · cases hen
              exact htr G E ρ' a' w' hG1 hG2 hr' b t' fs hw'
            · cases hen
          obtain ⟨⟨g, args⟩, hcall⟩ := Option.ne_none_iff_exists'.1 hcal
          rw [hcall] at hen
          simp only [] at hen
          obtain ⟨vf, us, hvf, hus, hcf, hcy⟩ := call_ev (P := P) hcall (e := a'.eval) (fun x _ => hr'.ev x)
          have hwant' : Region.wanted o (yielded rs t'.tmps) = true := by rw [(ht'.same hin ho).2]; exact hwant
          have hj : j < rs.size := (Array.getElem?_eq_some_iff.1 ho).1
          have hrange : List.range' j (rs.size - j) = j :: List.range' (j + 1) (rs.size - (j + 1)) := by
            rw [show rs.size - j = rs.size - (j + 1) + 1 from by omega, List.range'_succ]
          have hlens : s.tmps.length = a'.tmps.toList.length := hr'.dp.len
          have hcne : c.tmps.length = s.tmps.length := by
            obtain ⟨v0, k1, _, k3⟩ := ht'.sl
            obtain ⟨v0', k1', _, k3'⟩ := htop.sl
            rw [hlens, k1, hr.dp.len, k1', List.length_append, List.length_append, k3, k3']
          have hn' := hcn s hcne.symm
          obtain ⟨hnE, v0, rv, v2, Ds', E1, E2, e1, e2, hd, h3, h4⟩ := hw'
          obtain ⟨q0, q1, q2⟩ := top_len (c := { c with tmps := s.tmps, H := s.H }) hlens e1 hd h3 h4
          -- the frame waits
          have hwait : ∀ key, WfS f (⟨c.stk.f, c.n, c.stk.round, c.stk.marks, none, .inRegion rs (List.range' j (rs.size - j)) :: k, key⟩ :: c.stk.below) a'.tmps.toList E
              (b.atR t' (.inRegion rs (List.range' j (rs.size - j)) :: k) :: fs) := fun key =>
            ⟨v0, rv, v2, Ds', E1, E2, b, t', fs, [], [], _, by simpa using e1, by simpa using e2, rfl, q0.trans hn', hd, h3, h4, rfl, rfl, rfl⟩
          have push : ∀ (g' : FuncId) (cs : List AV) (vs : List Value), vf = .func (.func g') #[] vs.toArray → DenL ρ' s.look (Hot ρ' s.look G) w' cs vs →
              (pushFn P { c with tmps := s.tmps, H := s.H } g' (args ++ cs) ⟨c.stk.f, c.n, c.stk.round, c.stk.marks, none, .inRegion rs (List.range' j (rs.size - j)) :: k, (id, j)⟩ (fun c => exec P S fn stop inl n false c)).Holds K (Safe P f X K) →
              GoesM P f (Post X K) b t' (.inRegion rs (List.range' j (rs.size - j)) :: k) fs w' := by
            intro g' cs vs hv hcs htr
            obtain ⟨hcall', key⟩ := pushFn_goes (c := { c with tmps := s.tmps, H := s.H }) (us := us ++ vs) htr hgo hG1 hG2 hr' (DenL_append hus hcs) hnE (hwait _)
            refine GoesFr.steps (fun cs => .one ?_) key
            rw [hrange]
            refine op_enter ho hwant' hnd ?_ b k (fs ++ cs)
            rw [(ht'.same hin ho).1]
            exact hcf g' vs hv hcall'
          split at hen
          · rename_i g'
            rw [Bool.cond_eq_ite] at hen
            split at hen
            · cases hen
              exact push g' [] [] (fn0_den (DenS_of_V (by simp) hvf)) (DenL_nil.2 rfl) (by rw [List.append_nil]; exact htr)
            · cases hen
          · rename_i g' caps
            rw [Bool.cond_eq_ite] at hen
            split at hen
            · cases hen
              unfold DenV at hvf
              obtain ⟨vs, hv, hcaps⟩ := hvf
              exact push g' caps vs hv hcaps htr
            · cases hen
          · rename_i y
            cases hen
            have hvs1 : a'.tmps.toList.drop (Cfg.n { c with tmps := s.tmps, H := s.H } + c.stk.extra) = v2 := q2
            obtain ⟨l, r, hv, hheap, hlen', key⟩ := pushRd_goes (c := { c with tmps := s.tmps, H := s.H }) (us := us) htr hgo hG1 hG2 hr' hus hnE (hwait _) e2 hvs1 h4 hvf
            refine GoesFr.steps (fun cs => .one ?_) key
            rw [hrange]
            refine op_round ho hwant' hnd ?_ b k (fs ++ cs)
            rw [(ht'.same hin ho).1]
            exact hcy l hv r hheap hlen'
          · cases hen
      · exact h.elim
    unfold exec at h
    simp only [] at h
    split at h
    · -- the end
      rename_i htd
      rw [htd]
      rw [Bool.cond_eq_ite] at h
      split at h
      · rename_i hround
        exact endRd_goes hround h hgo hG1 hG2 hr hw (fun l w' c0 cs h1 h2 h3 => stepR_round_end h1 h2 h3)
      · rename_i hround
        exact hback [] (.inl rfl) (by simpa using hround) h
    · rename_i k htd
      rw [htd]
      rw [Bool.cond_eq_ite] at h
      split at h
      · rename_i hround
        exact endRd_goes hround h hgo hG1 hG2 hr hw (fun l w' c0 cs h1 h2 h3 => stepR_round_ret h1 h2 h3)
      · rename_i hround
        exact hback _ (.inr ⟨k, rfl⟩) (by simpa using hround) h
    · rename_i k htd
      rw [htd]
      exact GoesM.step (fun _ => stepR_skip) (hto _ h)
    · rename_i k l htd
      rw [htd]
      exact GoesM.step (fun _ => stepR_label) (hto _ h)
    · rename_i k htd
      rw [htd]
      exact GoesM.step (fun _ => stepR_inBlock) (hto _ h)
    · rename_i k htd
      rw [htd]
      exact GoesM.step (fun _ => step_lone_go (by simp [stepG, stepG.exec, Frame.atR])) (hto _ h)
    · rename_i x y k htd
      rw [htd]
      exact GoesM.step (fun _ => stepR_seq) (hto _ h)
    · rename_i id body k htd
      rw [htd]
      exact GoesM.step (fun _ => stepR_block) (hto _ h)
    · rename_i body k htd
      rw [htd]
      exact GoesM.step (fun _ => step_lone_go (by simp [stepG, stepG.exec, Frame.atR])) (hto _ h)
    · rename_i id k htd
      rw [htd]
      split at h
      · rename_i k' hk'
        exact GoesM.step (fun _ => stepR_exit hk') (hto _ h)
      · rename_i hk'
        rw [Bool.cond_eq_ite] at h
        split at h
        · rename_i hround
          exact endRd_goes hround h hgo hG1 hG2 hr hw (fun l w' c0 cs h1 h2 h3 => stepR_round_exit h1 h2 hk' h3)
        · exact h.elim
    · rename_i j x y k htd
      rw [htd]
      rw [Bool.cond_eq_ite] at h
      split at h
      · rename_i hin0
        have hin : rest = [] ∨ j < c.n := or_in hin0 hplain blt_lt
        split at h
        · rename_i bb hb
          have hev : t.eval (.tmp j) = .bool bb := by
            rw [htop.bool hin]
            have h1 := blit_get hr hb
            rw [Array.getD_eq_getD_getElem?, h1]
            rfl
          refine GoesM.step (fun _ => stepR_cond hev) ?_
          have := hto _ h
          cases bb <;> exact this
        · rename_i bb hb
          have hr' : Rep (X.at G E) ρ ⟨c.tmps.set j (.s (.blit bb)), c.H⟩ a w := hr.refine hb bool_refine
          have hlt : j < c.tmps.length := by
            rcases Nat.lt_or_ge j c.tmps.length with h3 | h3
            · exact h3
            · rw [List.getD, List.getElem?_eq_none h3] at hb
              simp at hb
          have hev : t.eval (.tmp j) = .bool bb := by
            rw [htop.bool hin]
            have h1 := blit_get hr' (d := j) (b := bb) (by simp [List.getD, hlt])
            rw [Array.getD_eq_getD_getElem?, h1]
            rfl
          refine GoesM.step (fun _ => stepR_cond hev) ?_
          obtain ⟨h1, h2⟩ := h
          cases bb
          · exact exec_ok hS hzc hm hf n _ _ (h2 rfl) G E ρ a w hG1 hG2 hr' b t fs hw
          · exact exec_ok hS hzc hm hf n _ _ (h1 rfl) G E ρ a w hG1 hG2 hr' b t fs hw
        · rename_i n0 eq hb
          have hlt : j < c.tmps.length := by
            rcases Nat.lt_or_ge j c.tmps.length with h3 | h3
            · exact h3
            · rw [List.getD, List.getElem?_eq_none h3] at hb
              simp at hb
          have hd0 := hr.den j
          rw [show (St.tmps ⟨c.tmps, c.H⟩).getD j (.s .junk) = _ from hb] at hd0
          obtain ⟨bb, hbv, hb0⟩ : ∃ bb, a.tmps.getD j undef = .bool bb ∧ (bb = eq → n0 = 0) := by
            have h2 := DenS_of_V (by simp) hd0
            generalize a.tmps.getD j undef = u at h2
            cases h2
            exact ⟨_, rfl, by assumption⟩
          have hr' : Rep (X.at G E) ρ ⟨c.tmps.set j (.s (.blit bb)), c.H⟩ a w := hr.refine1 hb (by rw [hbv]; exact DenV_s (.blit bb))
          have hev : t.eval (.tmp j) = .bool bb := by rw [htop.bool hin, hbv]
          refine GoesM.step (fun _ => stepR_cond hev) ?_
          obtain ⟨h1, h2⟩ := h
          cases bb
          · exact exec_ok hS hzc hm hf n _ _ (h2 (by cases eq <;> first | exact hb0 rfl | trivial)) G E ρ a w hG1 hG2 hr' b t fs hw
          · exact exec_ok hS hzc hm hf n _ _ (h1 (by cases eq <;> first | exact hb0 rfl | trivial)) G E ρ a w hG1 hG2 hr' b t fs hw
        · exact h.elim
      · exact h.elim
    · rename_i id rs draw k htd
      rw [htd]
      rw [Bool.cond_eq_ite] at h
      split at h
      · have := h G E ρ a w hG1 hG2 hr b t fs hw
        rwa [htd] at this
      cases draw
      · simp only [cond_false] at h
        have key := hops false id rs 0 k (Nat.zero_le _) h
        refine GoesM.step (fun _ => stepR_region) ?_
        rw [List.range_eq_range']
        simpa using key
      · simp only [cond_true] at h
        rw [Bool.cond_eq_ite] at h
        split at h
        · rename_i hso
          simp only [Bool.and_eq_true] at hso
          obtain ⟨⟨⟨hso1, hso2⟩, hnd⟩, hsl⟩ := hso
          have hin : InTop c.n rest rs := or_in hsl hplain (fun x => x)
          rw [Bool.cond_eq_ite] at h
          split at h
          · rename_i hcc
            simp only [Bool.and_eq_true] at hcc
            obtain ⟨hlt, hcut⟩ := hcc
            have hlt := blt_lt hlt
            have hany := runOps_cut (j0 := cutAt rs) (Nat.le_of_lt hlt) hcut (X := X.at G E) (Q := fun a' w' => ∃ ρ' s' , (exec P S fn stop inl n false { c with tmps := s'.tmps, H := s'.H, todo := .inRegion rs (List.range' (cutAt rs) (rs.size - cutAt rs)) :: k, stk := { c.stk with rid := id } }).Holds K (Safe P f X K) ∧ Rep (X.at G E) ρ' s' a' w') hS (hzc.at G E) hso1 hso2 h (fun s' tr' hh => by
                rw [Bool.cond_eq_ite] at hh
                split at hh
                · rename_i hc; exact hc
                · exact hh.elim) (fun ρ' s' tr' a' w' hh hr' => by
                rw [Bool.cond_eq_ite] at hh
                split at hh
                · exact ⟨ρ', s', hh, hr'⟩
                · exact hh.elim) hr.drew
            have hsched := fun tt => wpC_sound (cutAt rs) tt _ a _ hany
            refine GoesM.step (fun _ => stepR_region_draw) ?_
            have hord : Region.schedule (P.follows .mixedOrders) rs (w.tape w.drawn (.order b.fn id)) = Region.linearise.go .any rs (cutAt rs) (w.tape w.drawn (.order b.fn id)) (Array.replicate rs.size false) [] ++ List.range' (cutAt rs) (rs.size - cutAt rs) := by
              simp only [Region.schedule, hm, Bool.true_or, if_true]
              exact schedule_split hso2 (Nat.le_of_lt hlt) hcut _
            rw [hord]
            have htop' := wpOps_top hin (fun e a w hq => hq.1) _ a t _ htop (hsched (w.tape w.drawn (.order b.fn id)))
            intro cs
            obtain ⟨a1, w1, ⟨_, a', ⟨_, ρ', s', hh, hr'⟩, ht'⟩, hsteps⟩ := ops_stepsZ hnd (fun e a w hq => hq.1) _ t _ htop' b k (fs ++ cs)
            have key := exec_ok hS hzc hm hf n false _ hh G E ρ' a' w1 hG1 hG2 hr' b a1 fs (hwf a' a1 ht' hr'.defers) cs
            obtain ⟨e, w2, fr, g1, g2, g3⟩ := key
            exact ⟨e, w2, fr, g1, Comes.of_steps hsteps g2, g3⟩
          · have hany := runOps_drawn (X := X.at G E) (Q := fun a' w' => ∃ ρ' s' , (exec P S fn stop inl n false { c with tmps := s'.tmps, H := s'.H, todo := k }).Holds K (Safe P f X K) ∧ Rep (X.at G E) ρ' s' a' w') hS (hzc.at G E) hso1 hso2 h (fun s' tr' hh => by
                rw [Bool.cond_eq_ite] at hh
                split at hh
                · rename_i hc; exact hc
                · exact hh.elim) (fun ρ' s' tr' a' w' hh hr' => by
                rw [Bool.cond_eq_ite] at hh
                split at hh
                · exact ⟨ρ', s', hh, hr'⟩
                · exact hh.elim) hr.drew
            have hsched : ∀ tt, wpOps P rs (fun e a' w' => e = .normal ∧ ∃ ρ' s' , (exec P S fn stop inl n false { c with tmps := s'.tmps, H := s'.H, todo := k }).Holds K (Safe P f X K) ∧ Rep (X.at G E) ρ' s' a' w') (Region.schedule (P.follows .mixedOrders) rs tt) a { w with drawn := w.drawn + 1 } := fun tt => by
              simp only [Region.schedule, hm, Bool.true_or, if_true]
              exact wpAny_sound rs.size tt _ a _ hany
            refine GoesM.step (fun _ => stepR_region_draw) ?_
            have htop' := wpOps_top hin (fun e a w hq => hq.1) _ a t _ htop (hsched (w.tape w.drawn (.order b.fn id)))
            intro cs
            obtain ⟨a1, w1, ⟨_, a', ⟨_, ρ', s', hh, hr'⟩, ht'⟩, hsteps⟩ := ops_steps hnd (fun e a w hq => hq.1) _ t _ htop' b k (fs ++ cs)
            have key := exec_ok hS hzc hm hf n false _ hh G E ρ' a' w1 hG1 hG2 hr' b a1 fs (hwf a' a1 ht' hr'.defers) cs
            obtain ⟨e, w2, fr, g1, g2, g3⟩ := key
            exact ⟨e, w2, fr, g1, Comes.of_steps hsteps g2, g3⟩
        · exact h.elim
    · rename_i rs todo k htd
      rw [htd]
      rw [Bool.cond_eq_ite] at h
      split at h
      · rename_i he
        simp only [Bool.and_eq_true] at he
        have hle : todo.length ≤ rs.size := Nat.le_of_ble_eq_true he.1
        have he : todo = List.range' (rs.size - todo.length) todo.length := by simpa using he.2
        have key := hops fst c.stk.rid rs (rs.size - todo.length) k (by omega) h
        rw [show rs.size - (rs.size - todo.length) = todo.length from by omega, ← he] at key
        exact key
      · exact h.elim
    · rename_i k htd
      rw [htd]
      rw [Bool.cond_eq_ite] at h
      split at h
      · rename_i hround
        split at h
        · rename_i id hid
          split at h
          · rename_i d L sl hf'
            exact beginRd_goes (y := (d, L, sl)) hround hid hf' (exec_ok hS hzc hm hf n _ _ h) hG1 hG2 hr hw
          · exact h.elim
        · exact h.elim
      · exact h.elim
    · rename_i j ps asg body k htd
      rw [htd]
      rw [Bool.cond_eq_ite] at h
      split at h
      · rename_i hin0
        have hin : rest = [] ∨ j < c.n := or_in hin0 hplain blt_lt
        split at h
        · rename_i g hg
          have hd0 := hr.den j
          rw [show (St.tmps ⟨c.tmps, c.H⟩).getD j (.s .junk) = _ from hg] at hd0
          have hv := fn0_den (DenS_of_V (by simp) hd0)
          exact pushLp_goes (g := .tmp j) (cvs := []) rfl h hgo hG1 hG2 hr hw (by rw [htop.bool hin, hv]) (DenL_nil.2 rfl)
        · rename_i g caps hg
          have hd0 := hr.den j
          rw [show (St.tmps ⟨c.tmps, c.H⟩).getD j (.s .junk) = _ from hg] at hd0
          unfold DenV at hd0
          obtain ⟨vs, hv, hcaps⟩ := hd0
          exact pushLp_goes (g := .tmp j) (cvs := vs) rfl h hgo hG1 hG2 hr hw (by rw [htop.bool hin, hv]) hcaps
        · exact h.elim
      · exact h.elim
    · rename_i body k htd
      rw [htd]
      rw [Bool.cond_eq_ite] at h
      split at h
      · exact GoesM.step (fun _ => stepR_loop) (exec_ok hS hzc hm hf n _ _ h G E ρ a w hG1 hG2 hr b t fs hw)
      · exact GoesM.step (fun _ => stepR_loop) (h G E ρ a w hG1 hG2 hr b t fs hw)
    · rename_i body k htd
      rw [htd]
      rw [Bool.cond_eq_ite] at h
      split at h
      · exact GoesM.step (fun _ => stepR_inLoop) (exec_ok hS hzc hm hf n _ _ h G E ρ a w hG1 hG2 hr b t fs hw)
      · exact GoesM.step (fun _ => stepR_inLoop) (h G E ρ a w hG1 hG2 hr b t fs hw)
    · exact h G E ρ a w hG1 hG2 hr b t fs hw

theorem Wf.base (f : FuncId) {a : Act} (h : a.defers = []) : Wf f {} a.tmps.toList [] { (default : Frame) with fn := f, kind := .normal, roundOf := none } a [] :=
  ⟨List.nodup_nil, a.tmps.toList, [], [], [], [], [], by simp, rfl, rfl, ⟨⟨none, rfl, rfl, rfl⟩, (Act.eta h).symm, rfl⟩, rfl, rfl, rfl⟩

theorem Safe.goes {f : FuncId} {c : Cfg} (h : Safe P f X K c) (hc : c.stk = {}) (hE : X.E = []) (hr : Rep X ρ ⟨c.tmps, c.H⟩ a w) : GoesM P f (Post X K) { (default : Frame) with fn := f, kind := .normal, roundOf := none } a c.todo [] w := by
  have e : X.at X.G [] = X := by
    obtain ⟨x1, x2, x3, x4, x5⟩ := X
    simp only at hE
    subst hE
    rfl
  exact h X.G [] ρ a w (fun _ h => h) (fun _ h => .inl h) (by rw [e]; exact hr) _ a [] (by rw [hc]; exact Wf.base f hr.defers)
end
end Go.Sx

/-! The same state, seen with other names for its own objects, and with less of it. -/
namespace Go.Sx
open Go

def allM {α β : Type} (f : α → Option β) : List α → Option (List β)
  | [] => some []
  | a :: azs => match f a, allM f azs with
    | some b, some bs => some (b :: bs)
    | _, _ => none

/-- A literal is an answer like any other one. -/
def rnS : SV → SV
  | .ilit k n => .int k n
  | .blit b => .bool b
  | x => x

def rn (g : Nat → Option Nat) : Nat → AV → Option AV
  | 0, _ => none
  | d + 1, a =>
    match a with
    | .s x => some (.s (rnS x))
    | .ptr id off => (g id).map fun j => .ptr j off
    | .ptrx id off n i => (g id).map fun j => .ptrx j off n i
    | .eptr c m j => some (.eptr c m j)
    | .vec id => (g id).map fun j => .vec j
    | .vptr id i j => (g id).map fun l => .vptr l i j
    | .part id lo n => (g id).map fun l => .part l lo n
    | .sub id off n => (g id).map fun l => .sub l off n
    | .subv id i j n => (g id).map fun l => .subv l i j n
    | .emp => some .emp
    | .agg segs => (allM (rn g d) segs).map .agg
    | .ints k n ws => some (.ints k n ws)
    | .tup vs => (allM (rn g d) vs).map .tup
    | .fn f caps => (allM (rn g d) caps).map (.fn f)
    | .fnb f caps => (allM (rn g d) caps).map (.fnb f)
    | .mapv id => (g id).map fun j => .mapv j
    | .tag id => (g id).map fun j => .tag j

def rnO (g : Nat → Option Nat) : AObj → Option AObj
  | .own segs e => (allM (rn g 20) segs).map fun s => .own s e
  | .vec c e => some (.vec c e)
  | .map ck m => some (.map ck m)
  | .mapb ck m gid => match g gid with
    | some j => some (.mapb ck m j)
    | none => some (.map ck m)
  | .iter mid gid ck left cur => match g mid, g gid with
    | some i, some j => some (.iter i j ck left cur)
    | _, _ => none
  | .dead => some .dead

structure Emb (g : Nat → Option Nat) (ρ : Nat → Value) (H : AHeap) (O : Nat → Prop) (ρ' : Nat → Value) (H' : AHeap) (O' : Nat → Prop) : Prop where
  id : ∀ i j, g i = some j → ρ' j = ρ i ∧ ∀ o, H i = some o → ∃ o', H' j = some o' ∧ ∀ c e, o' = .vec c e → o = .vec c e
  hot : ∀ b, O' b → O b

section
variable {g : Nat → Option Nat} {ρ ρ' : Nat → Value} {H H' : AHeap} {G O O' : Nat → Prop} {w w' : World} {P : Program} {S : SummB} {Z : Glob} {X : Ctx} {s : St} {a : Act} {K : List AObj → AV → Prop} {C : Cfg → Prop}

theorem allM_cons {α β : Type} {f : α → Option β} {a : α} {azs : List α} {l : List β} (h : allM f (a :: azs) = some l) : ∃ b bs, f a = some b ∧ allM f azs = some bs ∧ l = b :: bs := by
  unfold allM at h
  split at h
  · rename_i b bs h1 h2
    simp only [Option.some.injEq] at h
    exact ⟨b, bs, h1, h2, h.symm⟩
  · cases h

theorem allM_length {α β : Type} {f : α → Option β} : ∀ {azs : List α} {l : List β}, allM f azs = some l → l.length = azs.length
  | [], l, h => by simp only [allM, Option.some.injEq] at h; subst h; rfl
  | a :: azs, l, h => by
    obtain ⟨b, bs, _, h2, rfl⟩ := allM_cons h
    simp [allM_length h2]

theorem allM_get {α β : Type} {f : α → Option β} : ∀ {azs : List α} {l : List β}, allM f azs = some l → ∀ (i : Nat) (a : α), azs[i]? = some a → ∃ b, f a = some b ∧ l[i]? = some b
  | [], l, h, i, a, hi => by simp at hi
  | a :: azs, l, h, i, x, hi => by
    obtain ⟨b, bs, h1, h2, rfl⟩ := allM_cons h
    cases i with
    | zero => simp only [List.getElem?_cons_zero, Option.some.injEq] at hi; subst hi; exact ⟨b, h1, rfl⟩
    | succ i => simpa using allM_get h2 i x (by simpa using hi)

theorem DenS.less (hot : ∀ b, O' b → O b) {x : SV} {v : Value} (h : DenS O w x v) : DenS O' w x v :=
  h.step (fun b hb => .inl (hot b hb)) (fun _ _ _ => rfl) (Nat.le_refl _)

theorem DenS.rnS {x : SV} {v : Value} (h : DenS O w x v) : DenS O w (rnS x) v := by
  cases h <;> first
    | exact DenS.int _ _
    | exact DenS.bool _
    | (refine DenS.ro _ _ _ _ _ _ ?_ ?_ ?_ ?_ ?_ <;> assumption)
    | (constructor <;> assumption)
    | constructor

theorem DenV_s_rn (hot : ∀ b, O' b → O b) {x : SV} {v : Value} (h : DenV ρ H O w (.s x) v) : DenV ρ' H' O' w (.s (Sx.rnS x)) v := by
  by_cases hx : x = .junk
  · subst hx; unfold DenV; trivial
  · have h1 := DenS_of_V hx h
    exact DenV_s (h1.less hot).rnS

theorem rn_den (E : Emb g ρ H O ρ' H' O') : ∀ (d : Nat),
    (∀ a a' v, rn g d a = some a' → DenV ρ H O w a v → DenV ρ' H' O' w a' v) ∧ (∀ a a' cs, rn g d a = some a' → DenC ρ H O w a cs → DenC ρ' H' O' w a' cs) := by
  have isSome : ∀ {i j : Nat}, g i = some j → (H i).isSome = true → (H' j).isSome = true := by
    intro i j hg hi
    obtain ⟨o, ho⟩ := Option.isSome_iff_exists.1 hi
    obtain ⟨o', ho', _⟩ := (E.id i j hg).2 o ho
    rw [ho']; rfl
  have vec1 : ∀ {i j : Nat} {v : Value}, g i = some j → Den1 ρ H O w (.vec i) v → Den1 ρ' H' O' w (.vec j) v := by
    intro i j v hg h
    unfold Den1 at *
    obtain ⟨h0, o, ho, h1⟩ := h
    obtain ⟨hr, h2⟩ := E.id i j hg
    obtain ⟨o', ho', h3⟩ := h2 o ho
    exact ⟨h0, o', ho', fun c e hc => by rw [hr]; exact h1 c e (h3 c e hc)⟩
  have vptr1 : ∀ {i j : Nat} {v : Value} {m n : Nat}, g i = some j → Den1 ρ H O w (.vptr i m n) v → Den1 ρ' H' O' w (.vptr j m n) v := by
    intro i j v m n hg h
    unfold Den1 at *
    obtain ⟨h0, o, ho, h1⟩ := h
    obtain ⟨hr, h2⟩ := E.id i j hg
    obtain ⟨o', ho', h3⟩ := h2 o ho
    exact ⟨h0, o', ho', fun c e hc => by rw [hr]; exact h1 c e (h3 c e hc)⟩
  have part1 : ∀ {i j : Nat} {v : Value} {m n : Nat}, g i = some j → Den1 ρ H O w (.part i m n) v → Den1 ρ' H' O' w (.part j m n) v := by
    intro i j v m n hg h
    unfold Den1 at *
    obtain ⟨h0, o, ho, h1⟩ := h
    obtain ⟨hr, h2⟩ := E.id i j hg
    obtain ⟨o', ho', h3⟩ := h2 o ho
    exact ⟨h0, o', ho', fun c e hc => by rw [hr]; exact h1 c e (h3 c e hc)⟩
  have sub1 : ∀ {i j : Nat} {v : Value} {m n : Nat}, g i = some j → Den1 ρ H O w (.sub i m n) v → Den1 ρ' H' O' w (.sub j m n) v := by
    intro i j v m n hg h
    unfold Den1 at *
    obtain ⟨h0, b, a, cap, h1, h2, h4, h3⟩ := h
    exact ⟨h0, b, a, cap, by rw [(E.id i j hg).1, h1], h2, h4, isSome hg h3⟩
  have subv1 : ∀ {i j : Nat} {v : Value} {m n l : Nat}, g i = some j → Den1 ρ H O w (.subv i m n l) v → Den1 ρ' H' O' w (.subv j m n l) v := by
    intro i j v m n l hg h
    unfold Den1 at *
    obtain ⟨h0, o, ho, h1⟩ := h
    obtain ⟨hr, h2⟩ := E.id i j hg
    obtain ⟨o', ho', h3⟩ := h2 o ho
    exact ⟨h0, o', ho', fun c e hc => by rw [hr]; exact h1 c e (h3 c e hc)⟩
  have ptr1 : ∀ {i j : Nat} {v : Value} {off : Nat}, g i = some j → Den1 ρ H O w (.ptr i off) v → Den1 ρ' H' O' w (.ptr j off) v := by
    intro i j v off hg h
    unfold Den1 at *
    obtain ⟨b, h1, h2, h3⟩ := h
    exact ⟨b, by rw [(E.id i j hg).1, h1], h2, isSome hg h3⟩
  have map1 : ∀ {i j : Nat} {v : Value}, g i = some j → Den1 ρ H O w (.mapv i) v → Den1 ρ' H' O' w (.mapv j) v := by
    intro i j v hg h
    unfold Den1 at *
    obtain ⟨b, h1, h2, h3⟩ := h
    exact ⟨b, by rw [(E.id i j hg).1, h1], h2, isSome hg h3⟩
  have tag1 : ∀ {i j : Nat} {v : Value}, g i = some j → Den1 ρ H O w (.tag i) v → Den1 ρ' H' O' w (.tag j) v := by
    intro i j v hg h
    unfold Den1 at *
    obtain ⟨h1, h2, h3⟩ := h
    exact ⟨by rw [(E.id i j hg).1, h1], h2, isSome hg h3⟩
  have ptrx1 : ∀ {i j : Nat} {v : Value} {off n l : Nat}, g i = some j → Den1 ρ H O w (.ptrx i off n l) v → Den1 ρ' H' O' w (.ptrx j off n l) v := by
    intro i j v off n l hg h
    unfold Den1 at *
    obtain ⟨h0, b, h1, h2, h3⟩ := h
    exact ⟨h0, b, by rw [(E.id i j hg).1, h1], h2, isSome hg h3⟩
  have eptr1 : ∀ {c : Con} {m j : Nat} {v : Value}, Den1 ρ H O w (.eptr c m j) v → Den1 ρ' H' O' w (.eptr c m j) v := by
    intro c m j v h
    unfold Den1 at *
    obtain ⟨b, o, us, h1, h2, h3, h4⟩ := h
    exact ⟨b, o, us, h1, fun h5 => h2 (E.hot b h5), h3, fun i hi => ⟨(h4 i hi).1, (h4 i hi).2.less E.hot⟩⟩
  intro d
  induction d with
  | zero => exact ⟨fun a a' v h => by simp [rn] at h, fun a a' cs h => by simp [rn] at h⟩
  | succ d ih =>
    have lst : ∀ (azs azs' : List AV) (vs : List Value), allM (rn g d) azs = some azs' → DenL ρ H O w azs vs → DenL ρ' H' O' w azs' vs := by
      intro azs
      induction azs with
      | nil => intro azs' vs h hd; simp only [allM, Option.some.injEq] at h; subst h; rw [DenL_nil.1 hd]; exact DenL_nil.2 rfl
      | cons a azs ihl =>
        intro azs' vs h hd
        obtain ⟨b, bs, h1, h2, rfl⟩ := allM_cons h
        obtain ⟨v, rest, rfl, h3, h4⟩ := DenL_cons.1 hd
        exact DenL_cons.2 ⟨v, rest, rfl, ih.1 a b v h1 h3, ihl bs rest h2 h4⟩
    have sgs : ∀ (azs azs' : List AV) (cs : List Value), allM (rn g d) azs = some azs' → DenSegs ρ H O w azs cs → DenSegs ρ' H' O' w azs' cs := by
      intro azs
      induction azs with
      | nil => intro azs' vs h hd; simp only [allM, Option.some.injEq] at h; subst h; rw [DenSegs_nil.1 hd]; exact DenSegs_nil.2 rfl
      | cons a azs ihl =>
        intro azs' vs h hd
        obtain ⟨b, bs, h1, h2, rfl⟩ := allM_cons h
        obtain ⟨c1, c2, rfl, h3, h4⟩ := DenSegs_cons.1 hd
        exact DenSegs_cons.2 ⟨c1, c2, rfl, ih.2 a b c1 h1 h3, ihl bs c2 h2 h4⟩
    refine ⟨fun a a' v h hd => ?_, fun a a' cs h hd => ?_⟩
    · cases a <;> simp only [rn, Option.map_eq_some_iff, Option.some.injEq, reduceCtorEq] at h
      case s x => subst h; exact DenV_s_rn E.hot hd
      case ptr id off => obtain ⟨j, hg, rfl⟩ := h; unfold DenV at *; exact ptr1 hg hd
      case ptrx id off n i => obtain ⟨j, hg, rfl⟩ := h; unfold DenV at *; exact ptrx1 hg hd
      case eptr c m j => subst h; unfold DenV at *; exact eptr1 hd
      case vec id => obtain ⟨j, hg, rfl⟩ := h; unfold DenV at *; exact vec1 hg hd
      case vptr id i j => obtain ⟨l, hg, rfl⟩ := h; unfold DenV at *; exact vptr1 hg hd
      case part id lo n => obtain ⟨l, hg, rfl⟩ := h; unfold DenV at *; exact part1 hg hd
      case sub id off n => obtain ⟨l, hg, rfl⟩ := h; unfold DenV at *; exact sub1 hg hd
      case subv id i j n => obtain ⟨l, hg, rfl⟩ := h; unfold DenV at *; exact subv1 hg hd
      case emp => subst h; unfold DenV at *; exact hd
      case agg segs => obtain ⟨l, hl, rfl⟩ := h; unfold DenV at *; obtain ⟨cs, h1, h2⟩ := hd; exact ⟨cs, h1, sgs _ _ _ hl h2⟩
      case ints k n ws => subst h; unfold DenV at *; exact hd
      case tup vs => obtain ⟨l, hl, rfl⟩ := h; unfold DenV at *; obtain ⟨us, h1, h2⟩ := hd; exact ⟨us, h1, lst _ _ _ hl h2⟩
      case fn f caps => obtain ⟨l, hl, rfl⟩ := h; unfold DenV at *; obtain ⟨us, h1, h2⟩ := hd; exact ⟨us, h1, lst _ _ _ hl h2⟩
      case fnb f caps => obtain ⟨l, hl, rfl⟩ := h; unfold DenV at *; obtain ⟨us, h1, h2⟩ := hd; exact ⟨us, h1, lst _ _ _ hl h2⟩
      case mapv id => obtain ⟨j, hg, rfl⟩ := h; unfold DenV at *; exact map1 hg hd
      case tag id => obtain ⟨j, hg, rfl⟩ := h; unfold DenV at *; exact tag1 hg hd
    · cases a <;> simp only [rn, Option.map_eq_some_iff, Option.some.injEq, reduceCtorEq] at h
      case s x => subst h; unfold DenC at *; obtain ⟨u, h1, h2⟩ := hd; exact ⟨u, h1, (h2.less E.hot).rnS⟩
      case ptr id off => obtain ⟨j, hg, rfl⟩ := h; unfold DenC at *; obtain ⟨u, h1, h2⟩ := hd; exact ⟨u, h1, ptr1 hg h2⟩
      case ptrx id off n i => obtain ⟨j, hg, rfl⟩ := h; unfold DenC at *; obtain ⟨u, h1, h2⟩ := hd; exact ⟨u, h1, ptrx1 hg h2⟩
      case eptr c m j => subst h; unfold DenC at *; obtain ⟨u, h1, h2⟩ := hd; exact ⟨u, h1, eptr1 h2⟩
      case vec id => obtain ⟨j, hg, rfl⟩ := h; unfold DenC at *; obtain ⟨u, h1, h2⟩ := hd; exact ⟨u, h1, vec1 hg h2⟩
      case vptr id i j => obtain ⟨l, hg, rfl⟩ := h; unfold DenC at *; obtain ⟨u, h1, h2⟩ := hd; exact ⟨u, h1, vptr1 hg h2⟩
      case part id lo n => obtain ⟨l, hg, rfl⟩ := h; unfold DenC at *; obtain ⟨u, h1, h2⟩ := hd; exact ⟨u, h1, part1 hg h2⟩
      case sub id off n => obtain ⟨l, hg, rfl⟩ := h; unfold DenC at *; obtain ⟨u, h1, h2⟩ := hd; exact ⟨u, h1, sub1 hg h2⟩
      case subv id i j n => obtain ⟨l, hg, rfl⟩ := h; unfold DenC at *; obtain ⟨u, h1, h2⟩ := hd; exact ⟨u, h1, subv1 hg h2⟩
      case emp => subst h; unfold DenC at *; exact hd
      case agg segs => unfold DenC at hd; exact hd.elim
      case ints k n ws => subst h; unfold DenC at *; exact hd
      case tup vs => unfold DenC at hd; exact hd.elim
      case fn f caps => obtain ⟨l, hl, rfl⟩ := h; unfold DenC at *; obtain ⟨u, h1, us, h2, h3⟩ := hd; exact ⟨u, h1, us, h2, lst _ _ _ hl h3⟩
      case fnb f caps => obtain ⟨l, hl, rfl⟩ := h; unfold DenC at *; obtain ⟨u, h1, us, h2, h3⟩ := hd; exact ⟨u, h1, us, h2, lst _ _ _ hl h3⟩
      case mapv id => obtain ⟨j, hg, rfl⟩ := h; unfold DenC at *; obtain ⟨u, h1, h2⟩ := hd; exact ⟨u, h1, map1 hg h2⟩
      case tag id => obtain ⟨j, hg, rfl⟩ := h; unfold DenC at *; obtain ⟨u, h1, h2⟩ := hd; exact ⟨u, h1, tag1 hg h2⟩

theorem rnL_den (E : Emb g ρ H O ρ' H' O') {d : Nat} : ∀ {azs azs' : List AV} {vs : List Value}, allM (rn g d) azs = some azs' → DenL ρ H O w azs vs → DenL ρ' H' O' w azs' vs
  | [], azs', vs, h, hd => by simp only [allM, Option.some.injEq] at h; subst h; rw [DenL_nil.1 hd]; exact DenL_nil.2 rfl
  | a :: azs, azs', vs, h, hd => by
    obtain ⟨b, bs, h1, h2, rfl⟩ := allM_cons h
    obtain ⟨v, rest, rfl, h3, h4⟩ := DenL_cons.1 hd
    exact DenL_cons.2 ⟨v, rest, rfl, (rn_den E d).1 a b v h1 h3, rnL_den E h2 h4⟩

theorem rnSegs_den (E : Emb g ρ H O ρ' H' O') {d : Nat} : ∀ {azs azs' : List AV} {cs : List Value}, allM (rn g d) azs = some azs' → DenSegs ρ H O w azs cs → DenSegs ρ' H' O' w azs' cs
  | [], azs', vs, h, hd => by simp only [allM, Option.some.injEq] at h; subst h; rw [DenSegs_nil.1 hd]; exact DenSegs_nil.2 rfl
  | a :: azs, azs', vs, h, hd => by
    obtain ⟨b, bs, h1, h2, rfl⟩ := allM_cons h
    obtain ⟨c1, c2, rfl, h3, h4⟩ := DenSegs_cons.1 hd
    exact DenSegs_cons.2 ⟨c1, c2, rfl, (rn_den E d).2 a b c1 h1 h3, rnSegs_den E h2 h4⟩

theorem rnO_sat (E : Emb g ρ H O ρ' H' O') {o o' : AObj} {root : Value} (h : rnO g o = some o') (hs : ObjSat ρ H O w root o) : ObjSat ρ' H' O' w root o' := by
  cases o with
  | dead => simp only [rnO, Option.some.injEq] at h; subst h; trivial
  | map ck m => simp only [rnO, Option.some.injEq] at h; subst h; exact hs
  | mapb ck m gid =>
    obtain ⟨b, es, clock, h0, h1, h2, h3, h4⟩ := hs
    simp only [rnO] at h
    split at h
    · rename_i j hj
      simp only [Option.some.injEq] at h
      subst h
      obtain ⟨e1, e2⟩ := E.id _ _ hj
      obtain ⟨o, ho⟩ := Option.isSome_iff_exists.1 h4
      obtain ⟨o', ho', _⟩ := e2 o ho
      exact ⟨b, es, clock, h0, h1, h2, by rw [e1]; exact h3, by rw [ho']; rfl⟩
    · simp only [Option.some.injEq] at h
      subst h
      exact ⟨b, es, clock, h0, h1, h2⟩
  | iter mid gid ck left cur =>
    obtain ⟨b, mb, es, clock, seen, h0, h1, h2, h3, h4, h5, h6⟩ := hs
    simp only [rnO] at h
    split at h
    · rename_i i j hi hj
      simp only [Option.some.injEq] at h
      subst h
      obtain ⟨e1, e2⟩ := E.id _ _ hj
      obtain ⟨o, ho⟩ := Option.isSome_iff_exists.1 h4
      obtain ⟨o', ho', _⟩ := e2 o ho
      obtain ⟨e3, e4⟩ := E.id _ _ hi
      obtain ⟨p, hp⟩ := Option.isSome_iff_exists.1 h6
      obtain ⟨p', hp', _⟩ := e4 p hp
      exact ⟨b, mb, es, clock, seen, h0, h1, h2, by rw [e1]; exact h3, by rw [ho']; rfl, by rw [e3]; exact h5, by rw [hp']; rfl⟩
    · cases h
  | own segs e =>
    simp only [rnO, Option.map_eq_some_iff] at h
    obtain ⟨l, hl, rfl⟩ := h
    obtain ⟨b, cells, fr, h0, h1, h2, h3⟩ := hs
    exact ⟨b, cells, fr, h0, h1, h2, rnSegs_den E hl h3⟩
  | vec c e =>
    simp only [rnO, Option.some.injEq] at h
    subst h
    obtain ⟨r, cap, h0, h1, h2, h3⟩ := hs
    refine ⟨r, cap, h0, h1, h2, h3.imp id ?_⟩
    rintro ⟨b, f, cells, fr, us, h4, h5, h6, h7, h8⟩
    exact ⟨b, f, cells, fr, us, h4, h5, h6, h7, fun i j hi hj => ⟨(h8 i j hi hj).1, (h8 i j hi hj).2.less E.hot⟩⟩

theorem rnO_alive {o o' : AObj} (h : rnO g o = some o') : o'.alive = o.alive ∧ ∀ c e, o' = .vec c e → o = .vec c e := by
  cases o with
  | dead => simp only [rnO, Option.some.injEq] at h; subst h; exact ⟨rfl, fun c e hc => by cases hc⟩
  | map ck m => simp only [rnO, Option.some.injEq] at h; subst h; exact ⟨rfl, fun c e hc => by cases hc⟩
  | mapb ck m gid =>
    simp only [rnO] at h
    split at h <;> simp only [Option.some.injEq] at h <;> subst h <;> exact ⟨rfl, fun c e hc => by cases hc⟩
  | iter mid gid ck left cur =>
    simp only [rnO] at h
    split at h
    · simp only [Option.some.injEq] at h; subst h; exact ⟨rfl, fun c e hc => by cases hc⟩
    · cases h
  | own segs e =>
    simp only [rnO, Option.map_eq_some_iff] at h
    obtain ⟨l, hl, rfl⟩ := h
    exact ⟨rfl, fun c e hc => by cases hc⟩
  | vec c e => simp only [rnO, Option.some.injEq] at h; subst h; exact ⟨rfl, fun c e hc => hc⟩

def idxF : List Nat → Nat → Nat → Option Nat
  | [], _, _ => none
  | x :: xs, k, id => bif x.beq id then some k else idxF xs (k + 1) id
def idx (σ : List Nat) (id : Nat) : Option Nat := idxF σ 0 id

def viewH (σ : List Nat) (L : List AObj) : Option (List AObj) := allM (fun id => match L[id]? with | some o => rnO (idx σ) o | none => none) σ

def nodupB : List Nat → Bool
  | [] => true
  | x :: xs => !(xs.any (x.beq ·)) && nodupB xs

theorem idxF_spec : ∀ {σ : List Nat} {k id j : Nat}, idxF σ k id = some j → k ≤ j ∧ σ[j - k]? = some id
  | [], k, id, j, h => by simp [idxF] at h
  | x :: xs, k, id, j, h => by
    simp only [idxF, Bool.cond_eq_ite] at h
    split at h
    · rename_i hx
      obtain rfl : x = id := Nat.eq_of_beq_eq_true hx
      obtain rfl : k = j := by simpa using h
      exact ⟨Nat.le_refl _, by simp⟩
    · obtain ⟨h1, h2⟩ := idxF_spec h
      refine ⟨by omega, ?_⟩
      rw [show j - k = (j - (k + 1)) + 1 from by omega]
      simpa using h2

theorem idx_spec {σ : List Nat} {id j : Nat} (h : idx σ id = some j) : σ[j]? = some id := by simpa using (idxF_spec h).2

theorem nodupB_spec : ∀ {σ : List Nat}, nodupB σ = true → σ.Nodup
  | [], _ => .nil
  | x :: xs, h => by
    simp only [nodupB, Bool.and_eq_true, Bool.not_eq_true', List.any_eq_false] at h
    refine List.nodup_cons.2 ⟨fun hm => ?_, nodupB_spec h.2⟩
    have := h.1 x hm
    simp at this

theorem viewH_get {σ : List Nat} {L L' : List AObj} (h : viewH σ L = some L') {j : Nat} {o' : AObj} (hj : L'[j]? = some o') : ∃ (id : Nat) (o : AObj), σ[j]? = some id ∧ L[id]? = some o ∧ rnO (idx σ) o = some o' := by
  have hlen := allM_length h
  have hlt : j < σ.length := by rw [← hlen]; exact (List.getElem?_eq_some_iff.1 hj).1
  obtain ⟨b, h1, h2⟩ := allM_get h j σ[j] (List.getElem?_eq_getElem hlt)
  rw [hj] at h2
  simp only [Option.some.injEq] at h2
  subst h2
  split at h1
  · rename_i o ho
    exact ⟨σ[j], o, List.getElem?_eq_getElem hlt, ho, h1⟩
  · cases h1

theorem viewH_of {σ : List Nat} {L L' : List AObj} (h : viewH σ L = some L') {j id : Nat} (hj : σ[j]? = some id) : ∃ o o', L[id]? = some o ∧ rnO (idx σ) o = some o' ∧ L'[j]? = some o' := by
  obtain ⟨b, h1, h2⟩ := allM_get h j id hj
  split at h1
  · rename_i o ho
    exact ⟨o, b, ho, h1, h2⟩
  · cases h1

def pull (σ : List Nat) (ρ : Nat → Value) : Nat → Value := fun j => ρ (σ.getD j 0)

theorem view_own {σ : List Nat} {L L' : List AObj} (hv : viewH σ L = some L') {b : Nat} (h : Own (pull σ ρ) (fun j => L'[j]?) b) : ∃ (j id : Nat) (o : AObj), σ[j]? = some id ∧ L[id]? = some o ∧ o.alive = true ∧ blk (ρ id) = some b := by
  obtain ⟨j, o', ho', ha, hb⟩ := h
  obtain ⟨id, o, h1, h2, h3⟩ := viewH_get hv ho'
  have : pull σ ρ j = ρ id := by simp [pull, List.getD, h1]
  rw [this] at hb
  exact ⟨j, id, o, h1, h2, by rw [← (rnO_alive h3).1]; exact ha, hb⟩

theorem view_core {σ : List Nat} {L L' : List AObj} {G' : Nat → Prop} (hs : Sat ρ (fun i => L[i]?) G w) (hn : σ.Nodup) (hv : viewH σ L = some L') (hG : ∀ b, G' b → Hot ρ (fun i => L[i]?) G b) (hap : ∀ b, Own (pull σ ρ) (fun j => L'[j]?) b → ¬ G' b) :
    Sat (pull σ ρ) (fun j => L'[j]?) G' w ∧ Emb (idx σ) ρ (fun i => L[i]?) (Hot ρ (fun i => L[i]?) G) (pull σ ρ) (fun j => L'[j]?) (Hot (pull σ ρ) (fun j => L'[j]?) G') := by
  have hpull : ∀ {j id : Nat}, σ[j]? = some id → pull σ ρ j = ρ id := fun h1 => by simp [pull, List.getD, h1]
  have E : Emb (idx σ) ρ (fun i => L[i]?) (Hot ρ (fun i => L[i]?) G) (pull σ ρ) (fun j => L'[j]?) (Hot (pull σ ρ) (fun j => L'[j]?) G') := by
    refine ⟨fun i j hij => ?_, fun b hb => ?_⟩
    · have h1 := idx_spec hij
      refine ⟨hpull h1, fun o ho => ?_⟩
      obtain ⟨o1, o', h2, h3, h4⟩ := viewH_of hv h1
      rw [show L[i]? = some o from ho] at h2
      simp only [Option.some.injEq] at h2
      subst h2
      exact ⟨o', h4, (rnO_alive h3).2⟩
    · rcases hb with hb | hb
      · obtain ⟨j, id, o, h1, h2, h3, h4⟩ := view_own hv hb
        exact .inl ⟨id, o, h2, h3, h4⟩
      · exact hG b hb
  refine ⟨⟨fun j o' ho' => ?_, fun i j oi oj b hi hj ai aj bi bj => ?_, hap, fun b hb => hot_lt hs (hG b hb)⟩, E⟩
  · obtain ⟨id, o, h1, h2, h3⟩ := viewH_get hv ho'
    rw [hpull h1]
    exact rnO_sat E h3 (hs.obj id o h2)
  · obtain ⟨id, o, h1, h2, h3⟩ := viewH_get hv hi
    obtain ⟨id', o', h1', h2', h3'⟩ := viewH_get hv hj
    rw [hpull h1] at bi
    rw [hpull h1'] at bj
    have := hs.inj id id' o o' b h2 h2' (by rw [← (rnO_alive h3).1]; exact ai) (by rw [← (rnO_alive h3').1]; exact aj) bi bj
    subst this
    have hi' := List.getElem?_eq_some_iff.1 h1
    have hj' := List.getElem?_eq_some_iff.1 h1'
    obtain ⟨hi1, hi2⟩ := hi'
    obtain ⟨hj1, hj2⟩ := hj'
    exact (List.getElem_inj hn).1 (hi2.trans hj2.symm)

theorem view_step {σ : List Nat} {L L' : List AObj} {ρ0 : Nat → Value} {H0 : AHeap} {O0 : Nat → Prop} {w0 : World} {m : Nat} (hs : Sat ρ (fun i => L[i]?) G w) (hn : σ.Nodup) (hv : viewH σ L = some L') (hfix : ∀ i, i < m → σ[i]? = some i) (h0 : ∀ id, m ≤ id → H0 id = none)
    (st : Step ρ0 H0 O0 w0 ρ (fun i => L[i]?) (Hot ρ (fun i => L[i]?) G) w) : Step ρ0 H0 O0 w0 (pull σ ρ) (fun j => L'[j]?) (Hot (pull σ ρ) (fun j => L'[j]?) G) w := by
  have E := (view_core (G' := G) hs hn hv (fun b hb => .inr hb) (fun b hb => by
    obtain ⟨j, id, o, h1, h2, h3, h4⟩ := view_own hv hb
    exact hs.apart b ⟨id, o, h2, h3, h4⟩)).2
  have hlt : ∀ {id : Nat} {o : AObj}, H0 id = some o → id < m := fun {id o} h => by
    rcases Nat.lt_or_ge id m with h1 | h1
    · exact h1
    · rw [h0 id h1] at h; cases h
  refine ⟨fun id o ho => ?_, fun id o ho => ?_, fun b hb => st.hot b (E.hot b hb), st.heap, st.size⟩
  · rw [show pull σ ρ id = ρ id from by simp [pull, List.getD, hfix id (hlt ho)]]
    exact st.rho id o ho
  · obtain ⟨o1, h1, h2⟩ := st.keep id o ho
    obtain ⟨o2, o', h3, h4, h5⟩ := viewH_of hv (hfix id (hlt ho))
    rw [show L[id]? = some o1 from h1] at h3
    simp only [Option.some.injEq] at h3
    subst h3
    exact ⟨o', h5, fun c e hc => h2 c e ((rnO_alive h4).2 c e hc)⟩

theorem Good.view {σ : List Nat} {L L' : List AObj} {m d : Nat} {r r' : AV} {v : Value} (h : Good ρ H G w (fun i => L[i]?) r v w') (hn : σ.Nodup) (hv : viewH σ L = some L') (hfix : ∀ i, i < m → σ[i]? = some i) (h0 : ∀ id, m ≤ id → H id = none) (hr : rn (idx σ) d r = some r') :
    Good ρ H G w (fun i => L'[i]?) r' v w' := by
  obtain ⟨ρ', h1, h2, h3, h4⟩ := h
  obtain ⟨h5, h6⟩ := view_core (G' := G) h1 hn hv (fun b hb => .inr hb) (fun b hb => by
    obtain ⟨j, id, o, h1', h2, h3, h4⟩ := view_own hv hb
    exact h1.apart b ⟨id, o, h2, h3, h4⟩)
  exact ⟨pull σ ρ', h5, (rn_den h6 d).1 r r' v hr h2, view_step h1 hn hv hfix h0 h3, h4⟩

theorem Rep.view {σ : List Nat} {tmps tmps' : List AV} {L L' : List AObj} {m d : Nat} (h : Rep X ρ ⟨tmps, L⟩ a w) (hn : σ.Nodup) (hv : viewH σ L = some L') (hfix : ∀ i, i < m → σ[i]? = some i) (h0 : ∀ id, m ≤ id → X.H id = none) (ht : allM (rn (idx σ) d) tmps = some tmps') :
    Rep X (pull σ ρ) ⟨tmps', L'⟩ a w := by
  have hs : Sat ρ (fun i => L[i]?) X.G w := h.sat
  obtain ⟨h5, h6⟩ := view_core (G' := X.G) hs hn hv (fun b hb => .inr hb) (fun b hb => by
    obtain ⟨j, id, o, h1', h2, h3, h4⟩ := view_own hv hb
    exact hs.apart b ⟨id, o, h2, h3, h4⟩)
  refine ⟨h5, by rw [← h.size]; exact allM_length ht, fun t => ?_, h.defers, view_step hs hn hv hfix h0 h.from_, h.frm, h.kept⟩
  have hd := h.den t
  simp only [] at hd ⊢
  rcases Nat.lt_or_ge t tmps.length with hlt | hge
  · obtain ⟨b, h1, h2⟩ := allM_get ht t tmps[t] (List.getElem?_eq_getElem hlt)
    have e1 : tmps.getD t (.s .junk) = tmps[t] := by simp [List.getD, hlt]
    have e2 : tmps'.getD t (.s .junk) = b := by simp [List.getD, h2]
    rw [e1] at hd
    rw [e2]
    exact (rn_den h6 d).1 _ _ _ h1 hd
  · have e2 : tmps'.getD t (.s .junk) = .s .junk := by
      have := allM_length ht
      simp [List.getD, List.getElem?_eq_none (show tmps'.length ≤ t by omega)]
    rw [e2]
    unfold DenV
    trivial

/-! ### less -/
def keepOnly (ks : List Nat) : Nat → List AV → List AV
  | _, [] => []
  | i, a :: azs => (bif ks.any (i.beq ·) then a else .s .junk) :: keepOnly ks (i + 1) azs

theorem keepOnly_length (ks : List Nat) : ∀ (i : Nat) (azs : List AV), (keepOnly ks i azs).length = azs.length
  | _, [] => rfl
  | i, a :: azs => by simp [keepOnly, keepOnly_length ks (i + 1) azs]

theorem keepOnly_get (ks : List Nat) : ∀ (i : Nat) (azs : List AV) (t : Nat), (keepOnly ks i azs).getD t (.s .junk) = azs.getD t (.s .junk) ∨ (keepOnly ks i azs).getD t (.s .junk) = .s .junk
  | _, [], t => .inl rfl
  | i, a :: azs, 0 => by
    simp only [keepOnly, List.getD_cons_zero]
    cases ks.any (i.beq ·)
    · exact .inr rfl
    · exact .inl rfl
  | i, a :: azs, t + 1 => by
    simp only [keepOnly, List.getD_cons_succ]
    exact keepOnly_get ks (i + 1) azs t

theorem Rep.keepOnly {tmps : List AV} {L : List AObj} (ks : List Nat) (h : Rep X ρ ⟨tmps, L⟩ a w) : Rep X ρ ⟨keepOnly ks 0 tmps, L⟩ a w := by
  refine ⟨h.sat, by rw [← h.size]; exact keepOnly_length ks 0 tmps, fun t => ?_, h.defers, h.from_, h.frm, h.kept⟩
  rcases keepOnly_get ks 0 tmps t with h1 | h1
  · simp only []; rw [h1]; exact h.den t
  · simp only []; rw [h1]; unfold DenV; trivial

/-! ### a nil slice, seen as a row of none -/
def nilSlot (c : Con) (e : TypeId) (t : Nat) (tmps : List AV) (L : List AObj) : List AV × List AObj :=
  match tmps.getD t (.s .junk) with
  | .emp => bif c.n.beq 0 then (tmps.set t (.vec L.length), L ++ [.vec c e]) else (tmps, L)
  | _ => (tmps, L)

theorem Step.alloc {v : Value} {c : Con} {e : TypeId} {L : List AObj} (hb : blk v = none) :
    Step ρ (fun i => L[i]?) (Hot ρ (fun i => L[i]?) G) w (fun j => if j = L.length then v else ρ j) (fun i => (L ++ [AObj.vec c e])[i]?) (Hot (fun j => if j = L.length then v else ρ j) (fun i => (L ++ [AObj.vec c e])[i]?) G) w := by
  have hlt : ∀ {id : Nat} {o : AObj}, L[id]? = some o → id < L.length := fun h => (List.getElem?_eq_some_iff.1 h).1
  refine ⟨fun id o ho => ?_, fun id o ho => ?_, fun b hb' => .inl ?_, fun _ _ _ => rfl, Nat.le_refl _⟩
  · have := hlt ho
    rw [if_neg (by omega)]
  · have h1 := hlt ho
    exact ⟨o, by show (L ++ [AObj.vec c e])[id]? = _; rw [List.getElem?_append_left h1]; exact ho, fun c' e' hc => ⟨c', e', hc, rfl, rfl⟩⟩
  · rcases hb' with ⟨id, o, ho, ha, hbl⟩ | hg
    · by_cases hid : id = L.length
      · simp only [hid, if_true] at hbl
        rw [hb] at hbl; cases hbl
      · simp only [hid, if_false] at hbl
        have ho' : L[id]? = some o := by
          have h2 := (List.getElem?_eq_some_iff.1 ho).1
          simp only [List.length_append, List.length_cons, List.length_nil] at h2
          have h3 : id < L.length := by omega
          have h4 : (L ++ [AObj.vec c e])[id]? = L[id]? := List.getElem?_append_left h3
          rw [← h4]; exact ho
        exact .inl ⟨id, o, ho', ha, hbl⟩
    · exact .inr hg

theorem Rep.nilSlot {c : Con} {e : TypeId} {t : Nat} {tmps : List AV} {L : List AObj} (h : Rep X ρ ⟨tmps, L⟩ a w) : ∃ ρ', Rep X ρ' ⟨(nilSlot c e t tmps L).1, (nilSlot c e t tmps L).2⟩ a w := by
  unfold Sx.nilSlot
  split
  · rename_i he
    rw [Bool.cond_eq_ite]
    split
    · rename_i hc
      have hc : c.n = 0 := Nat.eq_of_beq_eq_true hc
      have hd := h.den t
      simp only [] at hd
      rw [he] at hd
      unfold DenV at hd
      obtain ⟨r, hv⟩ := hd
      have hbk : blk (.slice r 0 0) = none := by cases r <;> simp [blk]
      let ρ' : Nat → Value := fun j => if j = L.length then .slice r 0 0 else ρ j
      have st : Step ρ (fun i => L[i]?) (Hot ρ (fun i => L[i]?) X.G) w ρ' (fun i => (L ++ [AObj.vec c e])[i]?) (Hot ρ' (fun i => (L ++ [AObj.vec c e])[i]?) X.G) w := Step.alloc hbk
      have hs : Sat ρ (fun i => L[i]?) X.G w := h.sat
      have old : ∀ {id : Nat} {o : AObj}, (L ++ [AObj.vec c e])[id]? = some o → (id = L.length ∧ o = .vec c e) ∨ (id ≠ L.length ∧ L[id]? = some o) := by
        intro id o ho
        have h2 := (List.getElem?_eq_some_iff.1 ho).1
        simp only [List.length_append, List.length_cons, List.length_nil] at h2
        by_cases hid : id = L.length
        · subst hid
          simp at ho
          exact .inl ⟨rfl, ho.symm⟩
        · refine .inr ⟨hid, ?_⟩
          rwa [List.getElem?_append_left (by omega)] at ho
      have hown : ∀ b, Own ρ' (fun i => (L ++ [AObj.vec c e])[i]?) b → Own ρ (fun i => L[i]?) b := by
        rintro b ⟨id, o, ho, ha, hb⟩
        rcases old ho with ⟨h1, h2⟩ | ⟨h1, h2⟩
        · simp only [ρ', h1, if_true] at hb
          rw [hbk] at hb; cases hb
        · simp only [ρ', h1, if_false] at hb
          exact ⟨id, o, h2, ha, hb⟩
      refine ⟨ρ', ⟨⟨fun id o ho => ?_, fun i j oi oj b hi hj ai aj bi bj => ?_, fun b hb => hs.apart b (hown b hb), hs.low⟩, by simpa using h.size, fun u => ?_, h.defers, ?_, h.frm, h.kept⟩⟩
      · rcases old ho with ⟨h1, h2⟩ | ⟨h1, h2⟩
        · subst h2
          simp only [ρ', h1, if_true]
          exact ⟨r, 0, by rw [hc], by omega, Nat.zero_le _, .inl rfl⟩
        · simp only [ρ', h1, if_false]
          exact (hs.obj id o h2).step st (fun _ _ _ => rfl)
      · rcases old hi with ⟨h1, h2⟩ | ⟨h1, h2⟩
        · simp only [ρ', h1, if_true] at bi
          rw [hbk] at bi; cases bi
        · rcases old hj with ⟨h3, h4⟩ | ⟨h3, h4⟩
          · simp only [ρ', h3, if_true] at bj
            rw [hbk] at bj; cases bj
          · simp only [ρ', h1, if_false] at bi
            simp only [ρ', h3, if_false] at bj
            exact hs.inj i j oi oj b h2 h4 ai aj bi bj
      · simp only []
        rw [getD_set_list]
        split
        · rename_i hu
          obtain ⟨rfl, _⟩ := hu
          rw [hv]
          unfold DenV Den1
          refine ⟨rfl, .vec c e, by simp [St.look], fun c' e' _ => ?_⟩
          exact (if_pos rfl).symm
        · exact DenV.step st _ _ (h.den u)
      · exact h.from_.trans st
    · exact ⟨ρ, h⟩
  · exact ⟨ρ, h⟩

/-! ### a loop's head, made alike -/
def idsOf : Nat → AV → List Nat
  | 0, _ => []
  | d + 1, a => match a with
    | .ptr id _ | .ptrx id _ _ _ | .vec id | .vptr id _ _ | .part id _ _ | .mapv id | .tag id | .sub id _ _ | .subv id _ _ _ => [id]
    | .agg azs | .tup azs | .fn _ azs | .fnb _ azs => azs.flatMap (idsOf d)
    | _ => []

def objIds : Option AObj → List Nat
  | some (.own segs _) => segs.flatMap (idsOf 20)
  | some (.iter mid gid _ _ _) => [mid, gid]
  | _ => []

def reach (L : List AObj) : Nat → List Nat → List Nat → List Nat
  | 0, _, acc => acc
  | _, [], acc => acc
  | n + 1, id :: todo, acc => bif acc.any (id.beq ·) then reach L n todo acc else reach L n (todo ++ objIds L[id]?) (acc ++ [id])

def fixB (m : Nat) (σ : List Nat) : Bool := (List.range m).all fun i => match σ[i]? with | some j => i.beq j | none => false

/-- How a loop's head is made alike: which slots are kept, which are rows though nil, how many objects the call was handed. -/
structure Norm where
  nils : List (Nat × Con × TypeId)
  keep : List Nat
  m : Nat
  cells : List (Nat × Nat × Bool × Con × TypeId)

def nilSlots : List (Nat × Con × TypeId) → List AV → List AObj → List AV × List AObj
  | [], tmps, L => (tmps, L)
  | (t, c, e) :: ns, tmps, L => let p := nilSlot c e t tmps L; nilSlots ns p.1 p.2

/-- A nil slice in an own object's cell. -/
def nilCell (id j : Nat) (c : Con) (e : TypeId) (L : List AObj) : List AObj :=
  match L[id]? with
  | some (.own segs e0) => (match segs[j]? with
    | some .emp => bif c.n.beq 0 then L.set id (.own (segs.set j (.vec L.length)) e0) ++ [.vec c e] else L
    | _ => L)
  | _ => L

/-- The same, seen as a row of none that stands still. -/
def roCell (id j : Nat) (c : Con) (L : List AObj) : List AObj :=
  match L[id]? with
  | some (.own segs e0) => (match segs[j]? with
    | some .emp => bif c.n.beq 0 then L.set id (.own (segs.set j (.s (.ro c))) e0) else L
    | _ => L)
  | _ => L

/-- An own row in an own object's cell, given up: it stands still. -/
def frzCell (id j : Nat) (L : List AObj) : List AObj :=
  match L[id]? with
  | some (.own segs e0) => (match segs[j]? with
    | some (.vec v) => (match L[v]? with
      | some (.vec c _) => (L.set v .dead).set id (.own (segs.set j (.s (.ro c))) e0)
      | _ => L)
    | _ => L)
  | _ => L

def nilCells : List (Nat × Nat × Bool × Con × TypeId) → List AObj → List AObj
  | [], L => L
  | (id, j, ro, c, e) :: ns, L => nilCells ns (bif ro then frzCell id j (roCell id j c L) else nilCell id j c e L)

def roots (L : List AObj) (m : Nat) (tmps : List AV) : List Nat :=
  reach L 4000 ((List.range m).flatMap (fun i => objIds L[i]?) ++ tmps.flatMap (idsOf 20)) (List.range m)

def compact (m : Nat) (tmps : List AV) (L : List AObj) : Option (List AV × List AObj) :=
  let σ := roots L m tmps
  bif nodupB σ && fixB m σ then
    match viewH σ L, allM (rn (idx σ) 20) tmps with
    | some L', some tmps' => some (tmps', L')
    | _, _ => none
  else none

def Norm.run (N : Norm) (c : Cfg) : Option Cfg :=
  match compact N.m (keepOnly N.keep 0 c.tmps) c.H with
  | some (t1, L1) =>
    let p := nilSlots N.nils t1 L1
    (match compact N.m p.1 (nilCells N.cells p.2) with
    | some (t2, L2) => some ⟨t2, L2, c.todo, c.stk⟩
    | none => none)
  | none => none

theorem segs_nil : ∀ (segs : List AV) (j : Nat) {cells : List Value}, segs[j]? = some .emp → DenSegs ρ H O w segs cells →
    ∃ r, ∀ (ρ' : Nat → Value) (H' : AHeap) (O' : Nat → Prop) (x : AV), (∀ a cs, DenC ρ H O w a cs → DenC ρ' H' O' w a cs) → DenC ρ' H' O' w x [.slice r 0 0] → DenSegs ρ' H' O' w (segs.set j x) cells
  | [], j, cells, h, hd => by simp at h
  | a :: azs, 0, cells, h, hd => by
    simp only [List.getElem?_cons_zero, Option.some.injEq] at h
    subst h
    obtain ⟨c1, c2, rfl, h1, h2⟩ := DenSegs_cons.1 hd
    unfold DenC at h1
    obtain ⟨u, rfl, r, rfl⟩ := h1
    refine ⟨r, fun ρ' H' O' x hs hx => ?_⟩
    simp only [List.set_cons_zero]
    refine DenSegs_cons.2 ⟨_, c2, rfl, hx, ?_⟩
    clear hd
    induction azs generalizing c2 with
    | nil => rw [DenSegs_nil.1 h2]; exact DenSegs_nil.2 rfl
    | cons b bs ih =>
      obtain ⟨d1, d2, rfl, h3, h4⟩ := DenSegs_cons.1 h2
      exact DenSegs_cons.2 ⟨d1, d2, rfl, hs _ _ h3, ih d2 h4⟩
  | a :: azs, j + 1, cells, h, hd => by
    obtain ⟨c1, c2, rfl, h1, h2⟩ := DenSegs_cons.1 hd
    obtain ⟨r, h3⟩ := segs_nil azs j (by simpa using h) h2
    refine ⟨r, fun ρ' H' O' x hs hx => ?_⟩
    simp only [List.set_cons_succ]
    exact DenSegs_cons.2 ⟨c1, c2, rfl, hs _ _ h1, h3 ρ' H' O' x hs hx⟩

theorem Rep.nilCell {id j : Nat} {c : Con} {e : TypeId} {tmps : List AV} {L : List AObj} (h : Rep X ρ ⟨tmps, L⟩ a w) : ∃ ρ', Rep X ρ' ⟨tmps, nilCell id j c e L⟩ a w := by
  unfold Sx.nilCell
  split
  · rename_i segs e0 hid
    split
    · rename_i hj
      rw [Bool.cond_eq_ite]
      split
      · rename_i hc
        have hc : c.n = 0 := Nat.eq_of_beq_eq_true hc
        have hs : Sat ρ (fun i => L[i]?) X.G w := h.sat
        obtain ⟨b, cells, fr, h0, h1, h2, h3⟩ := hs.obj id _ hid
        obtain ⟨r, hset⟩ := segs_nil segs j hj h3
        have hbk : blk (.slice r 0 0) = none := by cases r <;> simp [blk]
        have hlt : id < L.length := (List.getElem?_eq_some_iff.1 hid).1
        let ρ' : Nat → Value := fun k => if k = L.length then .slice r 0 0 else ρ k
        let L' := L.set id (.own (segs.set j (.vec L.length)) e0) ++ [AObj.vec c e]
        have old : ∀ {k : Nat} {o : AObj}, L'[k]? = some o → (k = L.length ∧ o = .vec c e) ∨ (k = id ∧ k ≠ L.length ∧ o = .own (segs.set j (.vec L.length)) e0) ∨ (k ≠ L.length ∧ k ≠ id ∧ L[k]? = some o) := by
          intro k o ho
          have h2 := (List.getElem?_eq_some_iff.1 ho).1
          simp only [L', List.length_append, List.length_set, List.length_cons, List.length_nil] at h2
          by_cases hk : k = L.length
          · subst hk
            simp only [L'] at ho
            rw [List.getElem?_append_right (by simp)] at ho
            simp at ho
            exact .inl ⟨rfl, ho.symm⟩
          · simp only [L'] at ho
            rw [List.getElem?_append_left (by simp; omega), List.getElem?_set] at ho
            split at ho
            · rename_i hki
              exact .inr (.inl ⟨hki.symm, hk, by simpa using ho.symm⟩)
            · rename_i hki
              exact .inr (.inr ⟨hk, Ne.symm hki, ho⟩)
        have new : ∀ {k : Nat} {o : AObj}, L[k]? = some o → ∃ o', L'[k]? = some o' ∧ (∀ c' e', o' = .vec c' e' → o = .vec c' e') := by
          intro k o ho
          have hk : k < L.length := (List.getElem?_eq_some_iff.1 ho).1
          by_cases hki : k = id
          · subst hki
            refine ⟨.own (segs.set j (.vec L.length)) e0, ?_, fun c' e' hc => by cases hc⟩
            simp only [L']
            rw [List.getElem?_append_left (by simpa using hk), List.getElem?_set_self hk]
          · refine ⟨o, ?_, fun c' e' hc => hc⟩
            simp only [L']
            rw [List.getElem?_append_left (by simpa using hk), List.getElem?_set_ne (Ne.symm hki)]
            exact ho
        have hown : ∀ b, Own ρ' (fun i => L'[i]?) b → Own ρ (fun i => L[i]?) b := by
          rintro b ⟨k, o, ho, ha, hb⟩
          rcases old ho with ⟨h1, h2⟩ | ⟨h1, h2, h3⟩ | ⟨h1, h2, h3⟩
          · simp only [ρ', h1, if_true] at hb
            rw [hbk] at hb; cases hb
          · simp only [ρ', h2, if_false] at hb
            exact ⟨id, _, hid, rfl, h1 ▸ hb⟩
          · simp only [ρ', h1, if_false] at hb
            exact ⟨k, o, h3, ha, hb⟩
        have st : Step ρ (fun i => L[i]?) (Hot ρ (fun i => L[i]?) X.G) w ρ' (fun i => L'[i]?) (Hot ρ' (fun i => L'[i]?) X.G) w := by
          refine ⟨fun k o ho => ?_, fun k o ho => ?_, fun b hb => .inl ?_, fun _ _ _ => rfl, Nat.le_refl _⟩
          · have hk : k < L.length := (List.getElem?_eq_some_iff.1 ho).1
            simp only [ρ']; rw [if_neg (by omega)]
          · obtain ⟨o', h4, h5⟩ := new ho
            exact ⟨o', h4, fun c' e' hc => ⟨c', e', h5 c' e' hc, rfl, rfl⟩⟩
          · rcases hb with hb | hb
            · exact .inl (hown b hb)
            · exact .inr hb
        have hnew : Den1 ρ' (fun i => L'[i]?) (Hot ρ' (fun i => L'[i]?) X.G) w (.vec L.length) (.slice r 0 0) := by
          unfold Den1
          refine ⟨rfl, .vec c e, ?_, fun c' e' _ => (if_pos rfl).symm⟩
          simp only [L']
          rw [List.getElem?_append_right (by simp)]
          simp
        refine ⟨ρ', ⟨⟨fun k o ho => ?_, fun i l oi ol b hi hl ai al bi bl => ?_, fun b hb => hs.apart b (hown b hb), hs.low⟩, h.size, fun u => DenV.step st _ _ (h.den u), h.defers, h.from_.trans st, h.frm, h.kept⟩⟩
        · rcases old ho with ⟨g1, g2⟩ | ⟨g1, g2, g3⟩ | ⟨g1, g2, g3⟩
          · subst g2
            simp only [ρ', g1, if_true]
            exact ⟨r, 0, by rw [hc], by omega, Nat.zero_le _, .inl rfl⟩
          · subst g3
            simp only [ρ', g2, if_false]
            rw [g1, h0]
            exact ⟨b, cells, fr, rfl, h1, h2, hset ρ' _ _ _ (fun a cs hd => DenC.step st a cs hd) (by unfold DenC; exact ⟨_, rfl, hnew⟩)⟩
          · simp only [ρ', g1, if_false]
            exact (hs.obj k o g3).step st (fun _ _ _ => rfl)
        · have low : ∀ {k : Nat} {o : AObj}, L'[k]? = some o → o.alive = true → blk (ρ' k) = some b → ∃ o2, L[k]? = some o2 ∧ o2.alive = true ∧ blk (ρ k) = some b := by
            intro k o ho ha hb
            rcases old ho with ⟨g1, g2⟩ | ⟨g1, g2, g3⟩ | ⟨g1, g2, g3⟩
            · simp only [ρ', g1, if_true] at hb
              rw [hbk] at hb; cases hb
            · simp only [ρ', g2, if_false] at hb
              exact ⟨_, g1 ▸ hid, rfl, hb⟩
            · simp only [ρ', g1, if_false] at hb
              exact ⟨o, g3, ha, hb⟩
          obtain ⟨o1, q1, q2, q3⟩ := low hi ai bi
          obtain ⟨o2, q4, q5, q6⟩ := low hl al bl
          exact hs.inj i l o1 o2 b q1 q4 q2 q5 q3 q6
      · exact ⟨ρ, h⟩
    · exact ⟨ρ, h⟩
  · exact ⟨ρ, h⟩

theorem emp_ro' {c : Con} (hc : c.n = 0) (r : Option Addr) : DenS O w (.ro c) (.slice r 0 0) := by
  have := DenS.ro (O := O) (w := w) c r 0 (fun _ _ => undef) 0 0 (by omega) (Nat.zero_le _) (fun h => by omega) (fun i j hi hj => by omega) (fun i j hi hj => by omega)
  rwa [hc] at this

theorem Rep.roCell {id j : Nat} {c : Con} {tmps : List AV} {L : List AObj} (h : Rep X ρ ⟨tmps, L⟩ a w) : Rep X ρ ⟨tmps, roCell id j c L⟩ a w := by
  unfold Sx.roCell
  split
  · rename_i segs e0 hid
    split
    · rename_i hj
      rw [Bool.cond_eq_ite]
      split
      · rename_i hc
        have hc : c.n = 0 := Nat.eq_of_beq_eq_true hc
        have hs : Sat ρ (fun i => L[i]?) X.G w := h.sat
        obtain ⟨b, cells, fr, h0, h1, h2, h3⟩ := hs.obj id _ hid
        obtain ⟨r, hset⟩ := segs_nil segs j hj h3
        have hlt : id < L.length := (List.getElem?_eq_some_iff.1 hid).1
        let L' := L.set id (.own (segs.set j (.s (.ro c))) e0)
        have old : ∀ {k : Nat} {o : AObj}, L'[k]? = some o → (k = id ∧ o = .own (segs.set j (.s (.ro c))) e0) ∨ (k ≠ id ∧ L[k]? = some o) := by
          intro k o ho
          simp only [L'] at ho
          rw [List.getElem?_set] at ho
          split at ho
          · rename_i hki
            exact .inl ⟨hki.symm, by simpa using ho.symm⟩
          · rename_i hki
            exact .inr ⟨Ne.symm hki, ho⟩
        have hown : ∀ b, Own ρ (fun i => L'[i]?) b → Own ρ (fun i => L[i]?) b := by
          rintro b ⟨k, o, ho, ha, hb⟩
          rcases old ho with ⟨h1, h2⟩ | ⟨h1, h2⟩
          · exact ⟨id, _, hid, rfl, h1 ▸ hb⟩
          · exact ⟨k, o, h2, ha, hb⟩
        have st : Step ρ (fun i => L[i]?) (Hot ρ (fun i => L[i]?) X.G) w ρ (fun i => L'[i]?) (Hot ρ (fun i => L'[i]?) X.G) w := by
          refine ⟨fun _ _ _ => rfl, fun k o ho => ?_, fun b hb => .inl ?_, fun _ _ _ => rfl, Nat.le_refl _⟩
          · by_cases hk : k = id
            · subst hk
              refine ⟨.own (segs.set j (.s (.ro c))) e0, ?_, fun c' e' hc => ?_⟩
              · show (L.set k _)[k]? = _
                rw [List.getElem?_set_self hlt]
              · cases hc
            · refine ⟨o, ?_, fun c' e' hc => ⟨c', e', hc, rfl, rfl⟩⟩
              show (L.set id _)[k]? = _
              rw [List.getElem?_set_ne (Ne.symm hk)]
              exact ho
          · rcases hb with hb | hb
            · exact .inl (hown b hb)
            · exact .inr hb
        refine ⟨⟨fun k o ho => ?_, fun i l oi ol b hi hl ai al bi bl => ?_, fun b hb => hs.apart b (hown b hb), hs.low⟩, h.size, fun u => DenV.step st _ _ (h.den u), h.defers, h.from_.trans st, h.frm, h.kept⟩
        · rcases old ho with ⟨g1, g2⟩ | ⟨g1, g2⟩
          · subst g2
            rw [g1, h0]
            exact ⟨b, cells, fr, rfl, h1, h2, hset ρ _ _ _ (fun a cs hd => DenC.step st a cs hd) (by unfold DenC; exact ⟨_, rfl, emp_ro' hc r⟩)⟩
          · exact (hs.obj k o g2).step st (fun _ _ _ => rfl)
        · have low : ∀ {k : Nat} {o : AObj}, L'[k]? = some o → o.alive = true → ∃ o2, L[k]? = some o2 ∧ o2.alive = true := by
            intro k o ho ha
            rcases old ho with ⟨g1, g2⟩ | ⟨g1, g2⟩
            · exact ⟨_, g1 ▸ hid, rfl⟩
            · exact ⟨o, g2, ha⟩
          obtain ⟨o1, q1, q2⟩ := low hi ai
          obtain ⟨o2, q4, q5⟩ := low hl al
          exact hs.inj i l o1 o2 b q1 q4 q2 q5 bi bl
      · exact h
    · exact h
  · exact h

theorem segs_set : ∀ (segs : List AV) (j : Nat) {cells : List Value} {a : AV}, segs[j]? = some a → DenSegs ρ H O w segs cells →
    ∃ cs, DenC ρ H O w a cs ∧ ∀ (ρ' : Nat → Value) (H' : AHeap) (O' : Nat → Prop) (x : AV), (∀ a cs, DenC ρ H O w a cs → DenC ρ' H' O' w a cs) → DenC ρ' H' O' w x cs → DenSegs ρ' H' O' w (segs.set j x) cells
  | [], j, cells, a, h, hd => by simp at h
  | b :: azs, 0, cells, a, h, hd => by
    simp only [List.getElem?_cons_zero, Option.some.injEq] at h
    subst h
    obtain ⟨c1, c2, rfl, h1, h2⟩ := DenSegs_cons.1 hd
    refine ⟨c1, h1, fun ρ' H' O' x hs hx => ?_⟩
    simp only [List.set_cons_zero]
    refine DenSegs_cons.2 ⟨_, c2, rfl, hx, ?_⟩
    clear hd
    induction azs generalizing c2 with
    | nil => rw [DenSegs_nil.1 h2]; exact DenSegs_nil.2 rfl
    | cons b bs ih =>
      obtain ⟨d1, d2, rfl, h3, h4⟩ := DenSegs_cons.1 h2
      exact DenSegs_cons.2 ⟨d1, d2, rfl, hs _ _ h3, ih d2 h4⟩
  | b :: azs, j + 1, cells, a, h, hd => by
    obtain ⟨c1, c2, rfl, h1, h2⟩ := DenSegs_cons.1 hd
    obtain ⟨cs, h3, h4⟩ := segs_set azs j (by simpa using h) h2
    refine ⟨cs, h3, fun ρ' H' O' x hs hx => ?_⟩
    simp only [List.set_cons_succ]
    exact DenSegs_cons.2 ⟨c1, c2, rfl, hs _ _ h1, h4 ρ' H' O' x hs hx⟩

theorem given_up0 (hs : Sat ρ H G w) {id : Nat} {c : Con} {e : TypeId} (ho : H id = some (.vec c e)) : DenS (Hot ρ (updH H id .dead) G) w (.ro c) (ρ id) := by
  have hobj := hs.obj id _ ho
  obtain ⟨a, cap, hr, h2, h3, h4⟩ := hobj
  have hless : ∀ b, Hot ρ (updH H id .dead) G b → Hot ρ H G b := fun b hb => hb.imp own_kill (fun x => x)
  rw [hr]
  by_cases hc : cap = 0
  · have h0 : c.n = 0 := by omega
    have := DenS.ro (O := Hot ρ (updH H id .dead) G) (w := w) c a cap (fun _ _ => undef) 0 0 h2 h3 (fun h => by omega) (fun i j hi hj => by omega) (fun i j hi hj => by omega)
    exact this
  · obtain ⟨b, o, cells, fr, us, rfl, g1, g2, g3, g4⟩ := h4.resolve_left hc
    have hbk : blk (ρ id) = some b := by rw [hr]; simp only [blk]; rw [if_neg hc]
    refine DenS.ro c _ cap us b o h2 h3 (fun _ => ⟨rfl, fun hb => ?_, (Array.getElem?_eq_some_iff.1 g1).1⟩) (fun i j hi hj => ?_) (fun i j hi hj => ?_)
    · rcases hb with ⟨j, x, hx, ha, hb⟩ | hb
      · by_cases hj : j = id
        · subst hj
          simp only [updH, if_true, Option.some.injEq] at hx
          subst hx
          cases ha
        · simp only [updH, hj, if_false] at hx
          exact hj (hs.inj j id x _ b hx ho ha rfl hb hbk)
      · exact hs.apart b ⟨id, _, ho, rfl, hbk⟩ hb
    · rw [cell_of_blk g1]; exact (g4 i j hi hj).1
    · exact (g4 i j hi hj).2.less hless

theorem lk_set0 {L : List AObj} {v : Nat} {o x : AObj} (h : L[v]? = some o) : (fun i => (L.set v x)[i]?) = updH (fun i => L[i]?) v x := by
  funext i
  simp only [updH, List.getElem?_set]
  by_cases hi : v = i
  · subst hi
    rw [if_pos rfl, if_pos rfl, if_pos (List.getElem?_eq_some_iff.1 h).1]
  · rw [if_neg hi, if_neg (Ne.symm hi)]

theorem Rep.frzCell {id j : Nat} {tmps : List AV} {L : List AObj} (h : Rep X ρ ⟨tmps, L⟩ a w) : Rep X ρ ⟨tmps, frzCell id j L⟩ a w := by
  unfold Sx.frzCell
  split
  · rename_i segs e0 hid
    split
    · rename_i v hj
      split
      · rename_i c e hv
        have hne : v ≠ id := fun e1 => by rw [e1, hid] at hv; cases hv
        have hs : Sat ρ (fun i => L[i]?) X.G w := h.sat
        obtain ⟨b, cells, fr, h0, h1, h2, h3⟩ := hs.obj id _ hid
        obtain ⟨cs, hc, hset⟩ := segs_set segs j hj h3
        have hcs : cs = [ρ v] := by
          unfold DenC at hc
          obtain ⟨u, rfl, hd⟩ := hc
          unfold Den1 at hd
          obtain ⟨_, o, ho, hu⟩ := hd
          rw [show o = .vec c e from by simpa [hv] using ho.symm] at hu
          rw [hu _ _ rfl]
        have hid1 : (L.set v .dead)[id]? = some (.own segs e0) := by rw [List.getElem?_set_ne hne]; exact hid
        have hro := given_up0 hs hv
        have s1 := hs.kill hv
        have st1 := kill_step (ρ := ρ) (G := X.G) (w := w) (H := fun i => L[i]?) hv
        show Rep X ρ ⟨tmps, (L.set v .dead).set id (.own (segs.set j (.s (.ro c))) e0)⟩ a w
        have e1 : (St.look ⟨tmps, (L.set v .dead).set id (.own (segs.set j (.s (.ro c))) e0)⟩) = updH (updH (fun i => L[i]?) v .dead) id (.own (segs.set j (.s (.ro c))) e0) := by
          show (fun i => ((L.set v .dead).set id _)[i]?) = _
          rw [lk_set0 hid1, lk_set0 hv]
        generalize hH1 : updH (fun i => L[i]?) v .dead = H1 at *
        have hid1' : H1 id = some (.own segs e0) := by rw [← hH1]; simp only [updH]; rw [if_neg (Ne.symm hne)]; exact hid
        have hown : ∀ b, Own ρ (updH H1 id (.own (segs.set j (.s (.ro c))) e0)) b → Own ρ H1 b := by
          rintro b ⟨k, o, ho, ha, hb⟩
          simp only [updH] at ho
          split at ho
          · rename_i hk; exact ⟨id, _, hid1', rfl, hk ▸ hb⟩
          · exact ⟨k, o, ho, ha, hb⟩
        have st2 : Step ρ H1 (Hot ρ H1 X.G) w ρ (updH H1 id (.own (segs.set j (.s (.ro c))) e0)) (Hot ρ (updH H1 id (.own (segs.set j (.s (.ro c))) e0)) X.G) w := by
          refine ⟨fun _ _ _ => rfl, fun k o ho => ?_, fun b hb => .inl (hb.imp (hown b) (fun x => x)), fun _ _ _ => rfl, Nat.le_refl _⟩
          by_cases hk : k = id
          · exact ⟨.own (segs.set j (.s (.ro c))) e0, by simp [updH, hk], fun c' e' hc => by cases hc⟩
          · exact ⟨o, by simp only [updH]; rw [if_neg hk]; exact ho, fun c' e' hc => ⟨c', e', hc, rfl, rfl⟩⟩
        have st := st1.trans st2
        refine ⟨?_, h.size, fun u => ?_, h.defers, ?_, h.frm, h.kept⟩
        · rw [e1]
          refine ⟨fun k o ho => ?_, fun i l oi ol b hi hl ai al bi bl => ?_, fun b hb => s1.apart b (hown b hb), hs.low⟩
          · replace ho : updH H1 id (.own (segs.set j (.s (.ro c))) e0) k = some o := ho
            unfold updH at ho
            split at ho
            · rename_i hk
              cases ho
              rw [hk, h0]
              refine ⟨b, cells, fr, rfl, h1, h2, hset ρ _ _ _ (fun a cs hd => DenC.step st a cs hd) ?_⟩
              rw [hcs]
              unfold DenC
              exact ⟨_, rfl, hro.less (fun b hb => hb.imp (hown b) (fun x => x))⟩
            · exact (s1.obj k o ho).step st2 (fun _ _ _ => rfl)
          · have low : ∀ {k : Nat} {o : AObj}, updH H1 id (.own (segs.set j (.s (.ro c))) e0) k = some o → o.alive = true → ∃ o2, H1 k = some o2 ∧ o2.alive = true := by
              intro k o ho ha
              simp only [updH] at ho
              split at ho
              · rename_i hk; exact ⟨_, hk ▸ hid1', rfl⟩
              · exact ⟨o, ho, ha⟩
            obtain ⟨o1, q1, q2⟩ := low hi ai
            obtain ⟨o2, q4, q5⟩ := low hl al
            exact s1.inj i l o1 o2 b q1 q4 q2 q5 bi bl
        · rw [e1]; exact DenV.step st _ _ (h.den u)
        · rw [e1]; exact h.from_.trans st
      · exact h
    · exact h
  · exact h

theorem Rep.nilCells : ∀ (ns : List (Nat × Nat × Bool × Con × TypeId)) {ρ : Nat → Value} {tmps : List AV} {L : List AObj}, Rep X ρ ⟨tmps, L⟩ a w → ∃ ρ', Rep X ρ' ⟨tmps, nilCells ns L⟩ a w
  | [], ρ, tmps, L, h => ⟨ρ, h⟩
  | (id, j, ro, c, e) :: ns, ρ, tmps, L, h => by
    cases ro
    · obtain ⟨ρ', h'⟩ := h.nilCell (c := c) (e := e) (id := id) (j := j)
      exact Rep.nilCells ns h'
    · exact Rep.nilCells ns ((h.roCell (c := c) (id := id) (j := j)).frzCell (id := id) (j := j))

theorem Rep.nilSlots : ∀ (ns : List (Nat × Con × TypeId)) {ρ : Nat → Value} {tmps : List AV} {L : List AObj}, Rep X ρ ⟨tmps, L⟩ a w → ∃ ρ', Rep X ρ' ⟨(nilSlots ns tmps L).1, (nilSlots ns tmps L).2⟩ a w
  | [], ρ, tmps, L, h => ⟨ρ, h⟩
  | (t, c, e) :: ns, ρ, tmps, L, h => by
    obtain ⟨ρ', h'⟩ := h.nilSlot (c := c) (e := e) (t := t)
    exact Rep.nilSlots ns h'

theorem fixB_spec {m : Nat} {σ : List Nat} (h : fixB m σ = true) : ∀ i, i < m → σ[i]? = some i := by
  intro i hi
  simp only [fixB, List.all_eq_true, List.mem_range] at h
  have := h i hi
  split at this
  · rename_i j hj
    rw [hj, Nat.eq_of_beq_eq_true this]
  · cases this

theorem Rep.compact {m : Nat} {tmps t1 : List AV} {L L1 : List AObj} (h0 : ∀ id, m ≤ id → X.H id = none) (h : compact m tmps L = some (t1, L1)) (hr : Rep X ρ ⟨tmps, L⟩ a w) : ∃ ρ', Rep X ρ' ⟨t1, L1⟩ a w := by
  unfold Sx.compact at h
  simp only [Bool.cond_eq_ite] at h
  split at h
  · rename_i hb
    simp only [Bool.and_eq_true] at hb
    split at h
    · rename_i L' tmps' hL ht
      simp only [Option.some.injEq, Prod.mk.injEq] at h
      obtain ⟨rfl, rfl⟩ := h
      exact ⟨_, hr.view (nodupB_spec hb.1) hL (fixB_spec hb.2) h0 ht⟩
    · cases h
  · cases h

theorem Norm.safe {N : Norm} {f : FuncId} {c c' : Cfg} (h0 : ∀ id, N.m ≤ id → X.H id = none) (h : N.run c = some c') (hs : Safe P f X K c') : Safe P f X K c := by
  intro G E ρ a w hG1 hG2 hr b a' fs hw
  unfold Norm.run at h
  split at h
  · rename_i t1 L1 h1
    simp only [] at h
    split at h
    · rename_i t2 L2 h2
      simp only [Option.some.injEq] at h
      subst h
      obtain ⟨ρ1, r1⟩ := Rep.compact (X := X.at G E) h0 h1 (Rep.keepOnly N.keep hr)
      obtain ⟨ρ2, r2⟩ := Rep.nilSlots N.nils r1
      obtain ⟨ρ3, r3⟩ := Rep.nilCells N.cells r2
      obtain ⟨ρ4, r4⟩ := Rep.compact (X := X.at G E) h0 h2 r3
      exact hs G E _ a w hG1 hG2 r4 b a' fs hw
    · cases h
  · cases h
end
end Go.Sx

/-! Typed contracts: a function of plain values, told in plain Lean. -/
namespace Go.Sx
open Go

/-- A row's kind. -/
inductive RK where
  | ints (k : IntKind)
  | strs
  | bools
  | typ (cs : List CK)

abbrev RK.E : RK → Type
  | .ints _ => Int
  | .strs => ByteArray
  | .bools => Bool
  | .typ cs => CL cs

abbrev RK.V (r : RK) : Type := List r.E

def RK.con : (r : RK) → r.V → Con
  | .ints k, x => .ints k x
  | .strs, x => .strs x
  | .bools, x => .bools x
  | .typ cs, x => .typ cs x

def rdInts (k : IntKind) : Con → Option (List Int)
  | .ints k' zs => bif kindEq k' k then some zs else none
  | .recs _ 0 _ => some []
  | _ => none
def rdStrs : Con → Option (List ByteArray)
  | .strs x => some x
  | .recs _ 0 _ => some []
  | _ => none
def rdBools : Con → Option (List Bool)
  | .bools x => some x
  | .recs _ 0 _ => some []
  | _ => none
def rdTyp (cs : List CK) : Con → Option (List (CL cs))
  | .typ cs' x => (CL.eq cs' cs).map fun h => castL h x
  | .recs _ 0 _ => some []
  | _ => none

def RK.rd : (r : RK) → Con → Option r.V
  | .ints k, c => rdInts k c
  | .strs, c => rdStrs c
  | .bools, c => rdBools c
  | .typ cs, c => rdTyp cs c

def CK.flat : CK → Bool
  | .int _ | .bool | .str | .arr _ _ => true
  | _ => false

def RK.flat : RK → Bool
  | .typ cs => cs.all CK.flat
  | _ => true

/-- A value of one part. -/
inductive B where
  | int (k : IntKind)
  | bool
  | str
  | row (r : RK) (e : TypeId)
  | arr (k : IntKind) (n : Nat)
  | fn
  | rrow (r : RK) (e : TypeId)

abbrev B.V : B → Type
  | .int _ => Int
  | .bool => Bool
  | .str => ByteArray
  | .row r _ => r.V
  | .arr _ _ => List Int
  | .fn => FuncId
  | .rrow r _ => r.V

def B.av : (b : B) → b.V → AV
  | .int k, n => .s (.int k n)
  | .bool, x => .s (.bool x)
  | .str, x => .s (.str x)
  | .row r _, x => .s (.ro (r.con x))
  | .arr k n, x => .ints k n x
  | .fn, f => .s (.fn0 f)
  | .rrow r _, x => .s (.ro (r.con x))

def numsAV (k : IntKind) : List AV → Option (List Int)
  | [] => some []
  | .s (.int k' n) :: azs => bif kindEq k' k then (numsAV k azs).map (n :: ·) else none
  | _ => none

def avInt (k : IntKind) : AV → Option Int
  | .s (.int k' n) => bif kindEq k' k then some n else none
  | _ => none
def avBool : AV → Option Bool
  | .s (.bool x) => some x
  | _ => none
def avStr : AV → Option ByteArray
  | .s (.str x) => some x
  | _ => none
def avRow (r : RK) : AV → Option r.V
  | .emp => some []
  | .s (.ro c) => r.rd c
  | _ => none
def avArr (k : IntKind) (n : Nat) : AV → Option (List Int)
  | .ints k' n' ws => bif kindEq k' k && n'.beq n then some ws else none
  | .agg segs => bif segs.length.beq n then numsAV k segs else none
  | _ => none

def avFn : AV → Option FuncId
  | .s (.fn0 f) => some f
  | _ => none

def B.rd : (b : B) → AV → Option b.V
  | .int k, a => avInt k a
  | .bool, a => avBool a
  | .str, a => avStr a
  | .row r _, a => avRow r a
  | .arr k n, a => avArr k n a
  | .fn, a => avFn a
  | .rrow r _, a => avRow r a

/-- What is known of a value of that type, by its type alone. -/
def B.ok : (b : B) → b.V → Prop
  | .row _ _, x => x.length ≤ maxLen
  | .rrow _ _, x => x.length ≤ maxLen
  | .arr _ n, x => List.length (α := Int) x = n
  | _, _ => True

/-- A value: one part, or a struct's. -/
inductive Ty where
  | b (x : B)
  | st (bs : List B)

abbrev BL : List B → Type
  | [] => Unit
  | b :: bs => b.V × BL bs

abbrev Ty.V : Ty → Type
  | .b x => x.V
  | .st bs => BL bs

abbrev AL : List Ty → Type
  | [] => Unit
  | t :: ts => t.V × AL ts

def BL.av : (bs : List B) → BL bs → List AV
  | [], _ => []
  | b :: bs, (x, y) => b.av x :: BL.av bs y

def BL.rd : (bs : List B) → List AV → Option (BL bs)
  | [], [] => some ()
  | b :: bs, a :: azs => match b.rd a, BL.rd bs azs with
    | some x, some y => some (x, y)
    | _, _ => none
  | _, _ => none

def BL.ok : (bs : List B) → BL bs → Prop
  | [], _ => True
  | b :: bs, (x, y) => b.ok x ∧ BL.ok bs y

def Ty.av : (t : Ty) → t.V → AV
  | .b x, v => x.av v
  | .st bs, v => .agg (BL.av bs v)

def avSt (bs : List B) : AV → Option (BL bs)
  | .agg segs => BL.rd bs segs
  | _ => none

def Ty.rd : (t : Ty) → AV → Option t.V
  | .b x, a => x.rd a
  | .st bs, a => avSt bs a

def Ty.ok : (t : Ty) → t.V → Prop
  | .b x, v => x.ok v
  | .st bs, v => BL.ok bs v

def AL.av : (ts : List Ty) → AL ts → List AV
  | [], _ => []
  | t :: ts, (x, y) => t.av x :: AL.av ts y

def AL.rd : (ts : List Ty) → List AV → Option (AL ts)
  | [], [] => some ()
  | t :: ts, a :: azs => match t.rd a, AL.rd ts azs with
    | some x, some y => some (x, y)
    | _, _ => none
  | _, _ => none

def AL.ok : (ts : List Ty) → AL ts → Prop
  | [], _ => True
  | t :: ts, (x, y) => t.ok x ∧ AL.ok ts y

section
variable {g : Nat → Option Nat} {ρ ρ' : Nat → Value} {H H' : AHeap} {G O O' : Nat → Prop} {w w' : World} {P : Program} {S : SummB} {Z : Glob} {X : Ctx} {s : St} {a : Act} {K : List AObj → AV → Prop} {C : Cfg → Prop}

theorem RK.rd_ok {r : RK} {c : Con} {x : r.V} (h : r.rd c = some x) {v : Value} (hd : DenS O w (.ro c) v) : DenS O w (.ro (r.con x)) v := by
  cases r
  case ints k =>
    change rdInts k c = some x at h
    unfold rdInts at h
    split at h
    · rw [Bool.cond_eq_ite] at h
      split at h
      · rename_i hk
        obtain rfl := kindEq_eq hk
        simp only [Option.some.injEq] at h
        subst h
        exact hd
      · cases h
    · cases h; exact den_ro_nil (by rfl) (by rfl) hd
    · cases h
  case typ cs =>
    change rdTyp cs c = some x at h
    unfold rdTyp at h
    split at h
    · obtain ⟨⟨e⟩, _, h2⟩ := Option.map_eq_some_iff.1 h
      subst e
      rw [castL_rfl] at h2
      subst h2
      exact hd
    · cases h; exact den_ro_nil (by rfl) (by rfl) hd
    · cases h
  case strs => change rdStrs c = some x at h; unfold rdStrs at h; split at h <;> cases h; exact hd; exact den_ro_nil (by rfl) (by rfl) hd
  case bools => change rdBools c = some x at h; unfold rdBools at h; split at h <;> cases h; exact hd; exact den_ro_nil (by rfl) (by rfl) hd

theorem emp_row {r : RK} {v : Value} (h : ∃ a, v = .slice a 0 0) : DenS O w (.ro (r.con [])) v := by
  obtain ⟨a, rfl⟩ := h
  have hn : (r.con []).n = 0 := by cases r <;> rfl
  have := DenS.ro (O := O) (w := w) (r.con []) a 0 (fun _ _ => undef) 0 0 (by omega) (Nat.zero_le _) (fun h => by omega) (fun i j hi hj => by omega) (fun i j hi hj => by omega)
  rwa [hn] at this

theorem numsAV_ok {k : IntKind} : ∀ {azs : List AV} {zs : List Int} {cs : List Value}, numsAV k azs = some zs → DenSegs ρ H O w azs cs → zs.length = azs.length ∧ cs = zs.map (Value.int k)
  | [], zs, cs, h, hd => by simp only [numsAV, Option.some.injEq] at h; subst h; exact ⟨rfl, DenSegs_nil.1 hd⟩
  | a :: azs, zs, cs, h, hd => by
    unfold numsAV at h
    split at h
    · rename_i heq; cases heq
    · rename_i k' n azs' heq
      simp only [List.cons.injEq] at heq
      obtain ⟨rfl, rfl⟩ := heq
      rw [Bool.cond_eq_ite] at h
      split at h
      · rename_i hk
        obtain rfl := kindEq_eq hk
        simp only [Option.map_eq_some_iff] at h
        obtain ⟨zs', h1, rfl⟩ := h
        obtain ⟨c1, c2, rfl, h2, h3⟩ := DenSegs_cons.1 hd
        obtain ⟨h4, rfl⟩ := numsAV_ok h1 h3
        unfold DenC at h2
        obtain ⟨u, rfl, h5⟩ := h2
        cases h5
        exact ⟨by simp [h4], rfl⟩
      · cases h
    · cases h

theorem avInt_eq {k : IntKind} {a : AV} {n : Int} (h : avInt k a = some n) : a = .s (.int k n) := by
  unfold avInt at h
  split at h
  · rw [Bool.cond_eq_ite] at h
    split at h
    · rename_i hk
      obtain rfl := kindEq_eq hk
      cases h; rfl
    · cases h
  · cases h
theorem avBool_eq {a : AV} {x : Bool} (h : avBool a = some x) : a = .s (.bool x) := by
  unfold avBool at h
  split at h <;> cases h
  rfl
theorem avStr_eq {a : AV} {x : ByteArray} (h : avStr a = some x) : a = .s (.str x) := by
  unfold avStr at h
  split at h <;> cases h
  rfl

theorem avFn_eq {a : AV} {x : FuncId} (h : avFn a = some x) : a = .s (.fn0 x) := by
  unfold avFn at h
  split at h <;> cases h
  rfl

theorem avRow_V {r : RK} {a : AV} {x : r.V} {v : Value} (h : avRow r a = some x) (hd : DenV ρ H O w a v) : DenV ρ' H' O w (.s (.ro (r.con x))) v := by
  unfold avRow at h
  split at h
  · cases h
    unfold DenV at hd
    exact DenV_s (emp_row hd)
  · exact DenV_s (RK.rd_ok h (DenS_of_V (by simp) hd))
  · cases h

theorem avRow_C {r : RK} {a : AV} {x : r.V} {cs : List Value} (h : avRow r a = some x) (hd : DenC ρ H O w a cs) : DenC ρ' H' O w (.s (.ro (r.con x))) cs := by
  unfold avRow at h
  split at h
  · cases h
    unfold DenC at *
    obtain ⟨u, rfl, h1⟩ := hd
    exact ⟨u, rfl, emp_row h1⟩
  · unfold DenC at *
    obtain ⟨u, rfl, h1⟩ := hd
    exact ⟨u, rfl, RK.rd_ok h h1⟩
  · cases h

theorem B.rdV {b : B} {a : AV} {x : b.V} {v : Value} (h : b.rd a = some x) (hd : DenV ρ H O w a v) : DenV ρ' H' O w (b.av x) v := by
  cases b with
  | int k => rw [avInt_eq h] at hd; exact DenV_s (DenS_of_V (by simp) hd)
  | bool => rw [avBool_eq h] at hd; exact DenV_s (DenS_of_V (by simp) hd)
  | str => rw [avStr_eq h] at hd; exact DenV_s (DenS_of_V (by simp) hd)
  | fn => rw [avFn_eq h] at hd; exact DenV_s (DenS_of_V (by simp) hd)
  | row r e => exact avRow_V h hd
  | rrow r e => exact avRow_V h hd
  | arr k n =>
    change avArr k n a = some x at h
    unfold avArr at h
    split at h
    · rw [Bool.cond_eq_ite] at h
      split at h
      · rename_i hk
        simp only [Bool.and_eq_true] at hk
        obtain rfl := kindEq_eq hk.1
        obtain rfl := Nat.eq_of_beq_eq_true hk.2
        cases h
        unfold DenV at *
        exact hd
      · cases h
    · rw [Bool.cond_eq_ite] at h
      split at h
      · rename_i segs hk
        unfold DenV at hd
        obtain ⟨cs, rfl, h2⟩ := hd
        obtain ⟨h3, rfl⟩ := numsAV_ok h h2
        show DenV ρ' H' O w (.ints k n x) _
        unfold DenV
        exact ⟨by rw [h3]; exact Nat.eq_of_beq_eq_true hk, rfl⟩
      · cases h
    · cases h

theorem B.rdC {b : B} {a : AV} {x : b.V} {cs : List Value} (h : b.rd a = some x) (hd : DenC ρ H O w a cs) : DenC ρ' H' O w (b.av x) cs := by
  cases b with
  | int k => rw [avInt_eq h] at hd; unfold DenC at hd; show DenC _ _ _ _ (.s (.int k x)) _; unfold DenC; exact hd
  | bool => rw [avBool_eq h] at hd; unfold DenC at hd; show DenC _ _ _ _ (.s (.bool x)) _; unfold DenC; exact hd
  | str => rw [avStr_eq h] at hd; unfold DenC at hd; show DenC _ _ _ _ (.s (.str x)) _; unfold DenC; exact hd
  | fn => rw [avFn_eq h] at hd; unfold DenC at hd; show DenC _ _ _ _ (.s (.fn0 x)) _; unfold DenC; exact hd
  | row r e => exact avRow_C h hd
  | rrow r e => exact avRow_C h hd
  | arr k n =>
    change avArr k n a = some x at h
    unfold avArr at h
    split at h
    · rw [Bool.cond_eq_ite] at h
      split at h
      · rename_i hk
        simp only [Bool.and_eq_true] at hk
        obtain rfl := kindEq_eq hk.1
        obtain rfl := Nat.eq_of_beq_eq_true hk.2
        cases h
        show DenC _ _ _ _ (.ints _ _ _) _
        unfold DenC at *
        exact hd
      · cases h
    · unfold DenC at hd; exact hd.elim
    · cases h

theorem BL.rd_ok : ∀ {bs : List B} {segs : List AV} {x : BL bs} {cs : List Value}, BL.rd bs segs = some x → DenSegs ρ H O w segs cs → DenSegs ρ' H' O w (BL.av bs x) cs
  | [], [], x, cs, h, hd => by rw [DenSegs_nil.1 hd]; exact DenSegs_nil.2 rfl
  | [], a :: azs, x, cs, h, hd => by simp [BL.rd] at h
  | b :: bs, [], x, cs, h, hd => by simp [BL.rd] at h
  | b :: bs, a :: azs, x, cs, h, hd => by
    unfold BL.rd at h
    split at h
    · rename_i y z h1 h2
      cases h
      obtain ⟨c1, c2, rfl, h3, h4⟩ := DenSegs_cons.1 hd
      exact DenSegs_cons.2 ⟨c1, c2, rfl, B.rdC h1 h3, BL.rd_ok h2 h4⟩
    · cases h

theorem Ty.rd_ok {t : Ty} {a : AV} {x : t.V} {v : Value} (h : t.rd a = some x) (hd : DenV ρ H O w a v) : DenV ρ' H' O w (t.av x) v := by
  cases t with
  | b y => exact B.rdV h hd
  | st bs =>
    change avSt bs a = some x at h
    unfold avSt at h
    split at h
    · show DenV _ _ _ _ (.agg _) _
      unfold DenV at *
      obtain ⟨cs, h1, h2⟩ := hd
      exact ⟨cs, h1, BL.rd_ok h h2⟩
    · cases h

theorem AL.rd_ok : ∀ {ts : List Ty} {azs : List AV} {x : AL ts} {vs : List Value}, AL.rd ts azs = some x → DenL ρ H O w azs vs → DenL ρ' H' O w (AL.av ts x) vs
  | [], [], x, vs, h, hd => by rw [DenL_nil.1 hd]; exact DenL_nil.2 rfl
  | [], a :: azs, x, vs, h, hd => by simp [AL.rd] at h
  | t :: ts, [], x, vs, h, hd => by simp [AL.rd] at h
  | t :: ts, a :: azs, x, vs, h, hd => by
    unfold AL.rd at h
    split at h
    · rename_i y z h1 h2
      cases h
      obtain ⟨v, rest, rfl, h3, h4⟩ := DenL_cons.1 hd
      exact DenL_cons.2 ⟨v, rest, rfl, Ty.rd_ok h1 h3, AL.rd_ok h2 h4⟩
    · cases h

theorem row_len {r : RK} {x : r.V} {v : Value} (h : DenS O w (.ro (r.con x)) v) : List.length x ≤ maxLen := by
  generalize hc : r.con x = c at h
  cases h with
  | ro _ a cap us bb o h1 h2 _ _ _ =>
    have : (r.con x).n = x.length := by cases r <;> rfl
    rw [← hc] at h1
    omega

theorem B.okV {b : B} {x : b.V} {v : Value} (hd : DenV ρ H O w (b.av x) v) : b.ok x := by
  cases b with
  | row r e => exact row_len (DenS_of_V (by simp) hd)
  | rrow r e => exact row_len (DenS_of_V (by simp) hd)
  | arr k n => change DenV ρ H O w (.ints k n x) v at hd; unfold DenV at hd; exact hd.1
  | _ => trivial

theorem B.okC {b : B} {x : b.V} {cs : List Value} (hd : DenC ρ H O w (b.av x) cs) : b.ok x := by
  cases b with
  | row r e =>
    change DenC ρ H O w (.s (.ro (r.con x))) cs at hd
    unfold DenC at hd
    obtain ⟨u, _, h⟩ := hd
    exact row_len h
  | rrow r e =>
    change DenC ρ H O w (.s (.ro (r.con x))) cs at hd
    unfold DenC at hd
    obtain ⟨u, _, h⟩ := hd
    exact row_len h
  | arr k n => change DenC ρ H O w (.ints k n x) cs at hd; unfold DenC at hd; exact hd.1
  | _ => trivial

theorem BL.okS : ∀ {bs : List B} {x : BL bs} {cs : List Value}, DenSegs ρ H O w (BL.av bs x) cs → BL.ok bs x
  | [], x, cs, h => trivial
  | b :: bs, (x, y), cs, h => by
    obtain ⟨c1, c2, rfl, h3, h4⟩ := DenSegs_cons.1 h
    exact ⟨B.okC h3, BL.okS h4⟩

theorem Ty.okV {t : Ty} {x : t.V} {v : Value} (hd : DenV ρ H O w (t.av x) v) : t.ok x := by
  cases t with
  | b y => exact B.okV hd
  | st bs =>
    change DenV ρ H O w (.agg (BL.av bs x)) v at hd
    unfold DenV at hd
    obtain ⟨cs, _, h⟩ := hd
    exact BL.okS h

theorem AL.okL : ∀ {ts : List Ty} {x : AL ts} {vs : List Value}, DenL ρ H O w (AL.av ts x) vs → AL.ok ts x
  | [], x, vs, h => trivial
  | t :: ts, (x, y), vs, h => by
    obtain ⟨v, rest, rfl, h3, h4⟩ := DenL_cons.1 h
    exact ⟨Ty.okV h3, AL.okL h4⟩
end
end Go.Sx

/-! What a call hands back, made alike. -/
namespace Go.Sx
open Go

def nil1 (ces : List (Bool × Con × TypeId)) (L : List AObj) (a : AV) : AV × List AObj × List (Bool × Con × TypeId) :=
  match a with
  | .emp => match ces with
    | (ro, c, e) :: r => bif c.n.beq 0 then (bif ro then (.s (.ro c), L, r) else (.vec L.length, L ++ [.vec c e], r)) else (.emp, L, r)
    | [] => (.emp, L, [])
  | .vec id => match ces with
    | (true, _, _) :: r => (match L[id]? with
      | some (.vec c _) => (.s (.ro c), L.set id .dead, r)
      | _ => (.vec id, L, r))
    | _ => (.vec id, L, ces.tail)
  | .s (.ro c) => (.s (.ro c), L, ces.tail)
  | .part id lo n => (match L[id]? with
      | some (.vec c e) => (.vec L.length, L.set id .dead ++ [.vec (conSub c lo (lo + n)) e], ces.tail)
      | _ => (.part id lo n, L, ces.tail))
  | a => (a, L, ces)

def nilL (f : List (Bool × Con × TypeId) → List AObj → AV → AV × List AObj × List (Bool × Con × TypeId)) : List (Bool × Con × TypeId) → List AObj → List AV → List AV × List AObj × List (Bool × Con × TypeId)
  | ces, L, [] => ([], L, ces)
  | ces, L, a :: azs => let p := f ces L a; let q := nilL f p.2.2 p.2.1 azs; (p.1 :: q.1, q.2.1, q.2.2)

def nilA (ces : List (Bool × Con × TypeId)) (L : List AObj) (a : AV) : AV × List AObj × List (Bool × Con × TypeId) :=
  match a with
  | .agg segs => let q := nilL nil1 ces L segs; (.agg q.1, q.2.1, q.2.2)
  | a => nil1 ces L a

def nilV (ces : List (Bool × Con × TypeId)) (L : List AObj) (a : AV) : AV × List AObj :=
  match a with
  | .tup vs => let q := nilL nilA ces L vs; (.tup q.1, q.2.1)
  | a => let q := nilA ces L a; (q.1, q.2.1)

def canR (ces : List (Bool × Con × TypeId)) (L : List AObj) (r : AV) : Option (List AObj × AV) :=
  let p := nilV ces L r
  let σ := reach p.2 4000 (idsOf 20 p.1) []
  bif nodupB σ then
    match viewH σ p.2, rn (idx σ) 20 p.1 with
    | some L', some r' => some (L', r')
    | _, _ => none
  else none

section
variable {g : Nat → Option Nat} {ρ ρ' : Nat → Value} {H H' : AHeap} {G O O' : Nat → Prop} {w w' : World} {P : Program} {S : SummB} {Z : Glob} {X : Ctx} {s : St} {a : Act} {K : List AObj → AV → Prop} {C : Cfg → Prop} {L : List AObj}

abbrev lk (L : List AObj) : AHeap := fun i => L[i]?
abbrev stp (ρ : Nat → Value) (L : List AObj) (G : Nat → Prop) (w : World) (ρ' : Nat → Value) (L' : List AObj) : Prop := Step ρ (lk L) (Hot ρ (lk L) G) w ρ' (lk L') (Hot ρ' (lk L') G) w

theorem ext1 (hs : Sat ρ (lk L) G w) {c : Con} (hc : c.n = 0) (e : TypeId) (r : Option Addr) : ∃ ρ', Sat ρ' (lk (L ++ [.vec c e])) G w ∧ stp ρ L G w ρ' (L ++ [.vec c e]) ∧ ∀ O, Den1 ρ' (lk (L ++ [.vec c e])) O w (.vec L.length) (.slice r 0 0) := by
  have hbk : blk (.slice r 0 0) = none := by cases r <;> simp [blk]
  let ρ' : Nat → Value := fun j => if j = L.length then .slice r 0 0 else ρ j
  have st : stp ρ L G w ρ' (L ++ [AObj.vec c e]) := Step.alloc hbk
  have old : ∀ {id : Nat} {o : AObj}, (L ++ [AObj.vec c e])[id]? = some o → (id = L.length ∧ o = .vec c e) ∨ (id ≠ L.length ∧ L[id]? = some o) := by
    intro id o ho
    have h2 := (List.getElem?_eq_some_iff.1 ho).1
    simp only [List.length_append, List.length_cons, List.length_nil] at h2
    by_cases hid : id = L.length
    · subst hid
      simp at ho
      exact .inl ⟨rfl, ho.symm⟩
    · refine .inr ⟨hid, ?_⟩
      rwa [List.getElem?_append_left (by omega)] at ho
  have hown : ∀ b, Own ρ' (lk (L ++ [AObj.vec c e])) b → Own ρ (lk L) b := by
    rintro b ⟨id, o, ho, ha, hb⟩
    rcases old ho with ⟨h1, h2⟩ | ⟨h1, h2⟩
    · simp only [ρ', h1, if_true] at hb
      rw [hbk] at hb; cases hb
    · simp only [ρ', h1, if_false] at hb
      exact ⟨id, o, h2, ha, hb⟩
  refine ⟨ρ', ⟨fun id o ho => ?_, fun i j oi oj b hi hj ai aj bi bj => ?_, fun b hb => hs.apart b (hown b hb), hs.low⟩, st, fun O => ?_⟩
  · rcases old ho with ⟨h1, h2⟩ | ⟨h1, h2⟩
    · subst h2
      simp only [ρ', h1, if_true]
      exact ⟨r, 0, by rw [hc], by omega, Nat.zero_le _, .inl rfl⟩
    · simp only [ρ', h1, if_false]
      exact (hs.obj id o h2).step st (fun _ _ _ => rfl)
  · rcases old hi with ⟨h1, h2⟩ | ⟨h1, h2⟩
    · simp only [ρ', h1, if_true] at bi
      rw [hbk] at bi; cases bi
    · rcases old hj with ⟨h3, h4⟩ | ⟨h3, h4⟩
      · simp only [ρ', h3, if_true] at bj
        rw [hbk] at bj; cases bj
      · simp only [ρ', h1, if_false] at bi
        simp only [ρ', h3, if_false] at bj
        exact hs.inj i j oi oj b h2 h4 ai aj bi bj
  · unfold Den1
    exact ⟨rfl, .vec c e, by simp [lk], fun c' e' _ => (if_pos rfl).symm⟩

theorem emp_ro {c : Con} (hc : c.n = 0) (r : Option Addr) : DenS O w (.ro c) (.slice r 0 0) := by
  have := DenS.ro (O := O) (w := w) c r 0 (fun _ _ => undef) 0 0 (by omega) (Nat.zero_le _) (fun h => by omega) (fun i j hi hj => by omega) (fun i j hi hj => by omega)
  rwa [hc] at this

/-- A row that is handed out stands still from then on. -/
theorem freeze1 (hs : Sat ρ (lk L) G w) {id : Nat} {c : Con} {e : TypeId} (hid : L[id]? = some (.vec c e)) :
    Sat ρ (lk (L.set id .dead)) G w ∧ stp ρ L G w ρ (L.set id .dead) ∧ DenS (Hot ρ (lk (L.set id .dead)) G) w (.ro c) (ρ id) := by
  have hlt : id < L.length := (List.getElem?_eq_some_iff.1 hid).1
  have old : ∀ {k : Nat} {o : AObj}, (L.set id .dead)[k]? = some o → (k = id ∧ o = .dead) ∨ (k ≠ id ∧ L[k]? = some o) := by
    intro k o ho
    rw [List.getElem?_set] at ho
    split at ho
    · rename_i hk
      first
        | exact .inl ⟨hk.symm, by simpa using ho.symm⟩
        | (rw [if_pos hlt] at ho; exact .inl ⟨hk.symm, by simpa using ho.symm⟩)
    · rename_i hk
      exact .inr ⟨Ne.symm hk, ho⟩
  have hown : ∀ b, Own ρ (lk (L.set id .dead)) b → Own ρ (lk L) b ∧ blk (ρ id) ≠ some b := by
    rintro b ⟨k, o, ho, ha, hb⟩
    rcases old ho with ⟨_, rfl⟩ | ⟨h1, h2⟩
    · cases ha
    · refine ⟨⟨k, o, h2, ha, hb⟩, fun hb2 => h1 (hs.inj k id o _ b h2 hid ha rfl hb hb2)⟩
  have st : stp ρ L G w ρ (L.set id .dead) := by
    refine ⟨fun _ _ _ => rfl, fun k o ho => ?_, fun b hb => .inl ?_, fun _ _ _ => rfl, Nat.le_refl _⟩
    · by_cases hk : k = id
      · subst hk
        exact ⟨.dead, by show (L.set k .dead)[k]? = _; rw [List.getElem?_set_self hlt], fun c' e' hc => by cases hc⟩
      · exact ⟨o, by show (L.set id .dead)[k]? = _; rw [List.getElem?_set_ne (Ne.symm hk)]; exact ho, fun c' e' hc => ⟨c', e', hc, rfl, rfl⟩⟩
    · rcases hb with hb | hb
      · exact .inl (hown b hb).1
      · exact .inr hb
  refine ⟨⟨fun k o ho => ?_, fun i j oi oj b hi hj ai aj bi bj => ?_, fun b hb => hs.apart b (hown b hb).1, hs.low⟩, st, ?_⟩
  · rcases old ho with ⟨_, rfl⟩ | ⟨h1, h2⟩
    · trivial
    · exact (hs.obj k o h2).step st (fun _ _ _ => rfl)
  · rcases old hi with ⟨_, rfl⟩ | ⟨h1, h2⟩
    · cases ai
    · rcases old hj with ⟨_, rfl⟩ | ⟨h3, h4⟩
      · cases aj
      · exact hs.inj i j oi oj b h2 h4 ai aj bi bj
  · obtain ⟨r, cap, h0, h1, h2, h3⟩ := hs.obj id _ hid
    rcases h3 with h3 | ⟨b, f, cells, fr, us, rfl, h5, h6, h7, h8⟩
    · rw [h0]
      have hc : c.n = 0 := by omega
      exact .ro c r cap (fun _ _ => undef) 0 0 h1 h2 (fun h => by omega) (fun i j hi hj => by omega) (fun i j hi hj => by omega)
    · by_cases hcap : cap = 0
      · rw [h0]
        exact .ro c _ cap (fun _ _ => undef) 0 0 h1 h2 (fun h => by omega) (fun i j hi hj => by omega) (fun i j hi hj => by omega)
      · have hbk : blk (ρ id) = some b := by rw [h0]; simp [blk, hcap]
        have hcold : ¬ Hot ρ (lk (L.set id .dead)) G b := by
          rintro (hb | hb)
          · exact (hown b hb).2 hbk
          · exact hs.apart b ⟨id, _, hid, rfl, hbk⟩ hb
        rw [h0]
        refine .ro c _ cap us b f h1 h2 (fun _ => ⟨rfl, hcold, (Array.getElem?_eq_some_iff.1 h5).1⟩) (fun i j hi hj => ?_) (fun i j hi hj => (h8 i j hi hj).2.less (fun b hb => ?_))
        · have := (h8 i j hi hj).1
          simp only [World.cell?, h5]
          simpa using this
        · rcases hb with hb | hb
          · exact .inl (hown b hb).1
          · exact .inr hb

/-- A part of an own row, alone from then on. -/
theorem retract (hs : Sat ρ (lk L) G w) {id lo n : Nat} {c : Con} {e : TypeId} {v : Value} (hid : L[id]? = some (.vec c e)) (hv : DenV ρ (lk L) (Hot ρ (lk L) G) w (.part id lo n) v) :
    ∃ ρ', Sat ρ' (lk (L.set id .dead ++ [.vec (conSub c lo (lo + n)) e])) G w ∧ stp ρ L G w ρ' (L.set id .dead ++ [.vec (conSub c lo (lo + n)) e]) ∧ ∀ O, Den1 ρ' (lk (L.set id .dead ++ [.vec (conSub c lo (lo + n)) e])) O w (.vec L.length) v := by
  obtain ⟨g0, a, cap, a', g1, g2, g3, rfl, g4, g5⟩ := part_val hs hid hv
  have hlt : id < L.length := (List.getElem?_eq_some_iff.1 hid).1
  generalize hx : AObj.vec (conSub c lo (lo + n)) e = x
  have hxa : x.alive = true := by rw [← hx]; rfl
  have old : ∀ {k : Nat} {o : AObj}, (L.set id .dead ++ [x])[k]? = some o → (k = L.length ∧ o = x) ∨ (k = id ∧ o = .dead) ∨ (k ≠ id ∧ k ≠ L.length ∧ L[k]? = some o) := by
    intro k o ho
    have h2 := (List.getElem?_eq_some_iff.1 ho).1
    simp only [List.length_append, List.length_set, List.length_cons, List.length_nil] at h2
    by_cases hk : k = L.length
    · subst hk
      rw [List.getElem?_append_right (by simp)] at ho
      simp at ho
      exact .inl ⟨rfl, ho.symm⟩
    · rw [List.getElem?_append_left (by simp; omega), List.getElem?_set] at ho
      split at ho
      · rename_i hk2
        first
          | exact .inr (.inl ⟨hk2.symm, by simpa using ho.symm⟩)
          | (rw [if_pos hlt] at ho; exact .inr (.inl ⟨hk2.symm, by simpa using ho.symm⟩))
      · rename_i hk2
        exact .inr (.inr ⟨Ne.symm hk2, hk, ho⟩)
  have new : ∀ {k : Nat} {o : AObj}, L[k]? = some o → k ≠ id → (L.set id .dead ++ [x])[k]? = some o := by
    intro k o ho hk
    have h1 := (List.getElem?_eq_some_iff.1 ho).1
    rw [List.getElem?_append_left (by simpa using h1), List.getElem?_set_ne (Ne.symm hk)]
    exact ho
  have newid : (L.set id .dead ++ [x])[id]? = some .dead := by
    rw [List.getElem?_append_left (by simpa using hlt), List.getElem?_set_self hlt]
  have newx : (L.set id .dead ++ [x])[L.length]? = some x := by
    rw [List.getElem?_append_right (by simp)]
    simp
  have hblk : ∀ b, blk (.slice a' n (cap - lo)) = some b → blk (ρ id) = some b := by
    intro b hb
    cases a' with
    | none => simp [blk] at hb
    | some y =>
      simp only [blk] at hb
      split at hb
      · cases hb
      · rename_i hne
        obtain ⟨b', o, rfl⟩ := g5 (by omega)
        have := g4 (by omega)
        simp only [Option.map_some, add_zero_spot, Option.some.injEq] at this hb
        subst this
        rw [g1]
        simp only [blk]
        rw [if_neg (by omega)]
        exact congrArg some hb
  let ρ' : Nat → Value := fun j => if j = L.length then .slice a' n (cap - lo) else ρ j
  have hown : ∀ b, Own ρ' (lk (L.set id .dead ++ [x])) b → Own ρ (lk L) b := by
    rintro b ⟨k, o, ho, ha, hb⟩
    rcases old ho with ⟨h1, h2⟩ | ⟨h1, h2⟩ | ⟨h1, h2, h3⟩
    · simp only [ρ', h1, if_true] at hb
      exact ⟨id, _, hid, rfl, hblk b hb⟩
    · subst h2; cases ha
    · simp only [ρ', h2, if_false] at hb
      exact ⟨k, o, h3, ha, hb⟩
  have st : stp ρ L G w ρ' (L.set id .dead ++ [x]) := by
    refine ⟨fun k o ho => ?_, fun k o ho => ?_, fun b hb => .inl ?_, fun _ _ _ => rfl, Nat.le_refl _⟩
    · have h1 : k < L.length := (List.getElem?_eq_some_iff.1 ho).1
      simp only [ρ']
      rw [if_neg (by omega)]
    · by_cases hk : k = id
      · subst hk
        exact ⟨.dead, newid, fun c' e' hc => by cases hc⟩
      · exact ⟨o, new ho hk, fun c' e' hc => ⟨c', e', hc, rfl, rfl⟩⟩
    · rcases hb with hb | hb
      · exact .inl (hown b hb)
      · exact .inr hb
  refine ⟨ρ', ⟨fun k o ho => ?_, fun i j oi oj b hi hj ai aj bi bj => ?_, fun b hb => hs.apart b (hown b hb), hs.low⟩, st, fun O => ?_⟩
  · rcases old ho with ⟨h1, h2⟩ | ⟨h1, h2⟩ | ⟨h1, h2, h3⟩
    · rw [h2]
      have st' := st
      simp only [ρ', h1, if_true]
      rw [← hx] at st' ⊢
      have hn : (conSub c lo (lo + n)).n = n := by rw [con_n_sub c (by omega) g0]; omega
      have hsz := con_size_sub c lo (lo + n)
      refine ⟨a', cap - lo, by rw [hn], by rw [hn]; omega, by omega, ?_⟩
      obtain ⟨a2, cap2, k1, k2, k3, k4⟩ := hs.obj id _ hid
      rw [g1] at k1
      cases k1
      by_cases hc : cap = lo
      · exact .inl (by omega)
      · rcases k4 with k4 | ⟨b, o, cells, fr, us, rfl, h5, h6, h7, h8⟩
        · omega
        · refine .inr ⟨b, o + lo * c.size, cells, fr, fun i j => us (lo + i) j, by rw [g4 hc]; simp [add_zero_spot], h5, h6, ?_, fun i j hi hj => ?_⟩
          · rw [hsz]
            have : lo * c.size + (cap - lo) * c.size = cap * c.size := by rw [← Nat.add_mul]; congr 1; omega
            omega
          · rw [hn] at hi
            rw [hsz] at hj ⊢
            obtain ⟨h9, h10⟩ := h8 (lo + i) j (by omega) hj
            refine ⟨?_, by rw [con_cell_sub c j (by omega)]; exact h10.step st'.hot st'.heap st'.size⟩
            rw [show o + lo * c.size + i * c.size + j = o + (lo + i) * c.size + j from by rw [Nat.add_mul]; omega]
            exact h9
    · subst h2; trivial
    · simp only [ρ', h2, if_false]
      exact (hs.obj k o h3).step st (fun _ _ _ => rfl)
  · have cls : ∀ {k : Nat} {o : AObj}, (L.set id .dead ++ [x])[k]? = some o → o.alive = true → blk (ρ' k) = some b → (k = L.length ∧ blk (ρ id) = some b) ∨ (k ≠ id ∧ k ≠ L.length ∧ L[k]? = some o ∧ blk (ρ k) = some b) := by
      intro k o ho ha hb
      rcases old ho with ⟨h1, h2⟩ | ⟨h1, h2⟩ | ⟨h1, h2, h3⟩
      · simp only [ρ', h1, if_true] at hb
        exact .inl ⟨h1, hblk b hb⟩
      · subst h2; cases ha
      · simp only [ρ', h2, if_false] at hb
        exact .inr ⟨h1, h2, h3, hb⟩
    rcases cls hi ai bi with ⟨h1, h2⟩ | ⟨h1, h2, h3, h4⟩ <;> rcases cls hj aj bj with ⟨k1, k2⟩ | ⟨k1, k2, k3, k4⟩
    · rw [h1, k1]
    · exact absurd (hs.inj j id oj _ b k3 hid aj rfl k4 h2) k1
    · exact absurd (hs.inj i id oi _ b h3 hid ai rfl h4 k2) h1
    · exact hs.inj i j oi oj b h3 k3 ai aj h4 k4
  · unfold Den1
    refine ⟨rfl, x, newx, fun c' e' _ => ?_⟩
    simp only [ρ', if_true]

theorem nil1_ok {ces : List (Bool × Con × TypeId)} {a : AV} (hs : Sat ρ (lk L) G w) :
    (∀ v, DenV ρ (lk L) (Hot ρ (lk L) G) w a v → ∃ ρ', Sat ρ' (lk (nil1 ces L a).2.1) G w ∧ stp ρ L G w ρ' (nil1 ces L a).2.1 ∧ DenV ρ' (lk (nil1 ces L a).2.1) (Hot ρ' (lk (nil1 ces L a).2.1) G) w (nil1 ces L a).1 v) ∧
    (∀ cs, DenC ρ (lk L) (Hot ρ (lk L) G) w a cs → ∃ ρ', Sat ρ' (lk (nil1 ces L a).2.1) G w ∧ stp ρ L G w ρ' (nil1 ces L a).2.1 ∧ DenC ρ' (lk (nil1 ces L a).2.1) (Hot ρ' (lk (nil1 ces L a).2.1) G) w (nil1 ces L a).1 cs) := by
  have same : ∀ a, (∀ v, DenV ρ (lk L) (Hot ρ (lk L) G) w a v → ∃ ρ', Sat ρ' (lk L) G w ∧ stp ρ L G w ρ' L ∧ DenV ρ' (lk L) (Hot ρ' (lk L) G) w a v) ∧ (∀ cs, DenC ρ (lk L) (Hot ρ (lk L) G) w a cs → ∃ ρ', Sat ρ' (lk L) G w ∧ stp ρ L G w ρ' L ∧ DenC ρ' (lk L) (Hot ρ' (lk L) G) w a cs) :=
    fun a => ⟨fun v h => ⟨ρ, hs, Step.refl _ _ _ _, h⟩, fun cs h => ⟨ρ, hs, Step.refl _ _ _ _, h⟩⟩
  unfold nil1
  split
  · split
    · rename_i ro c e r
      cases hc : c.n.beq 0
      · exact same _
      · have hc := Nat.eq_of_beq_eq_true hc
        cases ro
        · refine ⟨fun v h => ?_, fun cs h => ?_⟩
          · unfold DenV at h
            obtain ⟨x, rfl⟩ := h
            obtain ⟨ρ', h1, h2, h3⟩ := ext1 hs hc e x
            exact ⟨ρ', h1, h2, by simp only [cond_true, cond_false]; unfold DenV; exact h3 _⟩
          · unfold DenC at h
            obtain ⟨u, rfl, x, rfl⟩ := h
            obtain ⟨ρ', h1, h2, h3⟩ := ext1 hs hc e x
            exact ⟨ρ', h1, h2, by simp only [cond_true, cond_false]; unfold DenC; exact ⟨_, rfl, h3 _⟩⟩
        · refine ⟨fun v h => ?_, fun cs h => ?_⟩
          · unfold DenV at h
            obtain ⟨x, rfl⟩ := h
            exact ⟨ρ, hs, Step.refl _ _ _ _, DenV_s (emp_ro hc x)⟩
          · unfold DenC at h
            obtain ⟨u, rfl, x, rfl⟩ := h
            exact ⟨ρ, hs, Step.refl _ _ _ _, by simp only [cond_true]; unfold DenC; exact ⟨_, rfl, emp_ro hc x⟩⟩
    · exact same _
  · rename_i id
    split
    · split
      · rename_i c e hid
        obtain ⟨f1, f2, f3⟩ := freeze1 hs hid
        have key : ∀ v, Den1 ρ (lk L) (Hot ρ (lk L) G) w (.vec id) v → v = ρ id := by
          intro v hv
          unfold Den1 at hv
          obtain ⟨_, o, ho, h4⟩ := hv
          rw [show lk L id = some (.vec c e) from hid] at ho
          cases ho
          exact h4 c e rfl
        refine ⟨fun v h => ⟨ρ, f1, f2, ?_⟩, fun cs h => ⟨ρ, f1, f2, ?_⟩⟩
        · unfold DenV at h
          rw [key v h]
          exact DenV_s f3
        · unfold DenC at h
          obtain ⟨u, rfl, h5⟩ := h
          unfold DenC
          exact ⟨u, rfl, by rw [key u h5]; exact f3⟩
      · exact same _
    · exact same _
  · exact same _
  · rename_i id lo n
    split
    · rename_i c e hid
      refine ⟨fun v h => ?_, fun cs h => ?_⟩
      · obtain ⟨ρ', h1, h2, h3⟩ := retract hs hid h
        exact ⟨ρ', h1, h2, by unfold DenV; exact h3 _⟩
      · unfold DenC at h
        obtain ⟨u, rfl, h5⟩ := h
        obtain ⟨ρ', h1, h2, h3⟩ := retract hs hid (by unfold DenV; exact h5)
        exact ⟨ρ', h1, h2, by unfold DenC; exact ⟨u, rfl, h3 _⟩⟩
    · exact same _
  · exact same _

theorem nilSegs_ok : ∀ (azs : List AV) {ces : List (Bool × Con × TypeId)} {L : List AObj} {ρ : Nat → Value} {cs : List Value}, Sat ρ (lk L) G w → DenSegs ρ (lk L) (Hot ρ (lk L) G) w azs cs →
    ∃ ρ', Sat ρ' (lk (nilL nil1 ces L azs).2.1) G w ∧ stp ρ L G w ρ' (nilL nil1 ces L azs).2.1 ∧ DenSegs ρ' (lk (nilL nil1 ces L azs).2.1) (Hot ρ' (lk (nilL nil1 ces L azs).2.1) G) w (nilL nil1 ces L azs).1 cs
  | [], ces, L, ρ, cs, hs, hd => ⟨ρ, hs, Step.refl _ _ _ _, hd⟩
  | a :: azs, ces, L, ρ, cs, hs, hd => by
    obtain ⟨c1, c2, rfl, h1, h2⟩ := DenSegs_cons.1 hd
    obtain ⟨ρ1, h3, h4, h5⟩ := (nil1_ok (ces := ces) hs).2 c1 h1
    obtain ⟨ρ2, h6, h7, h8⟩ := nilSegs_ok azs (ces := (nil1 ces L a).2.2) h3 (DenSegs.step h4 azs c2 h2)
    exact ⟨ρ2, h6, h4.trans h7, DenSegs_cons.2 ⟨c1, c2, rfl, DenC.step h7 _ _ h5, h8⟩⟩

theorem nilA_ok {ces : List (Bool × Con × TypeId)} {a : AV} {v : Value} (hs : Sat ρ (lk L) G w) (hd : DenV ρ (lk L) (Hot ρ (lk L) G) w a v) :
    ∃ ρ', Sat ρ' (lk (nilA ces L a).2.1) G w ∧ stp ρ L G w ρ' (nilA ces L a).2.1 ∧ DenV ρ' (lk (nilA ces L a).2.1) (Hot ρ' (lk (nilA ces L a).2.1) G) w (nilA ces L a).1 v := by
  unfold nilA
  split
  · rename_i segs
    unfold DenV at hd
    obtain ⟨cs, h1, h2⟩ := hd
    obtain ⟨ρ', h3, h4, h5⟩ := nilSegs_ok segs (ces := ces) hs h2
    exact ⟨ρ', h3, h4, by unfold DenV; exact ⟨cs, h1, h5⟩⟩
  · exact (nil1_ok hs).1 v hd

theorem nilVals_ok : ∀ (azs : List AV) {ces : List (Bool × Con × TypeId)} {L : List AObj} {ρ : Nat → Value} {vs : List Value}, Sat ρ (lk L) G w → DenL ρ (lk L) (Hot ρ (lk L) G) w azs vs →
    ∃ ρ', Sat ρ' (lk (nilL nilA ces L azs).2.1) G w ∧ stp ρ L G w ρ' (nilL nilA ces L azs).2.1 ∧ DenL ρ' (lk (nilL nilA ces L azs).2.1) (Hot ρ' (lk (nilL nilA ces L azs).2.1) G) w (nilL nilA ces L azs).1 vs
  | [], ces, L, ρ, cs, hs, hd => ⟨ρ, hs, Step.refl _ _ _ _, hd⟩
  | a :: azs, ces, L, ρ, cs, hs, hd => by
    obtain ⟨v, rest, rfl, h1, h2⟩ := DenL_cons.1 hd
    obtain ⟨ρ1, h3, h4, h5⟩ := nilA_ok (ces := ces) hs h1
    obtain ⟨ρ2, h6, h7, h8⟩ := nilVals_ok azs (ces := (nilA ces L a).2.2) h3 (DenL.step h4 azs rest h2)
    exact ⟨ρ2, h6, h4.trans h7, DenL_cons.2 ⟨v, rest, rfl, DenV.step h7 _ _ h5, h8⟩⟩

theorem nilV_ok {ces : List (Bool × Con × TypeId)} {a : AV} {v : Value} (hs : Sat ρ (lk L) G w) (hd : DenV ρ (lk L) (Hot ρ (lk L) G) w a v) :
    ∃ ρ', Sat ρ' (lk (nilV ces L a).2) G w ∧ stp ρ L G w ρ' (nilV ces L a).2 ∧ DenV ρ' (lk (nilV ces L a).2) (Hot ρ' (lk (nilV ces L a).2) G) w (nilV ces L a).1 v := by
  unfold nilV
  split
  · rename_i vs
    unfold DenV at hd
    obtain ⟨us, h1, h2⟩ := hd
    obtain ⟨ρ', h3, h4, h5⟩ := nilVals_ok vs (ces := ces) hs h2
    exact ⟨ρ', h3, h4, by unfold DenV; exact ⟨us, h1, h5⟩⟩
  · exact nilA_ok hs hd

theorem canR_good {ces : List (Bool × Con × TypeId)} {r r' : AV} {v : Value} {L' : List AObj} (h : Good ρ H G w (lk L) r v w') (h0 : ∀ id, H id = none) (hc : canR ces L r = some (L', r')) : Good ρ H G w (lk L') r' v w' := by
  unfold canR at hc
  simp only [Bool.cond_eq_ite] at hc
  split at hc
  · rename_i hn
    split at hc
    · rename_i L1 r1 hL hr
      simp only [Option.some.injEq, Prod.mk.injEq] at hc
      obtain ⟨rfl, rfl⟩ := hc
      obtain ⟨ρ1, h1, h2, h3, h4⟩ := h
      obtain ⟨ρ2, h5, h6, h7⟩ := nilV_ok (ces := ces) h1 h2
      exact Good.view (m := 0) ⟨ρ2, h5, h7, h3.trans h6, h4⟩ (nodupB_spec hn) hL (fun i hi => by omega) (fun id _ => h0 id) hr
    · cases hc
  · cases hc
end
end Go.Sx

/-! A function's contract, and its summary for those who call it. -/
namespace Go.Sx
open Go

def B.out (base : Nat) : (b : B) → b.V → AV × List AObj
  | .row r e, x => (.vec base, [.vec (r.con x) e])
  | .int k, x => (.s (.int k x), [])
  | .bool, x => (.s (.bool x), [])
  | .str, x => (.s (.str x), [])
  | .arr k n, x => (.ints k n x, [])
  | .fn, f => (.s (.fn0 f), [])
  | .rrow r _, x => (.s (.ro (r.con x)), [])

def BL.out (base : Nat) : (bs : List B) → BL bs → List AV × List AObj
  | [], _ => ([], [])
  | b :: bs, (x, y) => let p := b.out base x; let q := BL.out (base + p.2.length) bs y; (p.1 :: q.1, p.2 ++ q.2)

def Ty.out (base : Nat) : (t : Ty) → t.V → AV × List AObj
  | .b x, v => x.out base v
  | .st bs, v => let q := BL.out base bs v; (.agg q.1, q.2)

def AL.out (base : Nat) : (ts : List Ty) → AL ts → List AV × List AObj
  | [], _ => ([], [])
  | t :: ts, (x, y) => let p := t.out base x; let q := AL.out (base + p.2.length) ts y; (p.1 :: q.1, p.2 ++ q.2)

/-- What a function hands back. -/
def AL.res (rs : List Ty) (y : AL rs) : List AObj × AV := let q := AL.out 0 rs y; (q.2, oneOf q.1)

def B.flat : B → Bool
  | .row r _ => r.flat
  | .rrow _ _ => false
  | _ => true
def Ty.flat : Ty → Bool
  | .b x => x.flat
  | .st bs => bs.all B.flat
/-- Rows that are new bear plain cells; others stand still. -/
def B.flatR : B → Bool
  | .row r _ => r.flat
  | _ => true
def Ty.flatR : Ty → Bool
  | .b x => x.flatR
  | .st bs => bs.all B.flatR

def B.ces : B → List (Bool × Con × TypeId)
  | .row r e => [(false, r.con [], e)]
  | .rrow r e => [(true, r.con [], e)]
  | _ => []
def Ty.ces : Ty → List (Bool × Con × TypeId)
  | .b x => x.ces
  | .st bs => bs.flatMap B.ces

/-- What a function does: plain values in, plain values out. -/
def FnOk (P : Program) (Z : Glob) (f : FuncId) (ts rs : List Ty) (pre : AL ts → List Prop) (F : AL ts → AL rs) : Prop :=
  ∀ (x : AL ts), AL.ok ts x → Needs (pre x) → ∀ (G : Nat → Prop) (w : World) (vs : List Value), (∀ b, G b → b < w.heap.size) → Z.ok w → DenL (fun _ => undef) (fun _ => none) (Hot (fun _ => undef) (fun _ => none) G) w (AL.av ts x) vs →
    Calls P f vs.toArray w fun e w' => ∃ v, e = .returned v ∧ Good (fun _ => undef) (fun _ => none) G w (lk (AL.res rs (F x)).1) (AL.res rs (F x)).2 v w'

/-- The run's end, as it is owed. -/
def Ends (rs : List Ty) (y : AL rs) (L : List AObj) (r : AV) : Prop := canR (rs.flatMap Ty.ces) L r = some (AL.res rs y)

/-! ### calls -/
def frz1 (a : AV) (k : AV → RM Res) : RM Res :=
  match a with
  | .vec id => .look id fun
    | some (.vec c _) => k (.s (.ro c))
    | _ => .fail "frz"
  | a => k a

def frzL : List AV → (List AV → RM Res) → RM Res
  | [], k => k []
  | a :: azs, k => frz1 a fun a' => frzL azs fun azs' => k (a' :: azs')

def frzV (a : AV) (k : AV → RM Res) : RM Res :=
  match a with
  | .agg segs => frzL segs fun s => k (.agg s)
  | a => frz1 a k

def frzA : List AV → (List AV → RM Res) → RM Res
  | [], k => k []
  | a :: azs, k => frzV a fun a' => frzA azs fun azs' => k (a' :: azs')

/-- The summary of a contract. -/
def sumOf (ts rs : List Ty) (pre : AL ts → List Prop) (F : AL ts → AL rs) : Nat → List AV → RM Res := fun _ args =>
  frzA args fun args => match allM (rn (fun _ => none) 20) args with
    | some args => (match AL.rd ts args with
      | some x => bif rs.all Ty.flat then .ret ⟨pre x, [], (AL.res rs (F x)).1, fun base => oneOf (AL.out base rs (F x)).1⟩ else .fail "sum: not flat"
      | none => .fail "sum: arguments")
    | none => .fail "sum: names"

section
variable {g : Nat → Option Nat} {ρ ρ' : Nat → Value} {H H' : AHeap} {G O O' : Nat → Prop} {w w' : World} {P : Program} {S : SummB} {Z : Glob} {X : Ctx} {s : St} {a : Act} {K : List AObj → AV → Prop} {C : Cfg → Prop} {L : List AObj}

theorem AL.av_length : ∀ {ts : List Ty} (x : AL ts), (AL.av ts x).length = ts.length
  | [], _ => rfl
  | _ :: _, (_, y) => congrArg (· + 1) (AL.av_length y)

theorem fnOk_of_safe {f : FuncId} {fn : Func} {ts rs : List Ty} {pre : AL ts → List Prop} {F : AL ts → AL rs} (hf : P.funcs[f]? = some fn) (hb : fn.body.isSome = true) (hn : ts.length.ble fn.ntmps = true)
    (h : ∀ x, AL.ok ts x → Needs (pre x) → ∀ X : Ctx, (∀ id, X.H id = none) → ZCtx Z X → Safe P f X (Ends rs (F x)) (start fn (AL.av ts x) [])) : FnOk P Z f ts rs pre F := by
  intro x hok hpre G w vs hG hz hd
  obtain ⟨c, hb⟩ := Option.isSome_iff_exists.1 hb
  have hn := Nat.le_of_ble_eq_true hn
  have hlenA : (AL.av ts x).length = ts.length := AL.av_length x
  have hlenV : ∀ {azs : List AV} {vs : List Value}, DenL (fun _ => undef) (fun _ => none) (Hot (fun _ => undef) (fun _ => none) G) w azs vs → vs.length = azs.length := by
    intro azs
    induction azs with
    | nil => intro vs h; rw [DenL_nil.1 h]; rfl
    | cons a azs ih => intro vs h; obtain ⟨v, rest, rfl, _, h2⟩ := DenL_cons.1 h; simp [ih h2]
  refine (calls_of_goes (R := Post ⟨fun _ => undef, fun _ => none, G, w, [], fun _ _ => False⟩ (Ends rs (F x))) hf hb ?_).mono ?_
  · have := (h x hok hpre ⟨fun _ => undef, fun _ => none, G, w, [], fun _ _ => False⟩ (fun _ => rfl) ⟨hz, fun b _ ⟨id, o, ho, _⟩ => by cases ho⟩).goes rfl rfl (ρ := fun _ => undef) (a := { tmps := vs.toArray ++ Array.replicate (fn.ntmps - vs.toArray.size) undef, defers := [] }) (w := w)
    simp only [start, hb, Option.getD_some] at this
    refine this ⟨⟨fun id o ho => by simp [St.look] at ho, fun i j oi oj b hi => by simp [St.look] at hi, fun b hb' => ?_, hG⟩, ?_, fun t => ?_, rfl, ?_, ?_, fun x hx => by cases hx⟩
    · obtain ⟨id, o, ho, _⟩ := hb'
      simp [St.look] at ho
    · have := hlenV hd
      simp [this]
    · have e1 : ∀ t, DenV (fun _ => undef) (St.look ⟨AL.av ts x ++ List.replicate (fn.ntmps - (AL.av ts x).length) (.tup []), []⟩) (Hot (fun _ => undef) (St.look ⟨AL.av ts x ++ List.replicate (fn.ntmps - (AL.av ts x).length) (.tup []), []⟩) G) w ((AL.av ts x).getD t (.tup [])) (vs.getD t undef) := by
        have e0 : (St.look ⟨AL.av ts x ++ List.replicate (fn.ntmps - (AL.av ts x).length) (.tup []), []⟩) = fun _ => none := by funext i; simp [St.look]
        rw [e0]
        generalize AL.av ts x = azs at hd
        clear hlenA e0 this
        induction azs generalizing vs with
        | nil => intro t; rw [DenL_nil.1 hd]; simp only [List.getD, List.getElem?_nil, Option.getD_none]; exact den_undef
        | cons a azs ih =>
          intro t
          obtain ⟨v, rest, rfl, h1, h2⟩ := DenL_cons.1 hd
          cases t with
          | zero => simpa using h1
          | succ t => simpa using ih rest h2 t
      have h1 := e1 t
      have hl := hlenV hd
      simp only [List.getD_eq_getElem?_getD, List.getElem?_append, List.getElem?_replicate, Array.getD_eq_getD_getElem?, Array.getElem?_append, List.getElem?_toArray, Array.getElem?_replicate, List.size_toArray] at h1 ⊢
      rw [hl]
      split
      · rename_i ht
        have hv : vs[t]? = some vs[t] := List.getElem?_eq_getElem (by omega)
        have ha : (AL.av ts x)[t]? = some (AL.av ts x)[t] := List.getElem?_eq_getElem ht
        rw [hv, ha] at h1 ⊢
        exact h1
      · split
        · exact den_undef
        · simp only [Option.getD_none]
          unfold DenV
          trivial
    · have e0 : (St.look ⟨AL.av ts x ++ List.replicate (fn.ntmps - (AL.av ts x).length) (.tup []), []⟩) = fun _ => none := by funext i; simp [St.look]
      rw [e0]
      exact Step.refl _ _ _ _
    · exact ⟨rfl, rfl, rfl, fun _ _ _ => rfl⟩
  · rintro e w' (⟨v, he, L, r, hk, hg⟩ | hp)
    rotate_left
    exact False.elim hp
    refine ⟨v, he, ?_⟩
    exact canR_good hg (fun _ => rfl) hk

theorem RM.frz1_ok {azs : AV} {k : AV → RM Res} {q : Res} (h : (frz1 azs k).eval H = some q) (hs : Sat ρ H G w) : ∃ a', (k a').eval H = some q ∧ (∀ v, DenV ρ H (Hot ρ H G) w azs v → DenV ρ H (fun _ => False) w a' v) ∧ (∀ cs, DenC ρ H (Hot ρ H G) w azs cs → DenC ρ H (fun _ => False) w a' cs) := by
  have less : Emb (fun i => some i) ρ H (Hot ρ H G) ρ H (fun _ => False) := ⟨fun i j h => by cases h; exact ⟨rfl, fun o ho => ⟨o, ho, fun c e hc => hc⟩⟩, fun b hb => hb.elim⟩
  have lessV : ∀ (a : AV) (v : Value), DenV ρ H (Hot ρ H G) w a v → DenV ρ H (fun _ => False) w a v := fun a v hd => DenV.step ⟨fun _ _ _ => rfl, fun _ o h => ⟨o, h, fun c' e' e => ⟨c', e', e, rfl, rfl⟩⟩, fun b hb => hb.elim, fun _ _ _ => rfl, Nat.le_refl _⟩ a v hd
  have lessC : ∀ (a : AV) (v : List Value), DenC ρ H (Hot ρ H G) w a v → DenC ρ H (fun _ => False) w a v := fun a v hd => DenC.step ⟨fun _ _ _ => rfl, fun _ o h => ⟨o, h, fun c' e' e => ⟨c', e', e, rfl, rfl⟩⟩, fun b hb => hb.elim, fun _ _ _ => rfl, Nat.le_refl _⟩ a v hd
  unfold frz1 at h
  split at h
  · rename_i id
    simp only [RM.eval] at h
    split at h
    · rename_i c e hc
      have hobj := hs.obj id _ hc
      obtain ⟨r, cap, h0, h1, h2, h3⟩ := hobj
      have key : ∀ v, Den1 ρ H (Hot ρ H G) w (.vec id) v → DenS (fun _ => False) w (.ro c) v := by
        intro v hv
        unfold Den1 at hv
        obtain ⟨_, o, ho, h4⟩ := hv
        rw [hc] at ho
        cases ho
        rw [h4 c e rfl, h0]
        rcases h3 with h3 | ⟨b, f, cells, fr, us, rfl, h5, h6, h7, h8⟩
        · exact .ro c r cap (fun _ _ => undef) 0 0 h1 h2 (fun h => by omega) (fun i j hi hj => by omega) (fun i j hi hj => by omega)
        · refine .ro c _ cap us b f h1 h2 (fun _ => ⟨rfl, fun h => h.elim, (Array.getElem?_eq_some_iff.1 h5).1⟩) (fun i j hi hj => ?_) (fun i j hi hj => (h8 i j hi hj).2.less (fun b hb => hb.elim))
          have := (h8 i j hi hj).1
          simp only [World.cell?, h5]
          simpa using this
      exact ⟨_, h, fun v hv => DenV_s (key v (by unfold DenV at hv; exact hv)), fun cs hv => by unfold DenC at *; obtain ⟨u, rfl, h9⟩ := hv; exact ⟨u, rfl, key u h9⟩⟩
    · simp [RM.eval] at h
  · exact ⟨_, h, lessV _, lessC _⟩

theorem RM.frzL_ok : ∀ {azs : List AV} {k : List AV → RM Res} {q : Res}, (frzL azs k).eval H = some q → Sat ρ H G w → ∃ azs', (k azs').eval H = some q ∧ ∀ cs, DenSegs ρ H (Hot ρ H G) w azs cs → DenSegs ρ H (fun _ => False) w azs' cs
  | [], k, q, h, hs => ⟨[], h, fun cs hd => by rw [DenSegs_nil.1 hd]; exact DenSegs_nil.2 rfl⟩
  | a :: azs, k, q, h, hs => by
    obtain ⟨a', h1, h2, h3⟩ := RM.frz1_ok h hs
    obtain ⟨azs', h4, h5⟩ := RM.frzL_ok h1 hs
    refine ⟨a' :: azs', h4, fun cs hd => ?_⟩
    obtain ⟨c1, c2, rfl, h6, h7⟩ := DenSegs_cons.1 hd
    exact DenSegs_cons.2 ⟨c1, c2, rfl, h3 c1 h6, h5 c2 h7⟩

theorem RM.frzV_ok {azs : AV} {k : AV → RM Res} {q : Res} (h : (frzV azs k).eval H = some q) (hs : Sat ρ H G w) : ∃ a', (k a').eval H = some q ∧ (∀ v, DenV ρ H (Hot ρ H G) w azs v → DenV ρ H (fun _ => False) w a' v) := by
  unfold frzV at h
  split at h
  · obtain ⟨azs', h1, h2⟩ := RM.frzL_ok h hs
    refine ⟨_, h1, fun v hd => ?_⟩
    unfold DenV at *
    obtain ⟨cs, h3, h4⟩ := hd
    exact ⟨cs, h3, h2 cs h4⟩
  · obtain ⟨a', h1, h2, _⟩ := RM.frz1_ok h hs
    exact ⟨a', h1, h2⟩

theorem RM.frzA_ok : ∀ {azs : List AV} {k : List AV → RM Res} {q : Res}, (frzA azs k).eval H = some q → Sat ρ H G w → ∃ azs', (k azs').eval H = some q ∧ ∀ cs, DenL ρ H (Hot ρ H G) w azs cs → DenL ρ H (fun _ => False) w azs' cs
  | [], k, q, h, hs => ⟨[], h, fun cs hd => by rw [DenL_nil.1 hd]; exact DenL_nil.2 rfl⟩
  | a :: azs, k, q, h, hs => by
    obtain ⟨a', h1, h2⟩ := RM.frzV_ok h hs
    obtain ⟨azs', h4, h5⟩ := RM.frzA_ok h1 hs
    refine ⟨a' :: azs', h4, fun cs hd => ?_⟩
    obtain ⟨v, rest, rfl, h6, h7⟩ := DenL_cons.1 hd
    exact DenL_cons.2 ⟨v, rest, rfl, h2 v h6, h5 rest h7⟩

theorem CL_flat_den : ∀ {cs : List CK} (_ : cs.all CK.flat = true) {x : CL cs} {j : Nat} {u : Value}, j < CL.wide cs → DenS O w (CL.cell cs x j) u → DenS O' w (CL.cell cs x j) u
  | [], _, x, j, u, hj, h => by simp [CL.wide] at hj
  | c :: cs, hf, x, j, u, hj, h => by
    simp only [List.all_cons, Bool.and_eq_true] at hf
    simp only [CL.cell] at h ⊢
    rcases Nat.lt_or_ge j c.wide with h5 | h5
    · rw [blt_t h5, cond_true] at h ⊢
      cases c <;> simp only [CK.flat, Bool.false_eq_true] at hf
      case int k => exact (by simp only [CK.cell] at h ⊢; cases h; constructor)
      case bool => exact (by simp only [CK.cell] at h ⊢; cases h; constructor)
      case str => exact (by simp only [CK.cell] at h ⊢; cases h; constructor)
      case arr k n => exact (by simp only [CK.cell] at h ⊢; cases h; constructor)
      all_goals exact hf.1.elim
    · rw [blt_f h5, cond_false] at h ⊢
      exact CL_flat_den hf.2 (by simp only [CL.wide] at hj; omega) h

theorem RK.flat_den {r : RK} (hr : r.flat = true) {x : r.V} {i j : Nat} {u : Value} (hj : j < (r.con x).size) (h : DenS O w ((r.con x).cell i j) u) : DenS O' w ((r.con x).cell i j) u := by
  cases r
  case typ cs => exact CL_flat_den hr hj h
  all_goals (simp only [RK.con, Con.cell] at h ⊢; cases h; constructor)

/-- Objects that bear plain rows alone. -/
def Plain (o : AObj) : Prop := ∃ (r : RK) (x : r.V) (e : TypeId), r.flat = true ∧ o = .vec (r.con x) e

theorem B.out_plain {b : B} (hb : b.flatR = true) {x : b.V} {base : Nat} : ∀ o ∈ (b.out base x).2, Plain o := by
  cases b with
  | row r e => intro o ho; simp only [B.out, List.mem_singleton] at ho; exact ⟨r, x, e, hb, ho⟩
  | _ => intro o ho; simp [B.out] at ho

theorem BL.out_plain : ∀ {bs : List B}, bs.all B.flatR = true → ∀ {x : BL bs} {base : Nat}, ∀ o ∈ (BL.out base bs x).2, Plain o
  | [], _, x, base, o, ho => by simp [BL.out] at ho
  | b :: bs, hb, (x, y), base, o, ho => by
    simp only [List.all_cons, Bool.and_eq_true] at hb
    simp only [BL.out, List.mem_append] at ho
    rcases ho with ho | ho
    · exact B.out_plain hb.1 o ho
    · exact BL.out_plain hb.2 o ho

theorem Ty.out_plain {t : Ty} (ht : t.flatR = true) {x : t.V} {base : Nat} : ∀ o ∈ (t.out base x).2, Plain o := by
  cases t with
  | b y => exact B.out_plain ht
  | st bs => exact BL.out_plain ht

theorem AL.out_plain : ∀ {ts : List Ty}, ts.all Ty.flatR = true → ∀ {x : AL ts} {base : Nat}, ∀ o ∈ (AL.out base ts x).2, Plain o
  | [], _, x, base, o, ho => by simp [AL.out] at ho
  | b :: bs, hb, (x, y), base, o, ho => by
    simp only [List.all_cons, Bool.and_eq_true] at hb
    simp only [AL.out, List.mem_append] at ho
    rcases ho with ho | ho
    · exact Ty.out_plain hb.1 o ho
    · exact AL.out_plain hb.2 o ho

/-- From the names from 0 on to those from a base on. -/
structure Shift (base n : Nat) (ρ : Nat → Value) (H : AHeap) (ρ' : Nat → Value) (H' : AHeap) : Prop where
  rho : ∀ i, i < n → ρ' (base + i) = ρ i
  heap : ∀ i, i < n → H' (base + i) = H i

theorem vec_shift {base n k : Nat} (sh : Shift base n ρ H ρ' H') (hk : k < n) {v : Value} (h : Den1 ρ H O w (.vec k) v) : Den1 ρ' H' O' w (.vec (base + k)) v := by
  unfold Den1 at *
  obtain ⟨h0, o, ho, h1⟩ := h
  exact ⟨h0, o, by rw [sh.heap k hk]; exact ho, fun c e hc => by rw [sh.rho k hk]; exact h1 c e hc⟩

theorem B.shiftV {base n k : Nat} (sh : Shift base n ρ H ρ' H') {b : B} (hO : b.flat = true ∨ ∀ i, O' i → O i) {x : b.V} (hk : k + (b.out k x).2.length ≤ n) {v : Value} (h : DenV ρ H O w (b.out k x).1 v) : DenV ρ' H' O' w (b.out (base + k) x).1 v := by
  cases b with
  | row r e =>
    simp only [B.out, List.length_cons, List.length_nil] at hk h ⊢
    unfold DenV at *
    exact vec_shift sh (by omega) h
  | int k => exact DenV_s (by have := DenS_of_V (by simp) h; cases this; constructor)
  | bool => exact DenV_s (by have := DenS_of_V (by simp) h; cases this; constructor)
  | str => exact DenV_s (by have := DenS_of_V (by simp) h; cases this; constructor)
  | fn => exact DenV_s (by have := DenS_of_V (by simp) h; cases this; constructor)
  | rrow r e =>
    rcases hO with hO | hO
    · cases hO
    · exact DenV_s ((DenS_of_V (by simp) h).less hO)
  | arr k n => simp only [B.out] at h ⊢; unfold DenV at *; exact h

theorem B.shiftC {base n k : Nat} (sh : Shift base n ρ H ρ' H') {b : B} (hO : b.flat = true ∨ ∀ i, O' i → O i) {x : b.V} (hk : k + (b.out k x).2.length ≤ n) {v : List Value} (h : DenC ρ H O w (b.out k x).1 v) : DenC ρ' H' O' w (b.out (base + k) x).1 v := by
  cases b with
  | row r e =>
    simp only [B.out, List.length_cons, List.length_nil] at hk h ⊢
    unfold DenC at *
    obtain ⟨u, rfl, h1⟩ := h
    exact ⟨u, rfl, vec_shift sh (by omega) h1⟩
  | int k => simp only [B.out] at h ⊢; unfold DenC at *; obtain ⟨u, rfl, h1⟩ := h; exact ⟨u, rfl, by cases h1; constructor⟩
  | bool => simp only [B.out] at h ⊢; unfold DenC at *; obtain ⟨u, rfl, h1⟩ := h; exact ⟨u, rfl, by cases h1; constructor⟩
  | str => simp only [B.out] at h ⊢; unfold DenC at *; obtain ⟨u, rfl, h1⟩ := h; exact ⟨u, rfl, by cases h1; constructor⟩
  | fn => simp only [B.out] at h ⊢; unfold DenC at *; obtain ⟨u, rfl, h1⟩ := h; exact ⟨u, rfl, by cases h1; constructor⟩
  | rrow r e =>
    simp only [B.out] at h ⊢
    unfold DenC at *
    obtain ⟨u, rfl, h1⟩ := h
    rcases hO with hO | hO
    · cases hO
    · exact ⟨u, rfl, h1.less hO⟩
  | arr k n => simp only [B.out] at h ⊢; unfold DenC at *; exact h

theorem B.out_len {b : B} {x : b.V} (k k' : Nat) : (b.out k x).2 = (b.out k' x).2 := by cases b <;> rfl

theorem BL.out_len : ∀ {bs : List B} {x : BL bs} (k k' : Nat), (BL.out k bs x).2 = (BL.out k' bs x).2
  | [], _, _, _ => rfl
  | b :: bs, (x, y), k, k' => by
    simp only [BL.out]
    rw [B.out_len k k', BL.out_len (k + _) (k' + (b.out k' x).2.length)]

theorem Ty.out_len {t : Ty} {x : t.V} (k k' : Nat) : (t.out k x).2 = (t.out k' x).2 := by
  cases t with
  | b y => exact B.out_len k k'
  | st bs => exact BL.out_len k k'

theorem AL.out_len : ∀ {ts : List Ty} {x : AL ts} (k k' : Nat), (AL.out k ts x).2 = (AL.out k' ts x).2
  | [], _, _, _ => rfl
  | b :: bs, (x, y), k, k' => by
    simp only [AL.out]
    rw [Ty.out_len k k', AL.out_len (k + _) (k' + (b.out k' x).2.length)]

theorem BL.shift {base n : Nat} (sh : Shift base n ρ H ρ' H') : ∀ {bs : List B} (_ : bs.all B.flat = true ∨ ∀ i, O' i → O i) {k : Nat} {x : BL bs} {cs : List Value}, k + (BL.out k bs x).2.length ≤ n → DenSegs ρ H O w (BL.out k bs x).1 cs → DenSegs ρ' H' O' w (BL.out (base + k) bs x).1 cs
  | [], _, k, x, cs, hk, h => by rw [DenSegs_nil.1 h]; exact DenSegs_nil.2 rfl
  | b :: bs, hO, k, (x, y), cs, hk, h => by
    simp only [BL.out, List.length_append] at hk h ⊢
    obtain ⟨c1, c2, rfl, h1, h2⟩ := DenSegs_cons.1 h
    have hO1 : b.flat = true ∨ ∀ i, O' i → O i := hO.imp (fun h => by simp only [List.all_cons, Bool.and_eq_true] at h; exact h.1) (fun h => h)
    have hO2 : bs.all B.flat = true ∨ ∀ i, O' i → O i := hO.imp (fun h => by simp only [List.all_cons, Bool.and_eq_true] at h; exact h.2) (fun h => h)
    refine DenSegs_cons.2 ⟨c1, c2, rfl, B.shiftC sh hO1 (by omega) h1, ?_⟩
    rw [B.out_len (base + k) k, Nat.add_assoc]
    exact BL.shift sh hO2 (by omega) h2

theorem Ty.shift {base n k : Nat} (sh : Shift base n ρ H ρ' H') {t : Ty} (hO : t.flat = true ∨ ∀ i, O' i → O i) {x : t.V} (hk : k + (t.out k x).2.length ≤ n) {v : Value} (h : DenV ρ H O w (t.out k x).1 v) : DenV ρ' H' O' w (t.out (base + k) x).1 v := by
  cases t with
  | b y => exact B.shiftV sh hO hk h
  | st bs =>
    simp only [Ty.out] at hk h ⊢
    unfold DenV at *
    obtain ⟨cs, h1, h2⟩ := h
    exact ⟨cs, h1, BL.shift sh hO hk h2⟩

theorem AL.shift {base n : Nat} (sh : Shift base n ρ H ρ' H') : ∀ {ts : List Ty} (_ : ts.all Ty.flat = true ∨ ∀ i, O' i → O i) {k : Nat} {x : AL ts} {vs : List Value}, k + (AL.out k ts x).2.length ≤ n → DenL ρ H O w (AL.out k ts x).1 vs → DenL ρ' H' O' w (AL.out (base + k) ts x).1 vs
  | [], _, k, x, vs, hk, h => by rw [DenL_nil.1 h]; exact DenL_nil.2 rfl
  | b :: bs, hO, k, (x, y), cs, hk, h => by
    simp only [AL.out, List.length_append] at hk h ⊢
    obtain ⟨c1, c2, rfl, h1, h2⟩ := DenL_cons.1 h
    have hO1 : b.flat = true ∨ ∀ i, O' i → O i := hO.imp (fun h => by simp only [List.all_cons, Bool.and_eq_true] at h; exact h.1) (fun h => h)
    have hO2 : bs.all Ty.flat = true ∨ ∀ i, O' i → O i := hO.imp (fun h => by simp only [List.all_cons, Bool.and_eq_true] at h; exact h.2) (fun h => h)
    refine DenL_cons.2 ⟨c1, c2, rfl, Ty.shift sh hO1 (by omega) h1, ?_⟩
    rw [Ty.out_len (base + k) k, Nat.add_assoc]
    exact AL.shift sh hO2 (by omega) h2

theorem AL.out_avs : ∀ {ts : List Ty} {x : AL ts} (k : Nat), (AL.out k ts x).1.length = ts.length
  | [], _, _ => rfl
  | b :: bs, (x, y), k => by simp [AL.out, AL.out_avs]

theorem res_shift {base : Nat} {rs : List Ty} (hO : rs.all Ty.flat = true ∨ ∀ i, O' i → O i) {y : AL rs} (sh : Shift base (AL.res rs y).1.length ρ H ρ' H') {v : Value} (h : DenV ρ H O w (AL.res rs y).2 v) : DenV ρ' H' O' w (oneOf (AL.out base rs y).1) v := by
  unfold AL.res at h sh
  simp only [] at h sh
  have hl : ∀ vs, DenL ρ H O w (AL.out 0 rs y).1 vs → DenL ρ' H' O' w (AL.out (base + 0) rs y).1 vs := fun vs => AL.shift (k := 0) (x := y) (O := O) (O' := O') (w := w) sh hO (by omega)
  have l0 := AL.out_avs (x := y) 0
  have l1 := AL.out_avs (x := y) base
  generalize (AL.out 0 rs y).1 = azs at *
  rw [Nat.add_zero] at hl
  generalize (AL.out base rs y).1 = bs at *
  unfold oneOf at h ⊢
  split at h
  · rename_i a
    cases bs with
    | nil => simp at l0 l1; omega
    | cons b bs =>
      cases bs with
      | nil =>
        have := hl [v] (DenL_cons.2 ⟨v, [], rfl, h, DenL_nil.2 rfl⟩)
        obtain ⟨v', rest, e, h1, _⟩ := DenL_cons.1 this
        cases e
        exact h1
      | cons c cs => simp at l0 l1; omega
  · rename_i hne
    split
    · rename_i b
      cases azs with
      | nil => simp at l0 l1; omega
      | cons a azs =>
        cases azs with
        | nil => exact (hne a rfl).elim
        | cons c cs => simp at l0 l1; omega
    · unfold DenV at *
      obtain ⟨us, h1, h2⟩ := h
      exact ⟨us, h1, hl us h2⟩

/-- One function's summary tells the truth. -/
def SOk1 (P : Program) (Z : Glob) (f : FuncId) (s : Nat → List AV → RM Res) : Prop :=
  ∀ (base : Nat) (args : List AV) (H : AHeap) (q : Res), (s base args).eval H = some q → Needs q.need → ∀ (ρ : Nat → Value) (G : Nat → Prop) (w : World) (vs : List Value),
    (∀ i, i < q.new.length → H (base + i) = none) → ZAt Z ρ H w → Sat ρ H G w → DenL ρ H (Hot ρ H G) w args vs →
    Calls P f vs.toArray w fun en w' => ∃ v, en = .returned v ∧ Good ρ H G w (resH H q.up base q.new) (q.r base) v w'

theorem FnOk.sum {f : FuncId} {ts rs : List Ty} {pre : AL ts → List Prop} {F : AL ts → AL rs} (h : FnOk P Z f ts rs pre F) : SOk1 P Z f (sumOf ts rs pre F) := by
  intro base args H q hq hn ρ G w vs hfresh hz hs hd
  unfold sumOf at hq
  obtain ⟨args1, hq, h1⟩ := RM.frzA_ok hq hs
  split at hq
  · rename_i args2 h2
    split at hq
    · rename_i x h3
      rw [Bool.cond_eq_ite] at hq
      split at hq
      · rename_i hflat
        simp only [RM.eval, Option.some.injEq] at hq
        subst hq
        have hemp : ∀ b, ¬ Hot (fun _ => undef) (fun _ => none) (fun _ => False) b := by
          rintro b (⟨id, o, ho, _⟩ | hb)
          · cases ho
          · exact hb
        have E : Emb (fun _ => none) ρ H (fun _ => False) (fun _ => undef) (fun _ => none) (Hot (fun _ => undef) (fun _ => none) (fun _ => False)) := ⟨fun i j hij => (by cases hij), fun b hb => (hemp b hb).elim⟩
        have hd2 := rnL_den E h2 (h1 vs hd)
        have hd3 : DenL (fun _ => undef) (fun _ => none) (Hot (fun _ => undef) (fun _ => none) (fun _ => False)) w (AL.av ts x) vs := AL.rd_ok h3 hd2
        refine (h x (AL.okL hd3) hn (fun _ => False) w vs (fun b hb => hb.elim) hz.1 hd3).mono ?_
        rintro e w' ⟨v, he, ρ1, g1, g2, g3, g4⟩
        refine ⟨v, he, ?_⟩
        simp only []
        have hflatR : rs.all Ty.flatR = true := by
          rw [List.all_eq_true] at hflat ⊢
          intro t ht
          have := hflat t ht
          cases t with
          | b y => cases y <;> first | rfl | exact this | cases this
          | st bs =>
            change bs.all B.flat = true at this
            show bs.all B.flatR = true
            rw [List.all_eq_true] at this ⊢
            intro b hb
            have := this b hb
            cases b <;> first | rfl | exact this | cases this
        have hpl := AL.out_plain hflatR (x := F x) (base := 0)
        have hobjs : (AL.res rs (F x)).1 = (AL.out 0 rs (F x)).2 := rfl
        rw [← hobjs] at hpl
        generalize hL : (AL.res rs (F x)).1 = L at *
        have hnew : ∀ b, Own ρ1 (lk L) b → w.heap.size ≤ b := fun b hb => by
          rcases g3.hot b (.inl hb) with h5 | h5
          · exact (hemp b h5).elim
          · exact h5
        let ρ2 : Nat → Value := fun id => if base ≤ id ∧ id < base + L.length then ρ1 (id - base) else ρ id
        let H2 := resH H [] base L
        have hH2 : ∀ id, H2 id = if base ≤ id ∧ id < base + L.length then L[id - base]? else H id := fun id => rfl
        have sh : Shift base L.length ρ1 (lk L) ρ2 H2 := ⟨fun i hi => by simp only [ρ2]; rw [if_pos (by omega)]; congr 1; omega, fun i hi => by rw [hH2, if_pos (by omega)]; simp [lk]⟩
        have hold : ∀ {id : Nat} {o : AObj}, H id = some o → ¬ (base ≤ id ∧ id < base + L.length) := fun {id o} ho hc => by
          have := hfresh (id - base) (by simp only []; omega)
          rw [show base + (id - base) = id from by omega, ho] at this
          cases this
        have hown2 : ∀ b, Own ρ2 H2 b → Own ρ1 (lk L) b ∨ Own ρ H b := by
          rintro b ⟨id, o, ho, ha, hb⟩
          rw [hH2] at ho
          simp only [ρ2] at hb
          split at ho
          · rename_i hc
            rw [if_pos hc] at hb
            exact .inl ⟨id - base, o, ho, ha, hb⟩
          · rename_i hc
            rw [if_neg hc] at hb
            exact .inr ⟨id, o, ho, ha, hb⟩
        have heap : ∀ b, b < w.heap.size → w'.heap[b]? = w.heap[b]? := fun b hb => g4.heap b hb (fun ho => hemp b (.inl ho))
        have hsize : w.heap.size ≤ w'.heap.size := g3.size
        have st : Step ρ H (Hot ρ H G) w ρ2 H2 (Hot ρ2 H2 G) w' := by
          refine ⟨fun id o ho => ?_, fun id o ho => ?_, fun b hb => ?_, fun b hb _ => heap b hb, hsize⟩
          · simp only [ρ2]; rw [if_neg (hold ho)]
          · exact ⟨o, by rw [hH2, if_neg (hold ho)]; exact ho, fun c' e' hc => ⟨c', e', hc, rfl, rfl⟩⟩
          · rcases hb with hb | hb
            · rcases hown2 b hb with h5 | h5
              · exact .inr (hnew b h5)
              · exact .inl (.inl h5)
            · exact .inl (.inr hb)
        refine ⟨ρ2, ⟨fun id o ho => ?_, fun i j oi oj b hi hj ai aj bi bj => ?_, fun b hb hG => ?_, fun b hb => Nat.lt_of_lt_of_le (hs.low b hb) hsize⟩, res_shift (.inl hflat) (O := Hot ρ1 (lk L) (fun _ => False)) (hL ▸ sh) (by rw [hL]; exact g2), st, ⟨g4.os, g4.tape, g4.output, fun b hb _ => heap b hb⟩⟩
        · change H2 id = some o at ho
          rw [hH2] at ho
          simp only [ρ2]
          split at ho
          · rename_i hc
            rw [if_pos hc]
            have hobj := g1.obj (id - base) o ho
            obtain ⟨r, y, e', hr, rfl⟩ := hpl o (List.mem_of_getElem? ho)
            obtain ⟨a0, cap, k0, k1, k2, k3⟩ := hobj
            refine ⟨a0, cap, k0, k1, k2, k3.imp (fun h => h) ?_⟩
            rintro ⟨b, f0, cells, fr, us, k4, k5, k6, k7, k8⟩
            exact ⟨b, f0, cells, fr, us, k4, k5, k6, k7, fun i j hi hj => ⟨(k8 i j hi hj).1, RK.flat_den hr hj (k8 i j hi hj).2⟩⟩
          · rename_i hc
            rw [if_neg hc]
            have hobj := hs.obj id o ho
            refine hobj.step st (fun b ha hb => heap b ?_)
            exact own_lt hs ⟨id, o, ho, ha, hb⟩
        · change H2 i = some oi at hi
          change H2 j = some oj at hj
          rw [hH2] at hi hj
          simp only [ρ2] at bi bj
          split at hi
          · rename_i ci
            rw [if_pos ci] at bi
            have o1 : Own ρ1 (lk L) b := ⟨_, oi, hi, ai, bi⟩
            split at hj
            · rename_i cj
              rw [if_pos cj] at bj
              have := g1.inj (i - base) (j - base) oi oj b hi hj ai aj bi bj
              omega
            · rename_i cj
              rw [if_neg cj] at bj
              have := own_lt hs ⟨j, oj, hj, aj, bj⟩
              have := hnew b o1
              omega
          · rename_i ci
            rw [if_neg ci] at bi
            have h6 := own_lt hs ⟨i, oi, hi, ai, bi⟩
            split at hj
            · rename_i cj
              rw [if_pos cj] at bj
              have := hnew b ⟨_, oj, hj, aj, bj⟩
              omega
            · rename_i cj
              rw [if_neg cj] at bj
              exact hs.inj i j oi oj b hi hj ai aj bi bj
        · rcases hown2 b hb with h5 | h5
          · have := hnew b h5
            have := hs.low b hG
            omega
          · exact hs.apart b h5 hG
      · simp [RM.eval] at hq
    · simp [RM.eval] at hq
  · simp [RM.eval] at hq

/-! ### a table of summaries -/
abbrev Tab := List (FuncId × (Nat → List AV → RM Res))

def Tab.get : Tab → FuncId → Option (Nat → List AV → RM Res)
  | [], _ => none
  | (g, s) :: t, f => bif g.beq f then some s else Tab.get t f

def Tab.sum (t : Tab) : SummB := fun base f args => match t.get f with
  | some s => s base args
  | none => .fail "no summary"

def Tab.Ok (P : Program) (Z : Glob) (t : Tab) : Prop := ∀ x ∈ t, SOk1 P Z x.1 x.2

theorem Tab.get_mem : ∀ {t : Tab} {f : FuncId} {s : Nat → List AV → RM Res}, t.get f = some s → (f, s) ∈ t
  | [], f, s, h => by simp [Tab.get] at h
  | (g, s') :: t, f, s, h => by
    simp only [Tab.get, Bool.cond_eq_ite] at h
    split at h
    · rename_i hg
      obtain rfl := Nat.eq_of_beq_eq_true hg
      cases h
      simp
    · exact List.mem_cons_of_mem _ (Tab.get_mem h)

theorem Tab.sOk {t : Tab} (h : t.Ok P Z) : SOk P t.sum Z := by
  intro base f args H q _ hq hn ρ G w vs hf hz hs hd
  unfold Tab.sum at hq
  split at hq
  · rename_i s hg
    exact h _ (Tab.get_mem hg) base args H q hq hn ρ G w vs hf hz hs hd
  · simp [RM.eval] at hq

theorem Tab.Ok.nil : Tab.Ok P Z [] := fun x hx => by simp at hx
theorem Tab.Ok.cons {f : FuncId} {s : Nat → List AV → RM Res} {t : Tab} (h : SOk1 P Z f s) (ht : Tab.Ok P Z t) : Tab.Ok P Z ((f, s) :: t) := by
  intro x hx
  rcases List.mem_cons.1 hx with rfl | hx
  · exact h
  · exact ht x hx
end
end Go.Sx
