/- Lemmas: SxFrames4, SxExecOk, SxView, SxTy, SxOut, SxFn, SxFnR, SxLoop, SxWrap, SxDen, SxCut, Hd, SxSpec, Lb. -/
import Derived.RangeFuncNested
import Derived.ProofKit
import Derived.Carry
import Derived.OpenShut
import Derived.Deep.DeepHandedRow
import Derived.JoinedOf
import Derived.Test.YtjmdfmafnenjnaaRows
import Derived.LaidMore
import Derived.Stop.Joined
import Derived.Lib.Bytealg
import Derived.Test.YtjmdfmafnenjnaaPB

/-! Calls that end, rounds that end, ranges that begin. -/
namespace Go.Sx
open Go

section
variable {ρ ρ' : Nat → Value} {H H' : AHeap} {G G' O O' O2 : Nat → Prop} {w w' : World} {P : Program} {S : SummB} {Z : Glob} {X : Ctx} {s : St} {a : Act} {K : List AObj → AV → Prop} {C : Cfg → Prop} {ops : Array Oper} {E E' : List (Nat × Obj)}

theorem setSlot_dp {T : List AV} {vs : List Value} (h : DP ρ H O w T vs) (dst : Option Tmp) {x : AV} {v : Value} (hx : DenV ρ H O w x v) : DP ρ H O w (setSlot T dst x) (match dst with | some d => vs.set d v | none => vs) := by
  cases dst with
  | none => exact h
  | some d => exact h.set d hx

/-- A call comes back to the frame that waited. -/
theorem resume_goes {f0 : FuncId} {c : Cfg} {v : AV} {u : Value} {below : List FrD} {go : Cfg → Tree} {vs1 : List Value} {fs : List Frame} (h : (resume c v below go).Holds K C) (hgo : ∀ c', (go c').Holds K C → Safe P f0 X K c')
    (hG1 : ∀ b, X.G b → G b) (hG2 : ∀ b, G b → X.G b ∨ X.w.heap.size ≤ b) (hr : Rep (X.at G E) ρ ⟨c.tmps, c.H⟩ a w) (hvs : a.tmps.toList.drop (c.n + c.stk.extra) = vs1) (hb : WfS f0 below vs1 E fs) (hn : (E.map (·.1)).Nodup)
    (hv : DenV ρ (St.look ⟨c.tmps, c.H⟩) (Hot ρ (St.look ⟨c.tmps, c.H⟩) G) w v u) : ∃ fr fs1, fs = fr :: fs1 ∧ GoesFr P f0 (Post X K) (fr.finish u) fs1 w := by
  unfold resume at h
  split at h
  · rename_i d ds
    simp only [] at h
    split at h
    · rename_i ops i rest td hlp htd
      simp only [Bool.cond_eq_ite] at h
      split at h
      · rename_i hdst
        obtain ⟨v0, rv, v2, Ds, E1, E2, b, t, fs2, lv, lE, todo, e1, e2, e3, h1, h2, h3, h4, h5⟩ := hb
        rw [hlp] at h5
        obtain ⟨rfl, rfl, rfl⟩ := h5
        rw [htd] at e3
        refine ⟨_, _, e3, ?_⟩
        rw [Frame.finish_atR]
        have hdp := setSlot_dp (hr.dp.drop (c.n + c.stk.extra)) ((ops[i]?).bind (·.dst)) hv
        have hr' := hr.slots hdp
        have hdn : ∀ d', (ops[i]?).bind (·.dst) = some d' → d' < v0.length := fun d' hd => by
          rw [hd] at hdst
          rw [h1]; simpa [Nat.blt, Nat.lt_iff_add_one_le] using hdst
        refine hgo _ h G E ρ _ w hG1 hG2 hr' b (t.put ((ops[i]?).bind (·.dst)) u) fs2 ⟨hn, match (ops[i]?).bind (·.dst) with | some d' => v0.set d' u | none => v0, rv, v2, Ds, E1, E2, ?_, by rw [e2]; rfl, h2, ⟨h3.fr, ?_, h3.ghost⟩, h4⟩
        · rw [hvs, e1]
          cases hd : (ops[i]?).bind (·.dst) with
          | none => simp
          | some d' =>
            simp only [List.toList_toArray]
            rw [List.set_append_left _ _ (hdn d' hd)]; simp
        · rw [h3.act]
          cases hd : (ops[i]?).bind (·.dst) with
          | none => rfl
          | some d' => simp [Act.put]
      · exact h.elim
    · exact h.elim
  · exact h.elim

theorem resultOf_take {n : Nat} {tmps : List AV} {L : List AObj} : resultOf P ⟨tmps, L⟩ = resultOf P ⟨tmps, L⟩ := rfl

/-- How many slots the frame on top has. -/
theorem top_len {f0 : FuncId} {c : Cfg} {vs : List Value} {v0 rv v2 : List Value} {Ds : List Nat} {E1 E2 : List (Nat × Obj)} {b : Frame} {t : Act} {fs : List Frame} (hl : c.tmps.length = vs.length) (e : vs = v0 ++ (rv ++ (Ds.map markV ++ v2))) (hd : Ds.length = c.stk.marks)
    (h3 : WfTop f0 c.stk.round v0 rv Ds E1 b t) {f1 : FuncId} (h4 : WfS f1 c.stk.below v2 E2 fs) : v0.length = c.n ∧ rv.length = oneIf c.stk.round ∧ vs.drop (c.n + c.stk.extra) = v2 := by
  have hrv : rv.length = oneIf c.stk.round := by
    obtain ⟨r, _, h6⟩ := h3.fr
    cases hd : c.stk.round <;> rw [hd] at h6 <;> simp only [] at h6
    · rw [h6.1]; rfl
    · obtain ⟨l, rfl, _⟩ := h6; rfl
  have h0 : v0.length = c.n := by
    unfold Cfg.n
    rw [hl, e]
    simp only [List.length_append, List.length_map, hrv, hd, h4.len, Stk.extra]
    omega
  refine ⟨h0, hrv, ?_⟩
  rw [e, show v0 ++ (rv ++ (Ds.map markV ++ v2)) = (v0 ++ (rv ++ Ds.map markV)) ++ v2 from by simp]
  exact List.drop_left' (by simp only [List.length_append, List.length_map, hrv, hd, h0, Stk.extra])

/-- A function that is on top ends. -/
theorem endFn_goes {f0 : FuncId} {c : Cfg} {fn g : Func} {vs : List AV} {go : Cfg → Tree} {b : Frame} {t : Act} {fs : List Frame} {todo : List Item} (hf : P.funcs[f0]? = some fn) (hg : c.stk.fn P fn = some g) (hround : c.stk.round = false)
    (hres : resultOf P ⟨c.tmps.take c.n, c.H⟩ g.results.toList = some vs) (h : (endFn c (oneOf vs) go).Holds K C) (hgo : ∀ c', (go c').Holds K C → Safe P f0 X K c')
    (hG1 : ∀ b, X.G b → G b) (hG2 : ∀ b, G b → X.G b ∨ X.w.heap.size ≤ b) (hr : Rep (X.at G E) ρ ⟨c.tmps, c.H⟩ a w) (hw : Wf f0 c.stk a.tmps.toList E b t fs) :
    GoesFr P f0 (Post X K) { b.atR t todo with mode := .returning } fs w := by
  obtain ⟨hn, v0, rv, v2, Ds, E1, E2, e1, rfl, hd, h3, h4⟩ := hw
  obtain ⟨l0, l1, l2⟩ := top_len hr.dp.len e1 hd h3 h4
  have hgE := h3.ghost
  subst hgE
  have hb := h3.fr
  rw [hround] at hb
  obtain ⟨r, rfl, hrv, hrr⟩ := hb
  subst hrv hrr
  have hact := h3.act
  subst hact
  -- the marks
  obtain ⟨w', hr', hst⟩ := take_marks (P := P) Ds (fr := { Frame.atR { (default : Frame) with fn := c.stk.f.getD f0, kind := .normal, roundOf := none } { tmps := v0.toArray, defers := Ds.map markD } todo with mode := .returning }) hn hr rfl rfl
  have hn2 : (E2.map (·.1)).Nodup := by
    rw [List.map_append] at hn
    exact (List.nodup_append.1 hn).2.1
  -- the results
  have htop : DP ρ (St.look ⟨c.tmps, c.H⟩) (Hot ρ (St.look ⟨c.tmps, c.H⟩) G) w' (c.tmps.take c.n) v0 := by
    have := hr'.dp.take c.n
    rw [e1, List.take_left' l0] at this
    exact this
  have hrt := hr'.slots htop
  obtain ⟨u, hrun, hden⟩ := results_ok (fn := g) hrt hres
  have hfn : P.funcs[c.stk.f.getD f0]? = some g := by
    unfold Stk.fn at hg
    split at hg
    · rename_i h0; rw [h0]; cases hg; exact hf
    · rename_i g' h0; rw [h0]; exact hg
  let fr : Frame := { Frame.atR { (default : Frame) with fn := c.stk.f.getD f0, kind := .normal, roundOf := none } { tmps := v0.toArray, defers := Ds.map markD } todo with mode := .returning, defers := [] }
  have hleave : fr.leaving P w' (.returned u) := ⟨rfl, rfl, rfl, g, hfn, hrun⟩
  refine GoesFr.steps (fun cs => hst (fs ++ cs)) ?_
  show GoesFr P f0 (Post X K) fr fs w'
  have hvs1 : a.tmps.toList.drop (c.n + c.stk.extra) = v2 := l2
  unfold endFn at h
  split at h
  · rename_i hbel
    rw [hbel] at h4
    obtain ⟨_, _, rfl⟩ := h4
    intro cs
    rw [Bool.cond_eq_ite] at h
    split at h
    · rename_i hk
      refine ⟨.returned u, w', fr, Post.of_rep hG1 hG2 hr' hden h, Steps.refl _ _, ?_, hleave⟩
      show c.stk.f.getD f0 = f0
      rw [Option.isNone_iff_eq_none.1 hk]; rfl
    · exact h.elim
  · rename_i d ds hbel
    split at h
    · rename_i hlp
      obtain ⟨fr1, fs1, rfl, key⟩ := resume_goes h hgo hG1 hG2 hr' hvs1 h4 hn2 hden
      exact GoesFr.steps (fun cs => .one (step_leave_returned hleave)) key
    · exact h.elim
    · rename_i L st hst' hlp
      rw [hbel] at h4
      obtain ⟨v0', rv', v2', Ds', E1', E2', b', t', fs2, lv, lE, todo', e1', e2', e3', h1', h2', h3', h4', h5'⟩ := h4
      rw [hlp] at h5'
      obtain ⟨l, D, rfl, rfl, rfl⟩ := h5'
      subst e3' e2'
      have hmem : (l, Obj.loop (st.lrec L (d.f.getD f0) v0'.toArray D)) ∈ (E1' ++ ([(l, Obj.loop (st.lrec L (d.f.getD f0) v0'.toArray D))] ++ E2')) := by simp
      have hheap := (hr'.kept _ hmem).2.2
      have hnb : (st.lrec L (d.f.getD f0) v0'.toArray D).state ≠ .busy := by
        unfold LpSt.lrec
        cases st with
        | busy => exact absurd rfl (hst' )
        | ready => simp
        | done c => simp
      have hend := run_endLoop (P := P) hheap hnb
      have hl1 : l ∉ E1'.map (·.1) := by
        intro hm
        rw [List.map_append] at hn2
        exact (List.nodup_append.1 hn2).2.2 l hm l (by simp) rfl
      have hl2 : l ∉ E2'.map (·.1) := by
        intro hm
        rw [List.map_append, List.map_append] at hn2
        exact (List.nodup_append.1 (List.nodup_append.1 hn2).2.1).2.2 l (by simp) l hm rfl
      have hr2 : Rep (X.at G (E1' ++ E2')) ρ ⟨c.tmps, c.H⟩ a (w'.putObj l (.loop { st.lrec L (d.f.getD f0) v0'.toArray D with state := .exhausted })) :=
        hr'.poke hmem (fun y hy => .inl (by
          rcases List.mem_append.1 hy with h6 | h6
          · exact ⟨by simp [h6], fun e => hl1 (e ▸ List.mem_map_of_mem (f := Prod.fst) h6)⟩
          · exact ⟨by simp [h6], fun e => hl2 (e ▸ List.mem_map_of_mem (f := Prod.fst) h6)⟩))
      have hn3 : ((E1' ++ E2').map (·.1)).Nodup := by
        rw [List.map_append, List.map_append] at hn2
        rw [List.map_append]
        obtain ⟨n1, n2, n3⟩ := List.nodup_append.1 hn2
        exact List.nodup_append.2 ⟨n1, (List.nodup_append.1 n2).2.1, fun x hx y hy => n3 x hx y (List.mem_append_right _ hy)⟩
      -- the slots, without the loop's
      have hdp : DP ρ (St.look ⟨c.tmps, c.H⟩) (Hot ρ (St.look ⟨c.tmps, c.H⟩) G) (w'.putObj l (.loop { st.lrec L (d.f.getD f0) v0'.toArray D with state := .exhausted }))
          ((c.tmps.drop (c.n + c.stk.extra)).take (d.n + oneIf d.round + d.marks) ++ (c.tmps.drop (c.n + c.stk.extra)).drop (d.n + oneIf d.round + d.marks + 1)) (v0' ++ (rv' ++ (Ds'.map markV ++ v2'))) := by
        have hrv' : rv'.length = oneIf d.round := by
          obtain ⟨r, _, h6⟩ := h3'.fr
          cases hd : d.round <;> rw [hd] at h6 <;> simp only [] at h6
          · rw [h6.1]; rfl
          · obtain ⟨l, rfl, _⟩ := h6; rfl
        have h6 := hr2.dp.drop (c.n + c.stk.extra)
        rw [hvs1, e1'] at h6
        have h7 := (h6.take (d.n + oneIf d.round + d.marks)).append (h6.drop (d.n + oneIf d.round + d.marks + 1))
        rw [show v0' ++ (rv' ++ (Ds'.map markV ++ ([yieldV l] ++ v2'))) = (v0' ++ (rv' ++ Ds'.map markV)) ++ ([yieldV l] ++ v2') from by simp] at h7
        rw [List.take_left' (by simp only [List.length_append, List.length_map, hrv', h1', h2']; omega), show (v0' ++ (rv' ++ Ds'.map markV)) ++ ([yieldV l] ++ v2') = ((v0' ++ (rv' ++ Ds'.map markV)) ++ [yieldV l]) ++ v2' from by simp,
          List.drop_left' (by simp only [List.length_append, List.length_map, hrv', h1', h2', List.length_cons, List.length_nil]; omega)] at h7
        rw [List.append_assoc, List.append_assoc] at h7
        exact h7
      have hr3 := hr2.slots hdp
      have key := hgo _ h G (E1' ++ E2') ρ _ _ hG1 hG2 hr3 b' t' fs2 ⟨hn3, v0', rv', v2', Ds', E1', E2', by simp, rfl, h2', h3', h4'⟩
      refine GoesFr.steps (fun cs => .head (step_leave_returned hleave) ?_) key
      rw [finish_atR_inRangeFunc]
      refine .one ?_
      have := stepR_endRangeFunc (P := P) (b := b') (a := t') (k := d.todo) (cs := fs2 ++ cs) hend
      rw [List.append_eq] 
      rw [this]
      cases st <;> rfl

/-- A round ends. -/
theorem endRd_goes {f0 : FuncId} {c : Cfg} {jump : Option Code} {go : Cfg → Tree} {b : Frame} {t : Act} {fs : List Frame} {todo : List Item} (hround : c.stk.round = true)
    (h : (endRd c jump go).Holds K C) (hgo : ∀ c', (go c').Holds K C → Safe P f0 X K c')
    (hG1 : ∀ b, X.G b → G b) (hG2 : ∀ b, G b → X.G b ∨ X.w.heap.size ≤ b) (hr : Rep (X.at G E) ρ ⟨c.tmps, c.H⟩ a w) (hw : Wf f0 c.stk a.tmps.toList E b t fs)
    (hstep : ∀ (l : Nat) (w' : World) (c0 : Frame) (cs : List Frame), b.roundOf = some l → b.kind = .normal → (Instr.endRound l jump).run P w = .ok (.bool jump.isNone) w' → step P (lone (b.atR t todo) (c0 :: cs) w) = .next (lone (c0.finish (.bool jump.isNone)) cs w')) :
    GoesFr P f0 (Post X K) (b.atR t todo) fs w := by
  obtain ⟨hn, v0, rv, v2, Ds, E1, E2, e1, rfl, hd, h3, h4⟩ := hw
  obtain ⟨l0, l1, l2⟩ := top_len hr.dp.len e1 hd h3 h4
  have hb := h3.fr
  rw [hround] at hb
  obtain ⟨r, rfl, l, hrv, hrr⟩ := hb
  subst hrv hrr
  unfold endRd at h
  split at h
  · rename_i id hid
    rw [Bool.cond_eq_ite] at h
    split at h
    · rename_i hm
      have hD0 : Ds = [] := by
        have := Nat.eq_of_beq_eq_true hm
        exact List.eq_nil_of_length_eq_zero (hd.trans this)
      subst hD0
      have hgE : E1 = [] := h3.ghost
      subst hgE
      split at h
      · rename_i y hf
        obtain ⟨d, L, st, slots⟩ := y
        have hdp := hr.dp.drop (c.n + c.stk.extra)
        rw [l2] at hdp
        have hn2 : (E2.map (·.1)).Nodup := by simpa using hn
        obtain ⟨l', D, v0', g1, g2, g3, g4, g5, g6⟩ := findLp_ok hf h4 hn2 hdp.get
        have hval : a.tmps.toList.getD c.n undef = yieldV l := by
          rw [e1, List.getD, List.getElem?_append_right (by omega), show c.n - v0.length = 0 from by omega]
          rfl
        have hden := hr.dp.get c.n
        rw [hid, hval] at hden
        unfold DenV Den1 at hden
        have hll : l' = l := yieldV_inj (g1.symm.trans hden.1.symm)
        subst hll
        have hheap := (hr.kept _ (show _ ∈ ([] ++ E2) from g3)).2.2
        have hend := run_endRound (P := P) jump hheap
        have hrec : ({ st.lrec L (d.f.getD f0) v0'.toArray D with state := if jump.isNone then .ready else .done, pending := jump } : Loop) = (match jump with | none => LpSt.ready | some j => LpSt.done j).lrec L (d.f.getD f0) v0'.toArray D := by
          cases jump <;> rfl
        rw [hrec] at hend
        have hr2 : Rep (X.at G (upE l' (Obj.loop ((match jump with | none => LpSt.ready | some j => LpSt.done j).lrec L (d.f.getD f0) v0'.toArray D)) E2)) ρ ⟨c.tmps, c.H⟩ a (w.putObj l' (Obj.loop ((match jump with | none => LpSt.ready | some j => LpSt.done j).lrec L (d.f.getD f0) v0'.toArray D))) :=
          hr.poke (show (l', Obj.loop (st.lrec L (d.f.getD f0) v0'.toArray D)) ∈ ([] ++ E2) from g3) (fun y hy => by
            rcases upE_mem y hy with h6 | h6
            · exact .inl h6
            · exact .inr h6)
        obtain ⟨fr1, fs1, rfl, key⟩ := resume_goes (u := .bool jump.isNone) h hgo hG1 hG2 hr2 l2 (g6 _) (by rw [upE_keys]; exact hn2) (DenV_s (.blit _))
        exact GoesFr.steps (fun cs => .one (hstep l' _ fr1 (fs1 ++ cs) rfl rfl hend)) key
      · exact h.elim
    · exact h.elim
  · exact h.elim

/-- A range over a function begins. -/
theorem pushLp_goes {f0 f : FuncId} {c : Cfg} {caps : List AV} {cvs : List Value} {L : Lp} {td : List Item} {go : Cfg → Tree} {b : Frame} {t : Act} {fs : List Frame} {g : Operand} {asg body : Code} {ps : Array Tmp} (hL : L = ⟨ps.toList, asg, body⟩)
    (h : (pushLp P c f caps L td go).Holds K C) (hgo : ∀ c', (go c').Holds K C → Safe P f0 X K c')
    (hG1 : ∀ b, X.G b → G b) (hG2 : ∀ b, G b → X.G b ∨ X.w.heap.size ≤ b) (hr : Rep (X.at G E) ρ ⟨c.tmps, c.H⟩ a w) (hw : Wf f0 c.stk a.tmps.toList E b t fs)
    (hg : t.eval g = .func (.func f) #[] cvs.toArray) (hl : DenL ρ (St.look ⟨c.tmps, c.H⟩) (Hot ρ (St.look ⟨c.tmps, c.H⟩) G) w caps cvs) :
    GoesFr P f0 (Post X K) (b.atR t (.code (.rangeFunc g ps asg body) :: td)) fs w := by
  unfold pushLp at h
  rw [Bool.cond_eq_ite] at h
  split at h
  · exact h.elim
  rename_i hround
  have hround : c.stk.round = false := by simpa using hround
  obtain ⟨hn, v0, rv, v2, Ds, E1, E2, e1, rfl, hd, h3, h4⟩ := hw
  obtain ⟨l0, l1, l2⟩ := top_len hr.dp.len e1 hd h3 h4
  have hb := h3.fr
  rw [hround] at hb
  obtain ⟨r, rfl, hrv, hrr⟩ := hb
  subst hrv hrr
  have hgE := h3.ghost
  subst hgE
  have hact := h3.act
  subst hact
  -- the block of the rounds' deferred calls, and the record
  let Dn := w.heap.size
  let ln := w.heap.size + 1
  let rec0 : Loop := LpSt.ready.lrec L (c.stk.f.getD f0) v0.toArray Dn
  obtain ⟨r1, s1⟩ := hr.grow (.deferred (some [])) (markV Dn)
  obtain ⟨r2, s2⟩ := r1.grow (.loop rec0) (yieldV ln)
  have hsz : (w.alloc (.deferred (some []))).heap.size = ln := alloc_size
  rw [hsz] at r2 s2
  have hold : ∀ x ∈ (Ds.map (fun D => (D, Obj.deferred (some []))) ++ E2).map (·.1), x < Dn := fun x hx => by
    obtain ⟨y, hy, rfl⟩ := List.mem_map.1 hx
    exact (Array.getElem?_eq_some_iff.1 (hr.kept y hy).2.2).1
  -- as the frames have them
  have r3 := r2.sub (E' := (Dn :: Ds).map (fun D => (D, Obj.deferred (some []))) ++ ([(ln, Obj.loop rec0)] ++ E2)) (fun y hy => by
    simp only [List.map_cons, List.cons_append, List.mem_cons, List.mem_append, List.nil_append] at hy ⊢
    rcases hy with rfl | hy | rfl | hy
    · exact .inr (.inl rfl)
    · exact .inr (.inr (.inl hy))
    · exact .inl rfl
    · exact .inr (.inr (.inr hy)))
  have hn3 : (((Dn :: Ds).map (fun D => (D, Obj.deferred (some []))) ++ ([(ln, Obj.loop rec0)] ++ E2)).map (·.1)).Nodup := by
    rw [List.map_append] at hn
    obtain ⟨n1, n2, n3⟩ := List.nodup_append.1 hn
    rw [List.map_append, List.map_append]
    refine List.nodup_append.2 ⟨?_, ?_, ?_⟩
    · rw [List.map_cons, List.map_cons, List.nodup_cons]
      exact ⟨fun hm => absurd (hold Dn (by rw [List.map_append]; exact List.mem_append_left _ hm)) (Nat.lt_irrefl _), n1⟩
    · rw [List.map_cons, List.map_nil, List.singleton_append, List.nodup_cons]
      exact ⟨fun hm => absurd (hold ln (by rw [List.map_append]; exact List.mem_append_right _ hm)) (by omega), n2⟩
    · intro x hx y hy hxy
      subst hxy
      simp only [List.map_cons, List.map_nil, List.mem_cons, List.mem_append, List.not_mem_nil, or_false] at hx hy
      rcases hx with rfl | hx
      · rcases hy with hy | hy
        · omega
        · exact absurd (hold Dn (by rw [List.map_append]; exact List.mem_append_right _ hy)) (Nat.lt_irrefl _)
      · rcases hy with rfl | hy
        · exact absurd (hold ln (by rw [List.map_append]; exact List.mem_append_left _ hx)) (by omega)
        · exact n3 x hx x hy rfl
  -- the slots
  let L0 := c.H ++ [AObj.dead] ++ [AObj.dead]
  let G2 : Nat → Prop := fun b => (G b ∨ b = w.heap.size) ∨ b = ln
  let ρ2 := setR (setR ρ c.H.length (markV Dn)) (c.H ++ [AObj.dead]).length (yieldV ln)
  have hlen1 : (c.H ++ [AObj.dead]).length = c.H.length + 1 := by simp
  have hρ1 : ρ2 (c.H.length + 1) = yieldV ln := by simp [ρ2, setR]
  have hρ0 : ρ2 c.H.length = markV Dn := by simp [ρ2, setR]
  have look0 : (St.look ⟨c.tmps, L0⟩) c.H.length = some .dead := by simp [St.look, L0]
  have look1 : (St.look ⟨c.tmps, L0⟩) (c.H.length + 1) = some .dead := by simp [St.look, L0]
  have d3 := r3.dp
  have tagD : DenV ρ2 (St.look ⟨c.tmps, L0⟩) (Hot ρ2 (St.look ⟨c.tmps, L0⟩) G2) ((w.alloc (.deferred (some []))).alloc (.loop rec0)) (.tag c.H.length) (markV Dn) := by
    unfold DenV Den1; exact ⟨hρ0.symm, rfl, by rw [look0]; rfl⟩
  have tagL : DenV ρ2 (St.look ⟨c.tmps, L0⟩) (Hot ρ2 (St.look ⟨c.tmps, L0⟩) G2) ((w.alloc (.deferred (some []))).alloc (.loop rec0)) (.tag (c.H.length + 1)) (yieldV ln) := by
    unfold DenV Den1; exact ⟨hρ1.symm, rfl, by rw [look1]; rfl⟩
  have dnew : DP ρ2 (St.look ⟨c.tmps, L0⟩) (Hot ρ2 (St.look ⟨c.tmps, L0⟩) G2) ((w.alloc (.deferred (some []))).alloc (.loop rec0))
      (c.tmps.take c.n ++ .tag c.H.length :: ((c.tmps.drop c.n).take c.stk.marks ++ .tag (c.H.length + 1) :: c.tmps.drop (c.n + c.stk.marks))) (v0 ++ ([] ++ ((Dn :: Ds).map markV ++ ([yieldV ln] ++ v2)))) := by
    have e2 : a.tmps.toList = v0 ++ (Ds.map markV ++ v2) := by simpa using e1
    have a1 := d3.take c.n
    have a2 := (d3.drop c.n).take c.stk.marks
    have a3 := d3.drop (c.n + c.stk.marks)
    rw [e2, List.take_left' l0] at a1
    rw [e2, List.drop_left' l0, List.take_left' (by rw [List.length_map, hd])] at a2
    rw [e2, show v0 ++ (Ds.map markV ++ v2) = (v0 ++ Ds.map markV) ++ v2 from by simp, List.drop_left' (by rw [List.length_append, List.length_map, hd, l0])] at a3
    have := a1.append (DP.cons tagD (a2.append (DP.cons tagL a3)))
    exact this
  have r4 := r3.slots dnew
  -- the callee's arguments
  have st12 : Step ρ (St.look ⟨c.tmps, c.H⟩) (Hot ρ (St.look ⟨c.tmps, c.H⟩) G) w ρ2 (St.look ⟨c.tmps, L0⟩) (Hot ρ2 (St.look ⟨c.tmps, L0⟩) G2) ((w.alloc (.deferred (some []))).alloc (.loop rec0)) := s1.trans s2
  have hargs : DenL ρ2 (St.look ⟨c.tmps, L0⟩) (Hot ρ2 (St.look ⟨c.tmps, L0⟩) G2) ((w.alloc (.deferred (some []))).alloc (.loop rec0)) (.tag (c.H.length + 1) :: caps) (yieldV ln :: cvs) :=
    DenL_cons.2 ⟨_, _, rfl, tagL, DenL.step st12 _ _ hl⟩
  have hwait : WfS f0 (⟨c.stk.f, c.n, false, c.stk.marks + 1, some (L, .ready), td, ((firstReg L.body).getD 0, 0)⟩ :: c.stk.below) (v0 ++ ([] ++ ((Dn :: Ds).map markV ++ ([yieldV ln] ++ v2))))
      ((Dn :: Ds).map (fun D => (D, Obj.deferred (some []))) ++ ([(ln, Obj.loop rec0)] ++ E2))
      ((Frame.atR { (default : Frame) with fn := c.stk.f.getD f0, kind := .normal, roundOf := none } { tmps := v0.toArray, defers := (Dn :: Ds).map markD } (.inRangeFunc ln :: td)) :: fs) :=
    ⟨v0, [], v2, Dn :: Ds, _, E2, _, _, fs, [yieldV ln], [(ln, Obj.loop rec0)], _, rfl, rfl, rfl, l0, by simp [hd], ⟨⟨none, rfl, rfl, rfl⟩, rfl, rfl⟩, h4, ⟨ln, Dn, rfl, rfl, rfl⟩⟩
  have key := pushFn_goes (us := yieldV ln :: cvs) h hgo (fun b hb => .inl (.inl (hG1 b hb))) (fun b hb => by
      have hle : X.w.heap.size ≤ w.heap.size := hr.from_.size
      rcases hb with (hb | hb) | hb
      · exact hG2 b hb
      · exact .inr (by omega)
      · exact .inr (by omega)) r4 hargs hn3 (by simpa using hwait)
  obtain ⟨hcall, key⟩ := key
  refine GoesFr.steps (fun cs => .one ?_) key
  have he := run_enterLoop_outer (P := P) (w := w) (c.stk.f.getD f0) v0.toArray ps asg body
  have hrec0 : rec0 = { state := .ready, pending := none, fn := c.stk.f.getD f0, tmps := v0.toArray, params := ps, assign := asg, body := body, defers := w.heap.size } := by
    simp only [rec0, LpSt.lrec, hL, Dn]
  rw [← hrec0] at he
  refine stepR_rangeFunc (b := { (default : Frame) with fn := c.stk.f.getD f0, kind := .normal, roundOf := none }) (a := { tmps := v0.toArray, defers := Ds.map markD }) (ps := ps) (assign := asg) (body := body) (w := w) (l := ln) (w₁' := (w.alloc (.deferred (some []))).alloc (.loop rec0)) (d := { target := .fn (.func f) cvs.toArray, args := #[yieldV ln] }) he ?_ ?_
  · simp only [resolve, hg]
    simp [go_sem, yieldV, ln]
  · have := callFunc_run hcall (#[yieldV ln] ++ cvs.toArray) ((w.alloc (.deferred (some []))).alloc (.loop rec0))
    simp only [invoke]
    rw [this]
    simp
end
end Go.Sx

/-! The executor tells the truth. -/
namespace Go.Sx
open Go

section
variable {ρ ρ' : Nat → Value} {H H' : AHeap} {G O O' : Nat → Prop} {w w' : World} {P : Program} {S : SummB} {Z : Glob} {X : Ctx} {s : St} {a : Act} {K : List AObj → AV → Prop} {C : Cfg → Prop} {ops : Array Oper} {E E' : List (Nat × Obj)}

theorem TopR.tmp {n : Nat} {rest : List Value} {Ds : List Nat} {a t : Act} (h : TopR n rest Ds a t) {o : Oper} {i : Nat} (hin : InTop n rest ops) (ho : ops[i]? = some o) : Region.wanted o (yielded ops t.tmps) = Region.wanted o (yielded ops a.tmps) := (h.same hin ho).2

/-- A region that draws no order, from an operation on. -/
theorem runOpsI_goes (hS : SOk P S Z) (hzc : ZCtx Z X) {f0 : FuncId} {R : Ending → World → Prop} {enter : St → Nat → AV → List AV → Option Tree} {cont : St → Tree} {n : Nat} {rest : List Value} {Ds : List Nat} {b : Frame} {k : List Item} {fs : List Frame}
    (hnd : noDefer ops = true) (hin : InTop n rest ops)
    (hcont : ∀ s, (cont s).Holds K C → ∀ ρ a t w, Rep X ρ s a w → TopR n rest Ds a t → GoesM P f0 R b t k fs w)
    (henter : ∀ s i g args tr, enter s i g args = some tr → tr.Holds K C → ∀ ρ a t w o, ops[i]? = some o → callee? o (evOf s.tmps) = some (g, args) → Region.wanted o (yielded ops a.tmps) = true → Rep X ρ s a w → TopR n rest Ds a t →
      GoesM P f0 R b t (.inRegion ops (List.range' i (ops.size - i)) :: k) fs w) :
    ∀ (l : List Oper) (i : Nat) (s : St), (∀ j, l[j]? = ops[i + j]?) → i + l.length = ops.size → (runOpsI P S ops enter cont i l s).Holds K C → ∀ (ρ : Nat → Value) (a t : Act) (w : World), Rep X ρ s a w → TopR n rest Ds a t →
      GoesM P f0 R b t (.inRegion ops (List.range' i l.length) :: k) fs w
  | [], i, s, hl, hsz, h, ρ, a, t, w, hr, ht => GoesM.step (fun _ => stepR_region_end) (hcont s h ρ a t w hr ht)
  | o :: l, i, s, hl, hsz, h, ρ, a, t, w, hr, ht => by
    have ho : ops[i]? = some o := by simpa using (hl 0).symm
    have hl' : ∀ j, l[j]? = ops[i + 1 + j]? := fun j => by
      have := hl (j + 1)
      rw [show i + (j + 1) = i + 1 + j from by omega] at this
      simpa using this
    have hsz' : i + 1 + l.length = ops.size := by simp only [List.length_cons] at hsz; omega
    have hdst : rest = [] ∨ ∀ d, o.dst = some d → d < n := (hin.op ho).imp id (·.2.1)
    simp only [List.length_cons, List.range'_succ]
    have hgo : ∀ (s : St) (a : Act), Rep X ρ s a w → TopR n rest Ds a t → Region.wanted o (yielded ops a.tmps) = true →
        (match (callee? o (evOf s.tmps)).bind (fun x => enter s i x.1 x.2) with
          | some t => t
          | none => match (opR P (S s.H.length) (evOf s.tmps) o).eval s.look with
            | some r => bif upsOk s.H.length r.up then Tree.needs r.need (runOpsI P S ops enter cont (i + 1) l (s.put o.dst r)) else .stuck "up"
            | none => .stuck (o.pos ++ " " ++ (opR P (S s.H.length) (evOf s.tmps) o).why s.look)).Holds K C →
        GoesM P f0 R b t (.inRegion ops (i :: List.range' (i + 1) l.length) :: k) fs w := by
      intro s a hr ht hw h
      split at h
      · rename_i tr hc
        obtain ⟨x, hx, hen⟩ := Option.bind_eq_some_iff.1 hc
        have := henter s i x.1 x.2 tr hen h ρ a t w o ho hx hw hr ht
        rwa [show ops.size - i = l.length + 1 from by omega, List.range'_succ] at this
      · split at h
        · rename_i q hq
          rw [Bool.cond_eq_ite] at h
          split at h
          · rename_i hup
            obtain ⟨hn, h2⟩ := needs_holds _ _ h
            have hy := hr.op hS hzc hq hn (ups_in hup)
            have hy' : Yields P o t.eval w (fun v w' => ∃ ρ', Rep X ρ' (s.put o.dst q) (a.put o.dst v) w') := by
              unfold Yields at *
              rw [(ht.same hin ho).1]; exact hy
            intro cs
            obtain ⟨v, w', ⟨ρ', hr'⟩, hst⟩ := op_step ho (by rw [(ht.same hin ho).2]; exact hw) (defer_ne hnd ho) hy' b k (fs ++ cs) (rest := List.range' (i + 1) l.length)
            obtain ⟨e, w2, fr, g1, g2, g3⟩ := runOpsI_goes hS hzc hnd hin hcont henter l (i + 1) _ hl' hsz' h2 ρ' _ _ w' hr' (ht.put hdst v) cs
            exact ⟨e, w2, fr, g1, Comes.of_steps hst g2, g3⟩
          · exact h.elim
        · exact h.elim
    have hskip : ∀ (s : St) (a : Act), Rep X ρ s a w → TopR n rest Ds a t → Region.wanted o (yielded ops a.tmps) = false → (runOpsI P S ops enter cont (i + 1) l { s with tmps := setSlot s.tmps o.dst (.tup []) }).Holds K C →
        GoesM P f0 R b t (.inRegion ops (i :: List.range' (i + 1) l.length) :: k) fs w := by
      intro s a hr ht hw h
      refine GoesM.step (fun cs => op_skip ho (by rw [(ht.same hin ho).2]; exact hw) b k (fs ++ cs)) ?_
      exact runOpsI_goes hS hzc hnd hin hcont henter l (i + 1) _ hl' hsz' h ρ _ _ w (hr.skip o.dst) (ht.put hdst undef)
    unfold runOpsI at h
    simp only [] at h
    split at h
    · rename_i hg
      exact hgo s a hr ht (by simp [Region.wanted, hg]) h
    · rename_i g want hg
      split at h
      · exact h.elim
      · rename_i d hd
        split at h
        · rename_i b' hb
          have hy : yielded ops a.tmps g = some b' := by
            simp only [yielded, hd, Option.bind_some, blit_get hr hb]
          rw [Bool.cond_eq_ite] at h
          split at h
          · rename_i hbw
            exact hgo s a hr ht (by simp only [Region.wanted, hg, hy]; simpa using hbw) h
          · rename_i hbw
            exact hskip s a hr ht (by simp only [Region.wanted, hg, hy]; simpa using hbw) h
        · rename_i b' hb
          have hr' : Rep X ρ { s with tmps := s.tmps.set d (.s (.blit b')) } a w := hr.refine hb bool_refine
          have hlt : d < s.tmps.length := by
            rcases Nat.lt_or_ge d s.tmps.length with h3 | h3
            · exact h3
            · rw [List.getD, List.getElem?_eq_none h3] at hb
              simp at hb
          have hy : yielded ops a.tmps g = some b' := by
            simp only [yielded, hd, Option.bind_some]
            rw [blit_get hr' (d := d) (b := b') (by simp [List.getD, hlt])]
          obtain ⟨h1, h2⟩ := h
          cases b'
          · have h2 := h2 rfl
            cases want
            · exact hgo _ a hr' ht (by simp only [Region.wanted, hg, hy]; rfl) h2
            · exact hskip _ a hr' ht (by simp only [Region.wanted, hg, hy]; rfl) h2
          · have h1 := h1 rfl
            cases want
            · exact hskip _ a hr' ht (by simp only [Region.wanted, hg, hy]; rfl) h1
            · exact hgo _ a hr' ht (by simp only [Region.wanted, hg, hy]; rfl) h1
        · rename_i hb
          have hy : yielded ops a.tmps g = none := by
            simp only [yielded, hd, Option.bind_some, undef_get hr hb, undef]
          exact hskip s a hr ht (by simp only [Region.wanted, hg, hy]; simp) h
        · exact h.elim

/-- The frame on top, out of all slots; and what is left of it when its own slots turn. -/
theorem Wf.top {f0 : FuncId} {c : Cfg} {vs : List Value} {b : Frame} {t : Act} {fs : List Frame} (hl : c.tmps.length = vs.length) (hw : Wf f0 c.stk vs E b t fs) : ∃ rest Ds, TopR c.n rest Ds ⟨vs.toArray, []⟩ t ∧ (c.stk.plain = true → rest = []) ∧
    ∀ a' t', TopR c.n rest Ds a' t' → a'.defers = [] → Wf f0 c.stk a'.tmps.toList E b t' fs := by
  obtain ⟨hn, v0, rv, v2, Ds, E1, E2, rfl, rfl, hd, h3, h4⟩ := hw
  obtain ⟨l0, l1, l2⟩ := top_len hl rfl hd h3 h4
  refine ⟨rv ++ (Ds.map markV ++ v2), Ds, ⟨⟨v0, by simp, by rw [h3.act], l0⟩, by rw [h3.act]; rfl⟩, fun hp => ?_, fun a' t' ht hdf => ?_⟩
  · simp only [Stk.plain, Bool.and_eq_true, Bool.not_eq_true'] at hp
    obtain ⟨⟨p1, p2⟩, p3⟩ := hp
    have e1 : rv = [] := List.eq_nil_of_length_eq_zero (by rw [l1, p1]; rfl)
    have e2 : Ds = [] := List.eq_nil_of_length_eq_zero (hd.trans (Nat.eq_of_beq_eq_true p2))
    have e3 : c.stk.below = [] := List.isEmpty_iff.1 p3
    rw [e3] at h4
    rw [e1, e2, h4.1]; rfl
  · obtain ⟨v0', k1, k2, k3⟩ := ht.sl
    refine ⟨hn, v0', rv, v2, Ds, E1, E2, k1, rfl, hd, ⟨h3.fr, ?_, h3.ghost⟩, h4⟩
    obtain ⟨tt, td⟩ := t'
    have := ht.df
    rw [hdf] at this
    simp only [List.nil_append] at this
    simp only at k2 this
    rw [k2, this]

theorem Act.eta {a : Act} (h : a.defers = []) : (⟨a.tmps.toList.toArray, []⟩ : Act) = a := by
  obtain ⟨x, y⟩ := a
  simp only at h
  subst h
  simp

theorem TopR.bool {n : Nat} {rest : List Value} {Ds : List Nat} {a t : Act} (h : TopR n rest Ds a t) {j : Nat} (hj : rest = [] ∨ j < n) : t.eval (.tmp j) = a.tmps.getD j undef := by
  rw [h.eval (hj.imp id fun g => fun i e => by cases e; exact g)]; rfl

theorem or_in {p q : Bool} {rest : List Value} {R : Prop} (h : (p || q) = true) (h1 : p = true → rest = []) (h2 : q = true → R) : rest = [] ∨ R := by
  rcases Bool.or_eq_true_iff.1 h with h | h
  · exact .inl (h1 h)
  · exact .inr (h2 h)

theorem blt_lt {a b : Nat} (h : a.blt b = true) : a < b := by simpa [Nat.blt, Nat.lt_iff_add_one_le] using h

theorem beginRd_goes {f0 : FuncId} {c : Cfg} {id : Nat} {y : FrD × Lp × List AV} {b : Frame} {t : Act} {fs : List Frame} {k : List Item} (hround : c.stk.round = true) (hid : c.tmps.getD c.n (.s .junk) = .tag id)
    (hf : findLp id c.stk.below (c.tmps.drop (c.n + c.stk.extra)) = some (y.1, y.2.1, .ready, y.2.2))
    (hgo : Safe P f0 X K { c with todo := k, stk := { c.stk with below := setLp id .busy c.stk.below (c.tmps.drop (c.n + c.stk.extra)) } })
    (hG1 : ∀ b, X.G b → G b) (hG2 : ∀ b, G b → X.G b ∨ X.w.heap.size ≤ b) (hr : Rep (X.at G E) ρ ⟨c.tmps, c.H⟩ a w) (hw : Wf f0 c.stk a.tmps.toList E b t fs) :
    GoesM P f0 (Post X K) b t (.beginRound :: k) fs w := by
  obtain ⟨hn, v0, rv, v2, Ds, E1, E2, e1, rfl, hd, h3, h4⟩ := hw
  obtain ⟨l0, l1, l2⟩ := top_len hr.dp.len e1 hd h3 h4
  have hb := h3.fr
  rw [hround] at hb
  obtain ⟨r, rfl, l, hrv, hrr⟩ := hb
  subst hrv hrr
  have hdp := hr.dp.drop (c.n + c.stk.extra)
  rw [l2] at hdp
  have hn2 : (E2.map (·.1)).Nodup := by
    rw [List.map_append] at hn
    exact (List.nodup_append.1 hn).2.1
  obtain ⟨l', D, v0', g1, g2, g3, g4, g5, g6⟩ := findLp_ok hf h4 hn2 hdp.get
  have hval : a.tmps.toList.getD c.n undef = yieldV l := by
    rw [e1, List.getD, List.getElem?_append_right (by omega), show c.n - v0.length = 0 from by omega]
    rfl
  have hden := hr.dp.get c.n
  rw [hid, hval] at hden
  unfold DenV Den1 at hden
  have hll : l' = l := yieldV_inj (g1.symm.trans hden.1.symm)
  subst hll
  have hheap := (hr.kept _ (show _ ∈ (E1 ++ E2) from List.mem_append_right _ g3)).2.2
  have hbeg := run_beginRound (P := P) hheap rfl
  have hl1 : l' ∉ E1.map (·.1) := by
    intro hm
    rw [List.map_append] at hn
    exact (List.nodup_append.1 hn).2.2 l' hm l' (List.mem_map_of_mem (f := Prod.fst) g3) rfl
  have hr2 : Rep (X.at G (E1 ++ upE l' (Obj.loop (LpSt.busy.lrec y.2.1 (y.1.f.getD f0) v0'.toArray D)) E2)) ρ ⟨c.tmps, c.H⟩ a (w.putObj l' (Obj.loop (LpSt.busy.lrec y.2.1 (y.1.f.getD f0) v0'.toArray D))) :=
    hr.poke (show (l', Obj.loop (LpSt.ready.lrec y.2.1 (y.1.f.getD f0) v0'.toArray D)) ∈ (E1 ++ E2) from List.mem_append_right _ g3) (fun z hz => by
      rcases List.mem_append.1 hz with h6 | h6
      · exact .inl ⟨List.mem_append_left _ h6, fun e => hl1 (e ▸ List.mem_map_of_mem (f := Prod.fst) h6)⟩
      · rcases upE_mem z h6 with h7 | h7
        · exact .inl ⟨List.mem_append_right _ h7.1, h7.2⟩
        · exact .inr h7)
  have key := hgo G _ ρ a _ hG1 hG2 hr2 _ t fs ⟨by rw [List.map_append, upE_keys, ← List.map_append]; exact hn, v0, [yieldV l'], v2, Ds, E1, _, e1, rfl, hd, h3, g6 .busy⟩
  exact GoesM.step (fun cs => stepR_beginRound (l := l') rfl hbeg) key

theorem exec_ok {f : FuncId} {fn : Func} {stop inl : Nat → Bool} (hS : SOk P S Z) (hzc : ZCtx Z X) (hm : P.follows .mixedOrders = true) (hf : P.funcs[f]? = some fn) : ∀ (n : Nat) (fst : Bool) (c : Cfg), (exec P S fn stop inl n fst c).Holds K (Safe P f X K) → Safe P f X K c
  | 0, _, c, h => h
  | n + 1, fst, c, h => by
    intro G E ρ a w hG1 hG2 hr b t fs hw
    have hgo : ∀ c', (exec P S fn stop inl n false c').Holds K (Safe P f X K) → Safe P f X K c' := fun c' h' => exec_ok hS hzc hm hf n false c' h'
    obtain ⟨rest, Ds, htop, hplain, hwf⟩ := hw.top hr.dp.len
    rw [Act.eta hr.defers] at htop
    have hto : ∀ k, (exec P S fn stop inl n fst { c with todo := k }).Holds K (Safe P f X K) → GoesM P f (Post X K) b t k fs w := fun k hk => exec_ok hS hzc hm hf n fst _ hk G E ρ a w hG1 hG2 hr b t fs hw
    have hbr : c.stk.round = false → b.roundOf = none := fun h0 => by
      obtain ⟨_, _, _, _, _, _, _, _, _, _, h3, _⟩ := hw
      have := h3.fr
      rw [h0] at this
      obtain ⟨r, rfl, _, rfl⟩ := this
      rfl
    have hback : ∀ k, (k = [] ∨ ∃ k', k = .code .ret :: k') → c.stk.round = false →
        (match c.stk.fn P fn with
          | some g => (match resultOf P ⟨c.tmps.take c.n, c.H⟩ g.results.toList with
            | some vs => endFn c (oneOf vs) (fun c => exec P S fn stop inl n false c)
            | none => .stuck "results")
          | none => .stuck "results: whose?").Holds K (Safe P f X K) → GoesM P f (Post X K) b t k fs w := by
      intro k hk h0 h
      split at h
      · rename_i g hg
        split at h
        · rename_i vs hv
          have key := endFn_goes (todo := k) hf hg h0 hv h hgo hG1 hG2 hr hw
          refine GoesFr.steps (fun cs => .one ?_) key
          rcases hk with rfl | ⟨k', rfl⟩
          · exact stepR_end (hbr h0)
          · exact stepR_ret (hbr h0)
        · exact h.elim
      · exact h.elim
    -- a region that draws no order, from a place on
    have hops : ∀ (ff : Bool) (id : Nat) (rs : Array Oper) (i : Nat) (k : List Item), i ≤ rs.size →
        (bif noDefer rs && (c.stk.plain || slotsIn c.n rs) then
          runOpsI P S rs (fun s j g args =>
            match g with
            | .s (.fn0 f) => bif inl f then some (pushFn P { c with tmps := s.tmps, H := s.H } f args ⟨c.stk.f, c.n, c.stk.round, c.stk.marks, none, .inRegion rs (List.range' j (rs.size - j)) :: k, (id, j)⟩ (fun c => exec P S fn stop inl n false c)) else none
            | .fn f caps => bif inl f then some (pushFn P { c with tmps := s.tmps, H := s.H } f (args ++ caps) ⟨c.stk.f, c.n, c.stk.round, c.stk.marks, none, .inRegion rs (List.range' j (rs.size - j)) :: k, (id, j)⟩ (fun c => exec P S fn stop inl n false c)) else none
            | .tag y => some (pushRd { c with tmps := s.tmps, H := s.H } y args ⟨c.stk.f, c.n, c.stk.round, c.stk.marks, none, .inRegion rs (List.range' j (rs.size - j)) :: k, (id, j)⟩ (fun c => exec P S fn stop inl n false c))
            | _ => none) (fun s => exec P S fn stop inl n ff { c with tmps := s.tmps, H := s.H, todo := k, stk := { c.stk with rid := 0 } }) i (rs.toList.drop i) ⟨c.tmps, c.H⟩
          else .stuck "region: slots").Holds K (Safe P f X K) →
        GoesM P f (Post X K) b t (.inRegion rs (List.range' i (rs.size - i)) :: k) fs w := by
      intro ff id rs i k hi h
      rw [Bool.cond_eq_ite] at h
      split at h
      · rename_i hc
        simp only [Bool.and_eq_true] at hc
        have hin : InTop c.n rest rs := or_in hc.2 hplain (fun x => x)
        have hlen : (rs.toList.drop i).length = rs.size - i := by simp
        have hcn : ∀ (s : St), s.tmps.length = c.tmps.length → (Cfg.n { c with tmps := s.tmps, H := s.H }) = c.n := fun s hs => by unfold Cfg.n; simp only [hs]
        have key := runOpsI_goes (X := X.at G E) (b := b) (fs := fs) (k := k) (f0 := f) (R := Post X K) (n := c.n) (rest := rest) (Ds := Ds) hS (hzc.at G E) hc.1 hin (fun s hs ρ' a' t' w' hr' ht' => ?_) (fun s j g args tr hen htr ρ' a' t' w' o ho hcall hwant hr' ht' => ?_)
          (rs.toList.drop i) i ⟨c.tmps, c.H⟩ (fun j => by rw [List.getElem?_drop, Array.getElem?_toList]) (by rw [hlen]; omega) h ρ a t w hr htop
        · rw [hlen] at key; exact key
        · exact exec_ok hS hzc hm hf n ff _ hs G E ρ' a' w' hG1 hG2 hr' b t' fs (hwf a' t' ht' hr'.defers)
        · -- a call is entered
          have hw' := hwf a' t' ht' hr'.defers
          have hnd := defer_ne hc.1 ho
          obtain ⟨vf, us, hvf, hus, hcf, hcy⟩ := call_ev (P := P) hcall (e := a'.eval) (fun x _ => hr'.ev x)
          have hwant' : Region.wanted o (yielded rs t'.tmps) = true := by rw [(ht'.same hin ho).2]; exact hwant
          have hj : j < rs.size := (Array.getElem?_eq_some_iff.1 ho).1
          have hrange : List.range' j (rs.size - j) = j :: List.range' (j + 1) (rs.size - (j + 1)) := by
            rw [show rs.size - j = rs.size - (j + 1) + 1 from by omega, List.range'_succ]
          have hlens : s.tmps.length = a'.tmps.toList.length := hr'.dp.len
          have hcne : c.tmps.length = s.tmps.length := by
            obtain ⟨v0, k1, _, k3⟩ := ht'.sl
            obtain ⟨v0', k1', _, k3'⟩ := htop.sl
            rw [hlens, k1, hr.dp.len, k1', List.length_append, List.length_append, k3, k3']
          have hn' := hcn s hcne.symm
          obtain ⟨hnE, v0, rv, v2, Ds', E1, E2, e1, e2, hd, h3, h4⟩ := hw'
          obtain ⟨q0, q1, q2⟩ := top_len (c := { c with tmps := s.tmps, H := s.H }) hlens e1 hd h3 h4
          -- the frame waits
          have hwait : ∀ key, WfS f (⟨c.stk.f, c.n, c.stk.round, c.stk.marks, none, .inRegion rs (List.range' j (rs.size - j)) :: k, key⟩ :: c.stk.below) a'.tmps.toList E
              (b.atR t' (.inRegion rs (List.range' j (rs.size - j)) :: k) :: fs) := fun key =>
            ⟨v0, rv, v2, Ds', E1, E2, b, t', fs, [], [], _, by simpa using e1, by simpa using e2, rfl, q0.trans hn', hd, h3, h4, rfl, rfl, rfl⟩
          have push : ∀ (g' : FuncId) (cs : List AV) (vs : List Value), vf = .func (.func g') #[] vs.toArray → DenL ρ' s.look (Hot ρ' s.look G) w' cs vs →
              (pushFn P { c with tmps := s.tmps, H := s.H } g' (args ++ cs) ⟨c.stk.f, c.n, c.stk.round, c.stk.marks, none, .inRegion rs (List.range' j (rs.size - j)) :: k, (id, j)⟩ (fun c => exec P S fn stop inl n false c)).Holds K (Safe P f X K) →
              GoesM P f (Post X K) b t' (.inRegion rs (List.range' j (rs.size - j)) :: k) fs w' := by
            intro g' cs vs hv hcs htr
            obtain ⟨hcall', key⟩ := pushFn_goes (c := { c with tmps := s.tmps, H := s.H }) (us := us ++ vs) htr hgo hG1 hG2 hr' (DenL_append hus hcs) hnE (hwait _)
            refine GoesFr.steps (fun cs => .one ?_) key
            rw [hrange]
            refine op_enter ho hwant' hnd ?_ b k (fs ++ cs)
            rw [(ht'.same hin ho).1]
            exact hcf g' vs hv hcall'
          split at hen
          · rename_i g'
            rw [Bool.cond_eq_ite] at hen
            split at hen
            · cases hen
              exact push g' [] [] (fn0_den (DenS_of_V (by simp) hvf)) (DenL_nil.2 rfl) (by rw [List.append_nil]; exact htr)
            · cases hen
          · rename_i g' caps
            rw [Bool.cond_eq_ite] at hen
            split at hen
            · cases hen
              unfold DenV at hvf
              obtain ⟨vs, hv, hcaps⟩ := hvf
              exact push g' caps vs hv hcaps htr
            · cases hen
          · rename_i y
            cases hen
            have hvs1 : a'.tmps.toList.drop (Cfg.n { c with tmps := s.tmps, H := s.H } + c.stk.extra) = v2 := q2
            obtain ⟨l, r, hv, hheap, hlen', key⟩ := pushRd_goes (c := { c with tmps := s.tmps, H := s.H }) (us := us) htr hgo hG1 hG2 hr' hus hnE (hwait _) e2 hvs1 h4 hvf
            refine GoesFr.steps (fun cs => .one ?_) key
            rw [hrange]
            refine op_round ho hwant' hnd ?_ b k (fs ++ cs)
            rw [(ht'.same hin ho).1]
            exact hcy l hv r hheap hlen'
          · cases hen
      · exact h.elim
    unfold exec at h
    simp only [] at h
    split at h
    · -- the end
      rename_i htd
      rw [htd]
      rw [Bool.cond_eq_ite] at h
      split at h
      · rename_i hround
        exact endRd_goes hround h hgo hG1 hG2 hr hw (fun l w' c0 cs h1 h2 h3 => stepR_round_end h1 h2 h3)
      · rename_i hround
        exact hback [] (.inl rfl) (by simpa using hround) h
    · rename_i k htd
      rw [htd]
      rw [Bool.cond_eq_ite] at h
      split at h
      · rename_i hround
        exact endRd_goes hround h hgo hG1 hG2 hr hw (fun l w' c0 cs h1 h2 h3 => stepR_round_ret h1 h2 h3)
      · rename_i hround
        exact hback _ (.inr ⟨k, rfl⟩) (by simpa using hround) h
    · rename_i k htd
      rw [htd]
      exact GoesM.step (fun _ => stepR_skip) (hto _ h)
    · rename_i k l htd
      rw [htd]
      exact GoesM.step (fun _ => stepR_label) (hto _ h)
    · rename_i k htd
      rw [htd]
      exact GoesM.step (fun _ => stepR_inBlock) (hto _ h)
    · rename_i k htd
      rw [htd]
      exact GoesM.step (fun _ => step_lone_go (by simp [stepG, stepG.exec, Frame.atR])) (hto _ h)
    · rename_i x y k htd
      rw [htd]
      exact GoesM.step (fun _ => stepR_seq) (hto _ h)
    · rename_i id body k htd
      rw [htd]
      exact GoesM.step (fun _ => stepR_block) (hto _ h)
    · rename_i body k htd
      rw [htd]
      exact GoesM.step (fun _ => step_lone_go (by simp [stepG, stepG.exec, Frame.atR])) (hto _ h)
    · rename_i id k htd
      rw [htd]
      split at h
      · rename_i k' hk'
        exact GoesM.step (fun _ => stepR_exit hk') (hto _ h)
      · rename_i hk'
        rw [Bool.cond_eq_ite] at h
        split at h
        · rename_i hround
          exact endRd_goes hround h hgo hG1 hG2 hr hw (fun l w' c0 cs h1 h2 h3 => stepR_round_exit h1 h2 hk' h3)
        · exact h.elim
    · rename_i j x y k htd
      rw [htd]
      rw [Bool.cond_eq_ite] at h
      split at h
      · rename_i hin0
        have hin : rest = [] ∨ j < c.n := or_in hin0 hplain blt_lt
        split at h
        · rename_i bb hb
          have hev : t.eval (.tmp j) = .bool bb := by
            rw [htop.bool hin]
            have h1 := blit_get hr hb
            rw [Array.getD_eq_getD_getElem?, h1]
            rfl
          refine GoesM.step (fun _ => stepR_cond hev) ?_
          have := hto _ h
          cases bb <;> exact this
        · rename_i bb hb
          have hr' : Rep (X.at G E) ρ ⟨c.tmps.set j (.s (.blit bb)), c.H⟩ a w := hr.refine hb bool_refine
          have hlt : j < c.tmps.length := by
            rcases Nat.lt_or_ge j c.tmps.length with h3 | h3
            · exact h3
            · rw [List.getD, List.getElem?_eq_none h3] at hb
              simp at hb
          have hev : t.eval (.tmp j) = .bool bb := by
            rw [htop.bool hin]
            have h1 := blit_get hr' (d := j) (b := bb) (by simp [List.getD, hlt])
            rw [Array.getD_eq_getD_getElem?, h1]
            rfl
          refine GoesM.step (fun _ => stepR_cond hev) ?_
          obtain ⟨h1, h2⟩ := h
          cases bb
          · exact exec_ok hS hzc hm hf n _ _ (h2 rfl) G E ρ a w hG1 hG2 hr' b t fs hw
          · exact exec_ok hS hzc hm hf n _ _ (h1 rfl) G E ρ a w hG1 hG2 hr' b t fs hw
        · rename_i n0 eq hb
          have hlt : j < c.tmps.length := by
            rcases Nat.lt_or_ge j c.tmps.length with h3 | h3
            · exact h3
            · rw [List.getD, List.getElem?_eq_none h3] at hb
              simp at hb
          have hd0 := hr.den j
          rw [show (St.tmps ⟨c.tmps, c.H⟩).getD j (.s .junk) = _ from hb] at hd0
          obtain ⟨bb, hbv, hb0⟩ : ∃ bb, a.tmps.getD j undef = .bool bb ∧ (bb = eq → n0 = 0) := by
            have h2 := DenS_of_V (by simp) hd0
            generalize a.tmps.getD j undef = u at h2
            cases h2
            exact ⟨_, rfl, by assumption⟩
          have hr' : Rep (X.at G E) ρ ⟨c.tmps.set j (.s (.blit bb)), c.H⟩ a w := hr.refine1 hb (by rw [hbv]; exact DenV_s (.blit bb))
          have hev : t.eval (.tmp j) = .bool bb := by rw [htop.bool hin, hbv]
          refine GoesM.step (fun _ => stepR_cond hev) ?_
          obtain ⟨h1, h2⟩ := h
          cases bb
          · exact exec_ok hS hzc hm hf n _ _ (h2 (by cases eq <;> first | exact hb0 rfl | trivial)) G E ρ a w hG1 hG2 hr' b t fs hw
          · exact exec_ok hS hzc hm hf n _ _ (h1 (by cases eq <;> first | exact hb0 rfl | trivial)) G E ρ a w hG1 hG2 hr' b t fs hw
        · exact h.elim
      · exact h.elim
    · rename_i id rs draw k htd
      rw [htd]
      rw [Bool.cond_eq_ite] at h
      split at h
      · have := h G E ρ a w hG1 hG2 hr b t fs hw
        rwa [htd] at this
      cases draw
      · simp only [cond_false] at h
        have key := hops false id rs 0 k (Nat.zero_le _) h
        refine GoesM.step (fun _ => stepR_region) ?_
        rw [List.range_eq_range']
        simpa using key
      · simp only [cond_true] at h
        rw [Bool.cond_eq_ite] at h
        split at h
        · rename_i hso
          simp only [Bool.and_eq_true] at hso
          obtain ⟨⟨⟨hso1, hso2⟩, hnd⟩, hsl⟩ := hso
          have hin : InTop c.n rest rs := or_in hsl hplain (fun x => x)
          have hany := runOps_drawn (X := X.at G E) (Q := fun a' w' => ∃ ρ' s' , (exec P S fn stop inl n false { c with tmps := s'.tmps, H := s'.H, todo := k }).Holds K (Safe P f X K) ∧ Rep (X.at G E) ρ' s' a' w') hS (hzc.at G E) hso1 hso2 h (fun s' tr' hh => by
              rw [Bool.cond_eq_ite] at hh
              split at hh
              · rename_i hc; exact hc
              · exact hh.elim) (fun ρ' s' tr' a' w' hh hr' => by
              rw [Bool.cond_eq_ite] at hh
              split at hh
              · exact ⟨ρ', s', hh, hr'⟩
              · exact hh.elim) hr.drew
          have hsched : ∀ tt, wpOps P rs (fun e a' w' => e = .normal ∧ ∃ ρ' s' , (exec P S fn stop inl n false { c with tmps := s'.tmps, H := s'.H, todo := k }).Holds K (Safe P f X K) ∧ Rep (X.at G E) ρ' s' a' w') (Region.schedule (P.follows .mixedOrders) rs tt) a { w with drawn := w.drawn + 1 } := fun tt => by
            simp only [Region.schedule, hm, Bool.true_or, if_true]
            exact wpAny_sound rs.size tt _ a _ hany
          refine GoesM.step (fun _ => stepR_region_draw) ?_
          have htop' := wpOps_top hin (fun e a w hq => hq.1) _ a t _ htop (hsched (w.tape w.drawn (.order b.fn id)))
          intro cs
          obtain ⟨a1, w1, ⟨_, a', ⟨_, ρ', s', hh, hr'⟩, ht'⟩, hsteps⟩ := ops_steps hnd (fun e a w hq => hq.1) _ t _ htop' b k (fs ++ cs)
          have key := exec_ok hS hzc hm hf n false _ hh G E ρ' a' w1 hG1 hG2 hr' b a1 fs (hwf a' a1 ht' hr'.defers) cs
          obtain ⟨e, w2, fr, g1, g2, g3⟩ := key
          exact ⟨e, w2, fr, g1, Comes.of_steps hsteps g2, g3⟩
        · exact h.elim
    · rename_i rs todo k htd
      rw [htd]
      rw [Bool.cond_eq_ite] at h
      split at h
      · rename_i he
        simp only [Bool.and_eq_true] at he
        have hle : todo.length ≤ rs.size := Nat.le_of_ble_eq_true he.1
        have he : todo = List.range' (rs.size - todo.length) todo.length := by simpa using he.2
        have key := hops fst c.stk.rid rs (rs.size - todo.length) k (by omega) h
        rw [show rs.size - (rs.size - todo.length) = todo.length from by omega, ← he] at key
        exact key
      · exact h.elim
    · rename_i k htd
      rw [htd]
      rw [Bool.cond_eq_ite] at h
      split at h
      · rename_i hround
        split at h
        · rename_i id hid
          split at h
          · rename_i d L sl hf'
            exact beginRd_goes (y := (d, L, sl)) hround hid hf' (exec_ok hS hzc hm hf n _ _ h) hG1 hG2 hr hw
          · exact h.elim
        · exact h.elim
      · exact h.elim
    · rename_i j ps asg body k htd
      rw [htd]
      rw [Bool.cond_eq_ite] at h
      split at h
      · rename_i hin0
        have hin : rest = [] ∨ j < c.n := or_in hin0 hplain blt_lt
        split at h
        · rename_i g hg
          have hd0 := hr.den j
          rw [show (St.tmps ⟨c.tmps, c.H⟩).getD j (.s .junk) = _ from hg] at hd0
          have hv := fn0_den (DenS_of_V (by simp) hd0)
          exact pushLp_goes (g := .tmp j) (cvs := []) rfl h hgo hG1 hG2 hr hw (by rw [htop.bool hin, hv]) (DenL_nil.2 rfl)
        · rename_i g caps hg
          have hd0 := hr.den j
          rw [show (St.tmps ⟨c.tmps, c.H⟩).getD j (.s .junk) = _ from hg] at hd0
          unfold DenV at hd0
          obtain ⟨vs, hv, hcaps⟩ := hd0
          exact pushLp_goes (g := .tmp j) (cvs := vs) rfl h hgo hG1 hG2 hr hw (by rw [htop.bool hin, hv]) hcaps
        · exact h.elim
      · exact h.elim
    · rename_i body k htd
      rw [htd]
      exact GoesM.step (fun _ => stepR_loop) (h G E ρ a w hG1 hG2 hr b t fs hw)
    · rename_i body k htd
      rw [htd]
      exact GoesM.step (fun _ => stepR_inLoop) (h G E ρ a w hG1 hG2 hr b t fs hw)
    · exact h G E ρ a w hG1 hG2 hr b t fs hw

theorem Wf.base (f : FuncId) {a : Act} (h : a.defers = []) : Wf f {} a.tmps.toList [] { (default : Frame) with fn := f, kind := .normal, roundOf := none } a [] :=
  ⟨List.nodup_nil, a.tmps.toList, [], [], [], [], [], by simp, rfl, rfl, ⟨⟨none, rfl, rfl, rfl⟩, (Act.eta h).symm, rfl⟩, rfl, rfl, rfl⟩

theorem Safe.goes {f : FuncId} {c : Cfg} (h : Safe P f X K c) (hc : c.stk = {}) (hE : X.E = []) (hr : Rep X ρ ⟨c.tmps, c.H⟩ a w) : GoesM P f (Post X K) { (default : Frame) with fn := f, kind := .normal, roundOf := none } a c.todo [] w := by
  have e : X.at X.G [] = X := by
    obtain ⟨x1, x2, x3, x4, x5⟩ := X
    simp only at hE
    subst hE
    rfl
  exact h X.G [] ρ a w (fun _ h => h) (fun _ h => .inl h) (by rw [e]; exact hr) _ a [] (by rw [hc]; exact Wf.base f hr.defers)
end
end Go.Sx

/-! The same state, seen with other names for its own objects, and with less of it. -/
namespace Go.Sx
open Go

def allM {α β : Type} (f : α → Option β) : List α → Option (List β)
  | [] => some []
  | a :: azs => match f a, allM f azs with
    | some b, some bs => some (b :: bs)
    | _, _ => none

/-- A literal is an answer like any other one. -/
def rnS : SV → SV
  | .ilit k n => .int k n
  | .blit b => .bool b
  | x => x

def rn (g : Nat → Option Nat) : Nat → AV → Option AV
  | 0, _ => none
  | d + 1, a =>
    match a with
    | .s x => some (.s (rnS x))
    | .ptr id off => (g id).map fun j => .ptr j off
    | .ptrx id off n i => (g id).map fun j => .ptrx j off n i
    | .eptr c m j => some (.eptr c m j)
    | .vec id => (g id).map fun j => .vec j
    | .vptr id i j => (g id).map fun l => .vptr l i j
    | .part id lo n => (g id).map fun l => .part l lo n
    | .emp => some .emp
    | .agg segs => (allM (rn g d) segs).map .agg
    | .ints k n ws => some (.ints k n ws)
    | .tup vs => (allM (rn g d) vs).map .tup
    | .fn f caps => (allM (rn g d) caps).map (.fn f)
    | .mapv id => (g id).map fun j => .mapv j
    | .tag id => (g id).map fun j => .tag j

def rnO (g : Nat → Option Nat) : AObj → Option AObj
  | .own segs e => (allM (rn g 20) segs).map fun s => .own s e
  | .vec c e => some (.vec c e)
  | .map ck m => some (.map ck m)
  | .dead => some .dead

structure Emb (g : Nat → Option Nat) (ρ : Nat → Value) (H : AHeap) (O : Nat → Prop) (ρ' : Nat → Value) (H' : AHeap) (O' : Nat → Prop) : Prop where
  id : ∀ i j, g i = some j → ρ' j = ρ i ∧ ∀ o, H i = some o → ∃ o', H' j = some o' ∧ ∀ c e, o' = .vec c e → o = .vec c e
  hot : ∀ b, O' b → O b

section
variable {g : Nat → Option Nat} {ρ ρ' : Nat → Value} {H H' : AHeap} {G O O' : Nat → Prop} {w w' : World} {P : Program} {S : SummB} {Z : Glob} {X : Ctx} {s : St} {a : Act} {K : List AObj → AV → Prop} {C : Cfg → Prop}

theorem allM_cons {α β : Type} {f : α → Option β} {a : α} {azs : List α} {l : List β} (h : allM f (a :: azs) = some l) : ∃ b bs, f a = some b ∧ allM f azs = some bs ∧ l = b :: bs := by
  unfold allM at h
  split at h
  · rename_i b bs h1 h2
    simp only [Option.some.injEq] at h
    exact ⟨b, bs, h1, h2, h.symm⟩
  · cases h

theorem allM_length {α β : Type} {f : α → Option β} : ∀ {azs : List α} {l : List β}, allM f azs = some l → l.length = azs.length
  | [], l, h => by simp only [allM, Option.some.injEq] at h; subst h; rfl
  | a :: azs, l, h => by
    obtain ⟨b, bs, _, h2, rfl⟩ := allM_cons h
    simp [allM_length h2]

theorem allM_get {α β : Type} {f : α → Option β} : ∀ {azs : List α} {l : List β}, allM f azs = some l → ∀ (i : Nat) (a : α), azs[i]? = some a → ∃ b, f a = some b ∧ l[i]? = some b
  | [], l, h, i, a, hi => by simp at hi
  | a :: azs, l, h, i, x, hi => by
    obtain ⟨b, bs, h1, h2, rfl⟩ := allM_cons h
    cases i with
    | zero => simp only [List.getElem?_cons_zero, Option.some.injEq] at hi; subst hi; exact ⟨b, h1, rfl⟩
    | succ i => simpa using allM_get h2 i x (by simpa using hi)

theorem DenS.less (hot : ∀ b, O' b → O b) {x : SV} {v : Value} (h : DenS O w x v) : DenS O' w x v :=
  h.step (fun b hb => .inl (hot b hb)) (fun _ _ _ => rfl) (Nat.le_refl _)

theorem DenS.rnS {x : SV} {v : Value} (h : DenS O w x v) : DenS O w (rnS x) v := by
  cases h <;> first
    | exact DenS.int _ _
    | exact DenS.bool _
    | (refine DenS.ro _ _ _ _ _ _ ?_ ?_ ?_ ?_ ?_ <;> assumption)
    | (constructor <;> assumption)
    | constructor

theorem DenV_s_rn (hot : ∀ b, O' b → O b) {x : SV} {v : Value} (h : DenV ρ H O w (.s x) v) : DenV ρ' H' O' w (.s (Sx.rnS x)) v := by
  by_cases hx : x = .junk
  · subst hx; unfold DenV; trivial
  · have h1 := DenS_of_V hx h
    exact DenV_s (h1.less hot).rnS

theorem rn_den (E : Emb g ρ H O ρ' H' O') : ∀ (d : Nat),
    (∀ a a' v, rn g d a = some a' → DenV ρ H O w a v → DenV ρ' H' O' w a' v) ∧ (∀ a a' cs, rn g d a = some a' → DenC ρ H O w a cs → DenC ρ' H' O' w a' cs) := by
  have isSome : ∀ {i j : Nat}, g i = some j → (H i).isSome = true → (H' j).isSome = true := by
    intro i j hg hi
    obtain ⟨o, ho⟩ := Option.isSome_iff_exists.1 hi
    obtain ⟨o', ho', _⟩ := (E.id i j hg).2 o ho
    rw [ho']; rfl
  have vec1 : ∀ {i j : Nat} {v : Value}, g i = some j → Den1 ρ H O w (.vec i) v → Den1 ρ' H' O' w (.vec j) v := by
    intro i j v hg h
    unfold Den1 at *
    obtain ⟨h0, o, ho, h1⟩ := h
    obtain ⟨hr, h2⟩ := E.id i j hg
    obtain ⟨o', ho', h3⟩ := h2 o ho
    exact ⟨h0, o', ho', fun c e hc => by rw [hr]; exact h1 c e (h3 c e hc)⟩
  have vptr1 : ∀ {i j : Nat} {v : Value} {m n : Nat}, g i = some j → Den1 ρ H O w (.vptr i m n) v → Den1 ρ' H' O' w (.vptr j m n) v := by
    intro i j v m n hg h
    unfold Den1 at *
    obtain ⟨h0, o, ho, h1⟩ := h
    obtain ⟨hr, h2⟩ := E.id i j hg
    obtain ⟨o', ho', h3⟩ := h2 o ho
    exact ⟨h0, o', ho', fun c e hc => by rw [hr]; exact h1 c e (h3 c e hc)⟩
  have part1 : ∀ {i j : Nat} {v : Value} {m n : Nat}, g i = some j → Den1 ρ H O w (.part i m n) v → Den1 ρ' H' O' w (.part j m n) v := by
    intro i j v m n hg h
    unfold Den1 at *
    obtain ⟨h0, o, ho, h1⟩ := h
    obtain ⟨hr, h2⟩ := E.id i j hg
    obtain ⟨o', ho', h3⟩ := h2 o ho
    exact ⟨h0, o', ho', fun c e hc => by rw [hr]; exact h1 c e (h3 c e hc)⟩
  have ptr1 : ∀ {i j : Nat} {v : Value} {off : Nat}, g i = some j → Den1 ρ H O w (.ptr i off) v → Den1 ρ' H' O' w (.ptr j off) v := by
    intro i j v off hg h
    unfold Den1 at *
    obtain ⟨b, h1, h2, h3⟩ := h
    exact ⟨b, by rw [(E.id i j hg).1, h1], h2, isSome hg h3⟩
  have map1 : ∀ {i j : Nat} {v : Value}, g i = some j → Den1 ρ H O w (.mapv i) v → Den1 ρ' H' O' w (.mapv j) v := by
    intro i j v hg h
    unfold Den1 at *
    obtain ⟨b, h1, h2, h3⟩ := h
    exact ⟨b, by rw [(E.id i j hg).1, h1], h2, isSome hg h3⟩
  have tag1 : ∀ {i j : Nat} {v : Value}, g i = some j → Den1 ρ H O w (.tag i) v → Den1 ρ' H' O' w (.tag j) v := by
    intro i j v hg h
    unfold Den1 at *
    obtain ⟨h1, h2, h3⟩ := h
    exact ⟨by rw [(E.id i j hg).1, h1], h2, isSome hg h3⟩
  have ptrx1 : ∀ {i j : Nat} {v : Value} {off n l : Nat}, g i = some j → Den1 ρ H O w (.ptrx i off n l) v → Den1 ρ' H' O' w (.ptrx j off n l) v := by
    intro i j v off n l hg h
    unfold Den1 at *
    obtain ⟨h0, b, h1, h2, h3⟩ := h
    exact ⟨h0, b, by rw [(E.id i j hg).1, h1], h2, isSome hg h3⟩
  have eptr1 : ∀ {c : Con} {m j : Nat} {v : Value}, Den1 ρ H O w (.eptr c m j) v → Den1 ρ' H' O' w (.eptr c m j) v := by
    intro c m j v h
    unfold Den1 at *
    obtain ⟨b, o, us, h1, h2, h3, h4⟩ := h
    exact ⟨b, o, us, h1, fun h5 => h2 (E.hot b h5), h3, fun i hi => ⟨(h4 i hi).1, (h4 i hi).2.less E.hot⟩⟩
  intro d
  induction d with
  | zero => exact ⟨fun a a' v h => by simp [rn] at h, fun a a' cs h => by simp [rn] at h⟩
  | succ d ih =>
    have lst : ∀ (azs azs' : List AV) (vs : List Value), allM (rn g d) azs = some azs' → DenL ρ H O w azs vs → DenL ρ' H' O' w azs' vs := by
      intro azs
      induction azs with
      | nil => intro azs' vs h hd; simp only [allM, Option.some.injEq] at h; subst h; rw [DenL_nil.1 hd]; exact DenL_nil.2 rfl
      | cons a azs ihl =>
        intro azs' vs h hd
        obtain ⟨b, bs, h1, h2, rfl⟩ := allM_cons h
        obtain ⟨v, rest, rfl, h3, h4⟩ := DenL_cons.1 hd
        exact DenL_cons.2 ⟨v, rest, rfl, ih.1 a b v h1 h3, ihl bs rest h2 h4⟩
    have sgs : ∀ (azs azs' : List AV) (cs : List Value), allM (rn g d) azs = some azs' → DenSegs ρ H O w azs cs → DenSegs ρ' H' O' w azs' cs := by
      intro azs
      induction azs with
      | nil => intro azs' vs h hd; simp only [allM, Option.some.injEq] at h; subst h; rw [DenSegs_nil.1 hd]; exact DenSegs_nil.2 rfl
      | cons a azs ihl =>
        intro azs' vs h hd
        obtain ⟨b, bs, h1, h2, rfl⟩ := allM_cons h
        obtain ⟨c1, c2, rfl, h3, h4⟩ := DenSegs_cons.1 hd
        exact DenSegs_cons.2 ⟨c1, c2, rfl, ih.2 a b c1 h1 h3, ihl bs c2 h2 h4⟩
    refine ⟨fun a a' v h hd => ?_, fun a a' cs h hd => ?_⟩
    · cases a <;> simp only [rn, Option.map_eq_some_iff, Option.some.injEq, reduceCtorEq] at h
      case s x => subst h; exact DenV_s_rn E.hot hd
      case ptr id off => obtain ⟨j, hg, rfl⟩ := h; unfold DenV at *; exact ptr1 hg hd
      case ptrx id off n i => obtain ⟨j, hg, rfl⟩ := h; unfold DenV at *; exact ptrx1 hg hd
      case eptr c m j => subst h; unfold DenV at *; exact eptr1 hd
      case vec id => obtain ⟨j, hg, rfl⟩ := h; unfold DenV at *; exact vec1 hg hd
      case vptr id i j => obtain ⟨l, hg, rfl⟩ := h; unfold DenV at *; exact vptr1 hg hd
      case part id lo n => obtain ⟨l, hg, rfl⟩ := h; unfold DenV at *; exact part1 hg hd
      case emp => subst h; unfold DenV at *; exact hd
      case agg segs => obtain ⟨l, hl, rfl⟩ := h; unfold DenV at *; obtain ⟨cs, h1, h2⟩ := hd; exact ⟨cs, h1, sgs _ _ _ hl h2⟩
      case ints k n ws => subst h; unfold DenV at *; exact hd
      case tup vs => obtain ⟨l, hl, rfl⟩ := h; unfold DenV at *; obtain ⟨us, h1, h2⟩ := hd; exact ⟨us, h1, lst _ _ _ hl h2⟩
      case fn f caps => obtain ⟨l, hl, rfl⟩ := h; unfold DenV at *; obtain ⟨us, h1, h2⟩ := hd; exact ⟨us, h1, lst _ _ _ hl h2⟩
      case mapv id => obtain ⟨j, hg, rfl⟩ := h; unfold DenV at *; exact map1 hg hd
      case tag id => obtain ⟨j, hg, rfl⟩ := h; unfold DenV at *; exact tag1 hg hd
    · cases a <;> simp only [rn, Option.map_eq_some_iff, Option.some.injEq, reduceCtorEq] at h
      case s x => subst h; unfold DenC at *; obtain ⟨u, h1, h2⟩ := hd; exact ⟨u, h1, (h2.less E.hot).rnS⟩
      case ptr id off => obtain ⟨j, hg, rfl⟩ := h; unfold DenC at *; obtain ⟨u, h1, h2⟩ := hd; exact ⟨u, h1, ptr1 hg h2⟩
      case ptrx id off n i => obtain ⟨j, hg, rfl⟩ := h; unfold DenC at *; obtain ⟨u, h1, h2⟩ := hd; exact ⟨u, h1, ptrx1 hg h2⟩
      case eptr c m j => subst h; unfold DenC at *; obtain ⟨u, h1, h2⟩ := hd; exact ⟨u, h1, eptr1 h2⟩
      case vec id => obtain ⟨j, hg, rfl⟩ := h; unfold DenC at *; obtain ⟨u, h1, h2⟩ := hd; exact ⟨u, h1, vec1 hg h2⟩
      case vptr id i j => obtain ⟨l, hg, rfl⟩ := h; unfold DenC at *; obtain ⟨u, h1, h2⟩ := hd; exact ⟨u, h1, vptr1 hg h2⟩
      case part id lo n => obtain ⟨l, hg, rfl⟩ := h; unfold DenC at *; obtain ⟨u, h1, h2⟩ := hd; exact ⟨u, h1, part1 hg h2⟩
      case emp => subst h; unfold DenC at *; exact hd
      case agg segs => unfold DenC at hd; exact hd.elim
      case ints k n ws => subst h; unfold DenC at *; exact hd
      case tup vs => unfold DenC at hd; exact hd.elim
      case fn f caps => obtain ⟨l, hl, rfl⟩ := h; unfold DenC at *; obtain ⟨u, h1, us, h2, h3⟩ := hd; exact ⟨u, h1, us, h2, lst _ _ _ hl h3⟩
      case mapv id => obtain ⟨j, hg, rfl⟩ := h; unfold DenC at *; obtain ⟨u, h1, h2⟩ := hd; exact ⟨u, h1, map1 hg h2⟩
      case tag id => obtain ⟨j, hg, rfl⟩ := h; unfold DenC at *; obtain ⟨u, h1, h2⟩ := hd; exact ⟨u, h1, tag1 hg h2⟩

theorem rnL_den (E : Emb g ρ H O ρ' H' O') {d : Nat} : ∀ {azs azs' : List AV} {vs : List Value}, allM (rn g d) azs = some azs' → DenL ρ H O w azs vs → DenL ρ' H' O' w azs' vs
  | [], azs', vs, h, hd => by simp only [allM, Option.some.injEq] at h; subst h; rw [DenL_nil.1 hd]; exact DenL_nil.2 rfl
  | a :: azs, azs', vs, h, hd => by
    obtain ⟨b, bs, h1, h2, rfl⟩ := allM_cons h
    obtain ⟨v, rest, rfl, h3, h4⟩ := DenL_cons.1 hd
    exact DenL_cons.2 ⟨v, rest, rfl, (rn_den E d).1 a b v h1 h3, rnL_den E h2 h4⟩

theorem rnSegs_den (E : Emb g ρ H O ρ' H' O') {d : Nat} : ∀ {azs azs' : List AV} {cs : List Value}, allM (rn g d) azs = some azs' → DenSegs ρ H O w azs cs → DenSegs ρ' H' O' w azs' cs
  | [], azs', vs, h, hd => by simp only [allM, Option.some.injEq] at h; subst h; rw [DenSegs_nil.1 hd]; exact DenSegs_nil.2 rfl
  | a :: azs, azs', vs, h, hd => by
    obtain ⟨b, bs, h1, h2, rfl⟩ := allM_cons h
    obtain ⟨c1, c2, rfl, h3, h4⟩ := DenSegs_cons.1 hd
    exact DenSegs_cons.2 ⟨c1, c2, rfl, (rn_den E d).2 a b c1 h1 h3, rnSegs_den E h2 h4⟩

theorem rnO_sat (E : Emb g ρ H O ρ' H' O') {o o' : AObj} {root : Value} (h : rnO g o = some o') (hs : ObjSat ρ H O w root o) : ObjSat ρ' H' O' w root o' := by
  cases o with
  | dead => simp only [rnO, Option.some.injEq] at h; subst h; trivial
  | map ck m => simp only [rnO, Option.some.injEq] at h; subst h; exact hs
  | own segs e =>
    simp only [rnO, Option.map_eq_some_iff] at h
    obtain ⟨l, hl, rfl⟩ := h
    obtain ⟨b, cells, fr, h0, h1, h2, h3⟩ := hs
    exact ⟨b, cells, fr, h0, h1, h2, rnSegs_den E hl h3⟩
  | vec c e =>
    simp only [rnO, Option.some.injEq] at h
    subst h
    obtain ⟨r, cap, h0, h1, h2, h3⟩ := hs
    refine ⟨r, cap, h0, h1, h2, h3.imp id ?_⟩
    rintro ⟨b, f, cells, fr, us, h4, h5, h6, h7, h8⟩
    exact ⟨b, f, cells, fr, us, h4, h5, h6, h7, fun i j hi hj => ⟨(h8 i j hi hj).1, (h8 i j hi hj).2.less E.hot⟩⟩

theorem rnO_alive {o o' : AObj} (h : rnO g o = some o') : o'.alive = o.alive ∧ ∀ c e, o' = .vec c e → o = .vec c e := by
  cases o with
  | dead => simp only [rnO, Option.some.injEq] at h; subst h; exact ⟨rfl, fun c e hc => by cases hc⟩
  | map ck m => simp only [rnO, Option.some.injEq] at h; subst h; exact ⟨rfl, fun c e hc => by cases hc⟩
  | own segs e =>
    simp only [rnO, Option.map_eq_some_iff] at h
    obtain ⟨l, hl, rfl⟩ := h
    exact ⟨rfl, fun c e hc => by cases hc⟩
  | vec c e => simp only [rnO, Option.some.injEq] at h; subst h; exact ⟨rfl, fun c e hc => hc⟩

def idxF : List Nat → Nat → Nat → Option Nat
  | [], _, _ => none
  | x :: xs, k, id => bif x.beq id then some k else idxF xs (k + 1) id
def idx (σ : List Nat) (id : Nat) : Option Nat := idxF σ 0 id

def viewH (σ : List Nat) (L : List AObj) : Option (List AObj) := allM (fun id => match L[id]? with | some o => rnO (idx σ) o | none => none) σ

def nodupB : List Nat → Bool
  | [] => true
  | x :: xs => !(xs.any (x.beq ·)) && nodupB xs

theorem idxF_spec : ∀ {σ : List Nat} {k id j : Nat}, idxF σ k id = some j → k ≤ j ∧ σ[j - k]? = some id
  | [], k, id, j, h => by simp [idxF] at h
  | x :: xs, k, id, j, h => by
    simp only [idxF, Bool.cond_eq_ite] at h
    split at h
    · rename_i hx
      obtain rfl : x = id := Nat.eq_of_beq_eq_true hx
      obtain rfl : k = j := by simpa using h
      exact ⟨Nat.le_refl _, by simp⟩
    · obtain ⟨h1, h2⟩ := idxF_spec h
      refine ⟨by omega, ?_⟩
      rw [show j - k = (j - (k + 1)) + 1 from by omega]
      simpa using h2

theorem idx_spec {σ : List Nat} {id j : Nat} (h : idx σ id = some j) : σ[j]? = some id := by simpa using (idxF_spec h).2

theorem nodupB_spec : ∀ {σ : List Nat}, nodupB σ = true → σ.Nodup
  | [], _ => .nil
  | x :: xs, h => by
    simp only [nodupB, Bool.and_eq_true, Bool.not_eq_true', List.any_eq_false] at h
    refine List.nodup_cons.2 ⟨fun hm => ?_, nodupB_spec h.2⟩
    have := h.1 x hm
    simp at this

theorem viewH_get {σ : List Nat} {L L' : List AObj} (h : viewH σ L = some L') {j : Nat} {o' : AObj} (hj : L'[j]? = some o') : ∃ (id : Nat) (o : AObj), σ[j]? = some id ∧ L[id]? = some o ∧ rnO (idx σ) o = some o' := by
  have hlen := allM_length h
  have hlt : j < σ.length := by rw [← hlen]; exact (List.getElem?_eq_some_iff.1 hj).1
  obtain ⟨b, h1, h2⟩ := allM_get h j σ[j] (List.getElem?_eq_getElem hlt)
  rw [hj] at h2
  simp only [Option.some.injEq] at h2
  subst h2
  split at h1
  · rename_i o ho
    exact ⟨σ[j], o, List.getElem?_eq_getElem hlt, ho, h1⟩
  · cases h1

theorem viewH_of {σ : List Nat} {L L' : List AObj} (h : viewH σ L = some L') {j id : Nat} (hj : σ[j]? = some id) : ∃ o o', L[id]? = some o ∧ rnO (idx σ) o = some o' ∧ L'[j]? = some o' := by
  obtain ⟨b, h1, h2⟩ := allM_get h j id hj
  split at h1
  · rename_i o ho
    exact ⟨o, b, ho, h1, h2⟩
  · cases h1

def pull (σ : List Nat) (ρ : Nat → Value) : Nat → Value := fun j => ρ (σ.getD j 0)

theorem view_own {σ : List Nat} {L L' : List AObj} (hv : viewH σ L = some L') {b : Nat} (h : Own (pull σ ρ) (fun j => L'[j]?) b) : ∃ (j id : Nat) (o : AObj), σ[j]? = some id ∧ L[id]? = some o ∧ o.alive = true ∧ blk (ρ id) = some b := by
  obtain ⟨j, o', ho', ha, hb⟩ := h
  obtain ⟨id, o, h1, h2, h3⟩ := viewH_get hv ho'
  have : pull σ ρ j = ρ id := by simp [pull, List.getD, h1]
  rw [this] at hb
  exact ⟨j, id, o, h1, h2, by rw [← (rnO_alive h3).1]; exact ha, hb⟩

theorem view_core {σ : List Nat} {L L' : List AObj} {G' : Nat → Prop} (hs : Sat ρ (fun i => L[i]?) G w) (hn : σ.Nodup) (hv : viewH σ L = some L') (hG : ∀ b, G' b → Hot ρ (fun i => L[i]?) G b) (hap : ∀ b, Own (pull σ ρ) (fun j => L'[j]?) b → ¬ G' b) :
    Sat (pull σ ρ) (fun j => L'[j]?) G' w ∧ Emb (idx σ) ρ (fun i => L[i]?) (Hot ρ (fun i => L[i]?) G) (pull σ ρ) (fun j => L'[j]?) (Hot (pull σ ρ) (fun j => L'[j]?) G') := by
  have hpull : ∀ {j id : Nat}, σ[j]? = some id → pull σ ρ j = ρ id := fun h1 => by simp [pull, List.getD, h1]
  have E : Emb (idx σ) ρ (fun i => L[i]?) (Hot ρ (fun i => L[i]?) G) (pull σ ρ) (fun j => L'[j]?) (Hot (pull σ ρ) (fun j => L'[j]?) G') := by
    refine ⟨fun i j hij => ?_, fun b hb => ?_⟩
    · have h1 := idx_spec hij
      refine ⟨hpull h1, fun o ho => ?_⟩
      obtain ⟨o1, o', h2, h3, h4⟩ := viewH_of hv h1
      rw [show L[i]? = some o from ho] at h2
      simp only [Option.some.injEq] at h2
      subst h2
      exact ⟨o', h4, (rnO_alive h3).2⟩
    · rcases hb with hb | hb
      · obtain ⟨j, id, o, h1, h2, h3, h4⟩ := view_own hv hb
        exact .inl ⟨id, o, h2, h3, h4⟩
      · exact hG b hb
  refine ⟨⟨fun j o' ho' => ?_, fun i j oi oj b hi hj ai aj bi bj => ?_, hap, fun b hb => hot_lt hs (hG b hb)⟩, E⟩
  · obtain ⟨id, o, h1, h2, h3⟩ := viewH_get hv ho'
    rw [hpull h1]
    exact rnO_sat E h3 (hs.obj id o h2)
  · obtain ⟨id, o, h1, h2, h3⟩ := viewH_get hv hi
    obtain ⟨id', o', h1', h2', h3'⟩ := viewH_get hv hj
    rw [hpull h1] at bi
    rw [hpull h1'] at bj
    have := hs.inj id id' o o' b h2 h2' (by rw [← (rnO_alive h3).1]; exact ai) (by rw [← (rnO_alive h3').1]; exact aj) bi bj
    subst this
    have hi' := List.getElem?_eq_some_iff.1 h1
    have hj' := List.getElem?_eq_some_iff.1 h1'
    obtain ⟨hi1, hi2⟩ := hi'
    obtain ⟨hj1, hj2⟩ := hj'
    exact (List.getElem_inj hn).1 (hi2.trans hj2.symm)

theorem view_step {σ : List Nat} {L L' : List AObj} {ρ0 : Nat → Value} {H0 : AHeap} {O0 : Nat → Prop} {w0 : World} {m : Nat} (hs : Sat ρ (fun i => L[i]?) G w) (hn : σ.Nodup) (hv : viewH σ L = some L') (hfix : ∀ i, i < m → σ[i]? = some i) (h0 : ∀ id, m ≤ id → H0 id = none)
    (st : Step ρ0 H0 O0 w0 ρ (fun i => L[i]?) (Hot ρ (fun i => L[i]?) G) w) : Step ρ0 H0 O0 w0 (pull σ ρ) (fun j => L'[j]?) (Hot (pull σ ρ) (fun j => L'[j]?) G) w := by
  have E := (view_core (G' := G) hs hn hv (fun b hb => .inr hb) (fun b hb => by
    obtain ⟨j, id, o, h1, h2, h3, h4⟩ := view_own hv hb
    exact hs.apart b ⟨id, o, h2, h3, h4⟩)).2
  have hlt : ∀ {id : Nat} {o : AObj}, H0 id = some o → id < m := fun {id o} h => by
    rcases Nat.lt_or_ge id m with h1 | h1
    · exact h1
    · rw [h0 id h1] at h; cases h
  refine ⟨fun id o ho => ?_, fun id o ho => ?_, fun b hb => st.hot b (E.hot b hb), st.heap, st.size⟩
  · rw [show pull σ ρ id = ρ id from by simp [pull, List.getD, hfix id (hlt ho)]]
    exact st.rho id o ho
  · obtain ⟨o1, h1, h2⟩ := st.keep id o ho
    obtain ⟨o2, o', h3, h4, h5⟩ := viewH_of hv (hfix id (hlt ho))
    rw [show L[id]? = some o1 from h1] at h3
    simp only [Option.some.injEq] at h3
    subst h3
    exact ⟨o', h5, fun c e hc => h2 c e ((rnO_alive h4).2 c e hc)⟩

theorem Good.view {σ : List Nat} {L L' : List AObj} {m d : Nat} {r r' : AV} {v : Value} (h : Good ρ H G w (fun i => L[i]?) r v w') (hn : σ.Nodup) (hv : viewH σ L = some L') (hfix : ∀ i, i < m → σ[i]? = some i) (h0 : ∀ id, m ≤ id → H id = none) (hr : rn (idx σ) d r = some r') :
    Good ρ H G w (fun i => L'[i]?) r' v w' := by
  obtain ⟨ρ', h1, h2, h3, h4⟩ := h
  obtain ⟨h5, h6⟩ := view_core (G' := G) h1 hn hv (fun b hb => .inr hb) (fun b hb => by
    obtain ⟨j, id, o, h1', h2, h3, h4⟩ := view_own hv hb
    exact h1.apart b ⟨id, o, h2, h3, h4⟩)
  exact ⟨pull σ ρ', h5, (rn_den h6 d).1 r r' v hr h2, view_step h1 hn hv hfix h0 h3, h4⟩

theorem Rep.view {σ : List Nat} {tmps tmps' : List AV} {L L' : List AObj} {m d : Nat} (h : Rep X ρ ⟨tmps, L⟩ a w) (hn : σ.Nodup) (hv : viewH σ L = some L') (hfix : ∀ i, i < m → σ[i]? = some i) (h0 : ∀ id, m ≤ id → X.H id = none) (ht : allM (rn (idx σ) d) tmps = some tmps') :
    Rep X (pull σ ρ) ⟨tmps', L'⟩ a w := by
  have hs : Sat ρ (fun i => L[i]?) X.G w := h.sat
  obtain ⟨h5, h6⟩ := view_core (G' := X.G) hs hn hv (fun b hb => .inr hb) (fun b hb => by
    obtain ⟨j, id, o, h1', h2, h3, h4⟩ := view_own hv hb
    exact hs.apart b ⟨id, o, h2, h3, h4⟩)
  refine ⟨h5, by rw [← h.size]; exact allM_length ht, fun t => ?_, h.defers, view_step hs hn hv hfix h0 h.from_, h.frm, h.kept⟩
  have hd := h.den t
  simp only [] at hd ⊢
  rcases Nat.lt_or_ge t tmps.length with hlt | hge
  · obtain ⟨b, h1, h2⟩ := allM_get ht t tmps[t] (List.getElem?_eq_getElem hlt)
    have e1 : tmps.getD t (.s .junk) = tmps[t] := by simp [List.getD, hlt]
    have e2 : tmps'.getD t (.s .junk) = b := by simp [List.getD, h2]
    rw [e1] at hd
    rw [e2]
    exact (rn_den h6 d).1 _ _ _ h1 hd
  · have e2 : tmps'.getD t (.s .junk) = .s .junk := by
      have := allM_length ht
      simp [List.getD, List.getElem?_eq_none (show tmps'.length ≤ t by omega)]
    rw [e2]
    unfold DenV
    trivial

/-! ### less -/
def keepOnly (ks : List Nat) : Nat → List AV → List AV
  | _, [] => []
  | i, a :: azs => (bif ks.any (i.beq ·) then a else .s .junk) :: keepOnly ks (i + 1) azs

theorem keepOnly_length (ks : List Nat) : ∀ (i : Nat) (azs : List AV), (keepOnly ks i azs).length = azs.length
  | _, [] => rfl
  | i, a :: azs => by simp [keepOnly, keepOnly_length ks (i + 1) azs]

theorem keepOnly_get (ks : List Nat) : ∀ (i : Nat) (azs : List AV) (t : Nat), (keepOnly ks i azs).getD t (.s .junk) = azs.getD t (.s .junk) ∨ (keepOnly ks i azs).getD t (.s .junk) = .s .junk
  | _, [], t => .inl rfl
  | i, a :: azs, 0 => by
    simp only [keepOnly, List.getD_cons_zero]
    cases ks.any (i.beq ·)
    · exact .inr rfl
    · exact .inl rfl
  | i, a :: azs, t + 1 => by
    simp only [keepOnly, List.getD_cons_succ]
    exact keepOnly_get ks (i + 1) azs t

theorem Rep.keepOnly {tmps : List AV} {L : List AObj} (ks : List Nat) (h : Rep X ρ ⟨tmps, L⟩ a w) : Rep X ρ ⟨keepOnly ks 0 tmps, L⟩ a w := by
  refine ⟨h.sat, by rw [← h.size]; exact keepOnly_length ks 0 tmps, fun t => ?_, h.defers, h.from_, h.frm, h.kept⟩
  rcases keepOnly_get ks 0 tmps t with h1 | h1
  · simp only []; rw [h1]; exact h.den t
  · simp only []; rw [h1]; unfold DenV; trivial

/-! ### a nil slice, seen as a row of none -/
def nilSlot (c : Con) (e : TypeId) (t : Nat) (tmps : List AV) (L : List AObj) : List AV × List AObj :=
  match tmps.getD t (.s .junk) with
  | .emp => bif c.n.beq 0 then (tmps.set t (.vec L.length), L ++ [.vec c e]) else (tmps, L)
  | _ => (tmps, L)

theorem Step.alloc {v : Value} {c : Con} {e : TypeId} {L : List AObj} (hb : blk v = none) :
    Step ρ (fun i => L[i]?) (Hot ρ (fun i => L[i]?) G) w (fun j => if j = L.length then v else ρ j) (fun i => (L ++ [AObj.vec c e])[i]?) (Hot (fun j => if j = L.length then v else ρ j) (fun i => (L ++ [AObj.vec c e])[i]?) G) w := by
  have hlt : ∀ {id : Nat} {o : AObj}, L[id]? = some o → id < L.length := fun h => (List.getElem?_eq_some_iff.1 h).1
  refine ⟨fun id o ho => ?_, fun id o ho => ?_, fun b hb' => .inl ?_, fun _ _ _ => rfl, Nat.le_refl _⟩
  · have := hlt ho
    rw [if_neg (by omega)]
  · have h1 := hlt ho
    exact ⟨o, by show (L ++ [AObj.vec c e])[id]? = _; rw [List.getElem?_append_left h1]; exact ho, fun c' e' hc => ⟨c', e', hc, rfl, rfl⟩⟩
  · rcases hb' with ⟨id, o, ho, ha, hbl⟩ | hg
    · by_cases hid : id = L.length
      · simp only [hid, if_true] at hbl
        rw [hb] at hbl; cases hbl
      · simp only [hid, if_false] at hbl
        have ho' : L[id]? = some o := by
          have h2 := (List.getElem?_eq_some_iff.1 ho).1
          simp only [List.length_append, List.length_cons, List.length_nil] at h2
          have h3 : id < L.length := by omega
          have h4 : (L ++ [AObj.vec c e])[id]? = L[id]? := List.getElem?_append_left h3
          rw [← h4]; exact ho
        exact .inl ⟨id, o, ho', ha, hbl⟩
    · exact .inr hg

theorem Rep.nilSlot {c : Con} {e : TypeId} {t : Nat} {tmps : List AV} {L : List AObj} (h : Rep X ρ ⟨tmps, L⟩ a w) : ∃ ρ', Rep X ρ' ⟨(nilSlot c e t tmps L).1, (nilSlot c e t tmps L).2⟩ a w := by
  unfold Sx.nilSlot
  split
  · rename_i he
    rw [Bool.cond_eq_ite]
    split
    · rename_i hc
      have hc : c.n = 0 := Nat.eq_of_beq_eq_true hc
      have hd := h.den t
      simp only [] at hd
      rw [he] at hd
      unfold DenV at hd
      obtain ⟨r, hv⟩ := hd
      have hbk : blk (.slice r 0 0) = none := by cases r <;> simp [blk]
      let ρ' : Nat → Value := fun j => if j = L.length then .slice r 0 0 else ρ j
      have st : Step ρ (fun i => L[i]?) (Hot ρ (fun i => L[i]?) X.G) w ρ' (fun i => (L ++ [AObj.vec c e])[i]?) (Hot ρ' (fun i => (L ++ [AObj.vec c e])[i]?) X.G) w := Step.alloc hbk
      have hs : Sat ρ (fun i => L[i]?) X.G w := h.sat
      have old : ∀ {id : Nat} {o : AObj}, (L ++ [AObj.vec c e])[id]? = some o → (id = L.length ∧ o = .vec c e) ∨ (id ≠ L.length ∧ L[id]? = some o) := by
        intro id o ho
        have h2 := (List.getElem?_eq_some_iff.1 ho).1
        simp only [List.length_append, List.length_cons, List.length_nil] at h2
        by_cases hid : id = L.length
        · subst hid
          simp at ho
          exact .inl ⟨rfl, ho.symm⟩
        · refine .inr ⟨hid, ?_⟩
          rwa [List.getElem?_append_left (by omega)] at ho
      have hown : ∀ b, Own ρ' (fun i => (L ++ [AObj.vec c e])[i]?) b → Own ρ (fun i => L[i]?) b := by
        rintro b ⟨id, o, ho, ha, hb⟩
        rcases old ho with ⟨h1, h2⟩ | ⟨h1, h2⟩
        · simp only [ρ', h1, if_true] at hb
          rw [hbk] at hb; cases hb
        · simp only [ρ', h1, if_false] at hb
          exact ⟨id, o, h2, ha, hb⟩
      refine ⟨ρ', ⟨⟨fun id o ho => ?_, fun i j oi oj b hi hj ai aj bi bj => ?_, fun b hb => hs.apart b (hown b hb), hs.low⟩, by simpa using h.size, fun u => ?_, h.defers, ?_, h.frm, h.kept⟩⟩
      · rcases old ho with ⟨h1, h2⟩ | ⟨h1, h2⟩
        · subst h2
          simp only [ρ', h1, if_true]
          exact ⟨r, 0, by rw [hc], by omega, Nat.zero_le _, .inl rfl⟩
        · simp only [ρ', h1, if_false]
          exact (hs.obj id o h2).step st (fun _ _ _ => rfl)
      · rcases old hi with ⟨h1, h2⟩ | ⟨h1, h2⟩
        · simp only [ρ', h1, if_true] at bi
          rw [hbk] at bi; cases bi
        · rcases old hj with ⟨h3, h4⟩ | ⟨h3, h4⟩
          · simp only [ρ', h3, if_true] at bj
            rw [hbk] at bj; cases bj
          · simp only [ρ', h1, if_false] at bi
            simp only [ρ', h3, if_false] at bj
            exact hs.inj i j oi oj b h2 h4 ai aj bi bj
      · simp only []
        rw [getD_set_list]
        split
        · rename_i hu
          obtain ⟨rfl, _⟩ := hu
          rw [hv]
          unfold DenV Den1
          refine ⟨rfl, .vec c e, by simp [St.look], fun c' e' _ => ?_⟩
          exact (if_pos rfl).symm
        · exact DenV.step st _ _ (h.den u)
      · exact h.from_.trans st
    · exact ⟨ρ, h⟩
  · exact ⟨ρ, h⟩

/-! ### a loop's head, made alike -/
def idsOf : Nat → AV → List Nat
  | 0, _ => []
  | d + 1, a => match a with
    | .ptr id _ | .ptrx id _ _ _ | .vec id | .vptr id _ _ | .part id _ _ | .mapv id | .tag id => [id]
    | .agg azs | .tup azs | .fn _ azs => azs.flatMap (idsOf d)
    | _ => []

def objIds : Option AObj → List Nat
  | some (.own segs _) => segs.flatMap (idsOf 20)
  | _ => []

def reach (L : List AObj) : Nat → List Nat → List Nat → List Nat
  | 0, _, acc => acc
  | _, [], acc => acc
  | n + 1, id :: todo, acc => bif acc.any (id.beq ·) then reach L n todo acc else reach L n (todo ++ objIds L[id]?) (acc ++ [id])

def fixB (m : Nat) (σ : List Nat) : Bool := (List.range m).all fun i => match σ[i]? with | some j => i.beq j | none => false

/-- How a loop's head is made alike: which slots are kept, which are rows though nil, how many objects the call was handed. -/
structure Norm where
  nils : List (Nat × Con × TypeId)
  keep : List Nat
  m : Nat
  cells : List (Nat × Nat × Bool × Con × TypeId)

def nilSlots : List (Nat × Con × TypeId) → List AV → List AObj → List AV × List AObj
  | [], tmps, L => (tmps, L)
  | (t, c, e) :: ns, tmps, L => let p := nilSlot c e t tmps L; nilSlots ns p.1 p.2

/-- A nil slice in an own object's cell. -/
def nilCell (id j : Nat) (c : Con) (e : TypeId) (L : List AObj) : List AObj :=
  match L[id]? with
  | some (.own segs e0) => (match segs[j]? with
    | some .emp => bif c.n.beq 0 then L.set id (.own (segs.set j (.vec L.length)) e0) ++ [.vec c e] else L
    | _ => L)
  | _ => L

/-- The same, seen as a row of none that stands still. -/
def roCell (id j : Nat) (c : Con) (L : List AObj) : List AObj :=
  match L[id]? with
  | some (.own segs e0) => (match segs[j]? with
    | some .emp => bif c.n.beq 0 then L.set id (.own (segs.set j (.s (.ro c))) e0) else L
    | _ => L)
  | _ => L

def nilCells : List (Nat × Nat × Bool × Con × TypeId) → List AObj → List AObj
  | [], L => L
  | (id, j, ro, c, e) :: ns, L => nilCells ns (bif ro then roCell id j c L else nilCell id j c e L)

def roots (L : List AObj) (m : Nat) (tmps : List AV) : List Nat :=
  reach L 4000 ((List.range m).flatMap (fun i => objIds L[i]?) ++ tmps.flatMap (idsOf 20)) (List.range m)

def compact (m : Nat) (tmps : List AV) (L : List AObj) : Option (List AV × List AObj) :=
  let σ := roots L m tmps
  bif nodupB σ && fixB m σ then
    match viewH σ L, allM (rn (idx σ) 20) tmps with
    | some L', some tmps' => some (tmps', L')
    | _, _ => none
  else none

def Norm.run (N : Norm) (c : Cfg) : Option Cfg :=
  match compact N.m (keepOnly N.keep 0 c.tmps) c.H with
  | some (t1, L1) =>
    let p := nilSlots N.nils t1 L1
    (match compact N.m p.1 (nilCells N.cells p.2) with
    | some (t2, L2) => some ⟨t2, L2, c.todo, c.stk⟩
    | none => none)
  | none => none

theorem segs_nil : ∀ (segs : List AV) (j : Nat) {cells : List Value}, segs[j]? = some .emp → DenSegs ρ H O w segs cells →
    ∃ r, ∀ (ρ' : Nat → Value) (H' : AHeap) (O' : Nat → Prop) (x : AV), (∀ a cs, DenC ρ H O w a cs → DenC ρ' H' O' w a cs) → DenC ρ' H' O' w x [.slice r 0 0] → DenSegs ρ' H' O' w (segs.set j x) cells
  | [], j, cells, h, hd => by simp at h
  | a :: azs, 0, cells, h, hd => by
    simp only [List.getElem?_cons_zero, Option.some.injEq] at h
    subst h
    obtain ⟨c1, c2, rfl, h1, h2⟩ := DenSegs_cons.1 hd
    unfold DenC at h1
    obtain ⟨u, rfl, r, rfl⟩ := h1
    refine ⟨r, fun ρ' H' O' x hs hx => ?_⟩
    simp only [List.set_cons_zero]
    refine DenSegs_cons.2 ⟨_, c2, rfl, hx, ?_⟩
    clear hd
    induction azs generalizing c2 with
    | nil => rw [DenSegs_nil.1 h2]; exact DenSegs_nil.2 rfl
    | cons b bs ih =>
      obtain ⟨d1, d2, rfl, h3, h4⟩ := DenSegs_cons.1 h2
      exact DenSegs_cons.2 ⟨d1, d2, rfl, hs _ _ h3, ih d2 h4⟩
  | a :: azs, j + 1, cells, h, hd => by
    obtain ⟨c1, c2, rfl, h1, h2⟩ := DenSegs_cons.1 hd
    obtain ⟨r, h3⟩ := segs_nil azs j (by simpa using h) h2
    refine ⟨r, fun ρ' H' O' x hs hx => ?_⟩
    simp only [List.set_cons_succ]
    exact DenSegs_cons.2 ⟨c1, c2, rfl, hs _ _ h1, h3 ρ' H' O' x hs hx⟩

theorem Rep.nilCell {id j : Nat} {c : Con} {e : TypeId} {tmps : List AV} {L : List AObj} (h : Rep X ρ ⟨tmps, L⟩ a w) : ∃ ρ', Rep X ρ' ⟨tmps, nilCell id j c e L⟩ a w := by
  unfold Sx.nilCell
  split
  · rename_i segs e0 hid
    split
    · rename_i hj
      rw [Bool.cond_eq_ite]
      split
      · rename_i hc
        have hc : c.n = 0 := Nat.eq_of_beq_eq_true hc
        have hs : Sat ρ (fun i => L[i]?) X.G w := h.sat
        obtain ⟨b, cells, fr, h0, h1, h2, h3⟩ := hs.obj id _ hid
        obtain ⟨r, hset⟩ := segs_nil segs j hj h3
        have hbk : blk (.slice r 0 0) = none := by cases r <;> simp [blk]
        have hlt : id < L.length := (List.getElem?_eq_some_iff.1 hid).1
        let ρ' : Nat → Value := fun k => if k = L.length then .slice r 0 0 else ρ k
        let L' := L.set id (.own (segs.set j (.vec L.length)) e0) ++ [AObj.vec c e]
        have old : ∀ {k : Nat} {o : AObj}, L'[k]? = some o → (k = L.length ∧ o = .vec c e) ∨ (k = id ∧ k ≠ L.length ∧ o = .own (segs.set j (.vec L.length)) e0) ∨ (k ≠ L.length ∧ k ≠ id ∧ L[k]? = some o) := by
          intro k o ho
          have h2 := (List.getElem?_eq_some_iff.1 ho).1
          simp only [L', List.length_append, List.length_set, List.length_cons, List.length_nil] at h2
          by_cases hk : k = L.length
          · subst hk
            simp only [L'] at ho
            rw [List.getElem?_append_right (by simp)] at ho
            simp at ho
            exact .inl ⟨rfl, ho.symm⟩
          · simp only [L'] at ho
            rw [List.getElem?_append_left (by simp; omega), List.getElem?_set] at ho
            split at ho
            · rename_i hki
              exact .inr (.inl ⟨hki.symm, hk, by simpa using ho.symm⟩)
            · rename_i hki
              exact .inr (.inr ⟨hk, Ne.symm hki, ho⟩)
        have new : ∀ {k : Nat} {o : AObj}, L[k]? = some o → ∃ o', L'[k]? = some o' ∧ (∀ c' e', o' = .vec c' e' → o = .vec c' e') := by
          intro k o ho
          have hk : k < L.length := (List.getElem?_eq_some_iff.1 ho).1
          by_cases hki : k = id
          · subst hki
            refine ⟨.own (segs.set j (.vec L.length)) e0, ?_, fun c' e' hc => by cases hc⟩
            simp only [L']
            rw [List.getElem?_append_left (by simpa using hk), List.getElem?_set_self hk]
          · refine ⟨o, ?_, fun c' e' hc => hc⟩
            simp only [L']
            rw [List.getElem?_append_left (by simpa using hk), List.getElem?_set_ne (Ne.symm hki)]
            exact ho
        have hown : ∀ b, Own ρ' (fun i => L'[i]?) b → Own ρ (fun i => L[i]?) b := by
          rintro b ⟨k, o, ho, ha, hb⟩
          rcases old ho with ⟨h1, h2⟩ | ⟨h1, h2, h3⟩ | ⟨h1, h2, h3⟩
          · simp only [ρ', h1, if_true] at hb
            rw [hbk] at hb; cases hb
          · simp only [ρ', h2, if_false] at hb
            exact ⟨id, _, hid, rfl, h1 ▸ hb⟩
          · simp only [ρ', h1, if_false] at hb
            exact ⟨k, o, h3, ha, hb⟩
        have st : Step ρ (fun i => L[i]?) (Hot ρ (fun i => L[i]?) X.G) w ρ' (fun i => L'[i]?) (Hot ρ' (fun i => L'[i]?) X.G) w := by
          refine ⟨fun k o ho => ?_, fun k o ho => ?_, fun b hb => .inl ?_, fun _ _ _ => rfl, Nat.le_refl _⟩
          · have hk : k < L.length := (List.getElem?_eq_some_iff.1 ho).1
            simp only [ρ']; rw [if_neg (by omega)]
          · obtain ⟨o', h4, h5⟩ := new ho
            exact ⟨o', h4, fun c' e' hc => ⟨c', e', h5 c' e' hc, rfl, rfl⟩⟩
          · rcases hb with hb | hb
            · exact .inl (hown b hb)
            · exact .inr hb
        have hnew : Den1 ρ' (fun i => L'[i]?) (Hot ρ' (fun i => L'[i]?) X.G) w (.vec L.length) (.slice r 0 0) := by
          unfold Den1
          refine ⟨rfl, .vec c e, ?_, fun c' e' _ => (if_pos rfl).symm⟩
          simp only [L']
          rw [List.getElem?_append_right (by simp)]
          simp
        refine ⟨ρ', ⟨⟨fun k o ho => ?_, fun i l oi ol b hi hl ai al bi bl => ?_, fun b hb => hs.apart b (hown b hb), hs.low⟩, h.size, fun u => DenV.step st _ _ (h.den u), h.defers, h.from_.trans st, h.frm, h.kept⟩⟩
        · rcases old ho with ⟨g1, g2⟩ | ⟨g1, g2, g3⟩ | ⟨g1, g2, g3⟩
          · subst g2
            simp only [ρ', g1, if_true]
            exact ⟨r, 0, by rw [hc], by omega, Nat.zero_le _, .inl rfl⟩
          · subst g3
            simp only [ρ', g2, if_false]
            rw [g1, h0]
            exact ⟨b, cells, fr, rfl, h1, h2, hset ρ' _ _ _ (fun a cs hd => DenC.step st a cs hd) (by unfold DenC; exact ⟨_, rfl, hnew⟩)⟩
          · simp only [ρ', g1, if_false]
            exact (hs.obj k o g3).step st (fun _ _ _ => rfl)
        · have low : ∀ {k : Nat} {o : AObj}, L'[k]? = some o → o.alive = true → blk (ρ' k) = some b → ∃ o2, L[k]? = some o2 ∧ o2.alive = true ∧ blk (ρ k) = some b := by
            intro k o ho ha hb
            rcases old ho with ⟨g1, g2⟩ | ⟨g1, g2, g3⟩ | ⟨g1, g2, g3⟩
            · simp only [ρ', g1, if_true] at hb
              rw [hbk] at hb; cases hb
            · simp only [ρ', g2, if_false] at hb
              exact ⟨_, g1 ▸ hid, rfl, hb⟩
            · simp only [ρ', g1, if_false] at hb
              exact ⟨o, g3, ha, hb⟩
          obtain ⟨o1, q1, q2, q3⟩ := low hi ai bi
          obtain ⟨o2, q4, q5, q6⟩ := low hl al bl
          exact hs.inj i l o1 o2 b q1 q4 q2 q5 q3 q6
      · exact ⟨ρ, h⟩
    · exact ⟨ρ, h⟩
  · exact ⟨ρ, h⟩

theorem emp_ro' {c : Con} (hc : c.n = 0) (r : Option Addr) : DenS O w (.ro c) (.slice r 0 0) := by
  have := DenS.ro (O := O) (w := w) c r 0 (fun _ _ => undef) 0 0 (by omega) (Nat.zero_le _) (fun h => by omega) (fun i j hi hj => by omega) (fun i j hi hj => by omega)
  rwa [hc] at this

theorem Rep.roCell {id j : Nat} {c : Con} {tmps : List AV} {L : List AObj} (h : Rep X ρ ⟨tmps, L⟩ a w) : Rep X ρ ⟨tmps, roCell id j c L⟩ a w := by
  unfold Sx.roCell
  split
  · rename_i segs e0 hid
    split
    · rename_i hj
      rw [Bool.cond_eq_ite]
      split
      · rename_i hc
        have hc : c.n = 0 := Nat.eq_of_beq_eq_true hc
        have hs : Sat ρ (fun i => L[i]?) X.G w := h.sat
        obtain ⟨b, cells, fr, h0, h1, h2, h3⟩ := hs.obj id _ hid
        obtain ⟨r, hset⟩ := segs_nil segs j hj h3
        have hlt : id < L.length := (List.getElem?_eq_some_iff.1 hid).1
        let L' := L.set id (.own (segs.set j (.s (.ro c))) e0)
        have old : ∀ {k : Nat} {o : AObj}, L'[k]? = some o → (k = id ∧ o = .own (segs.set j (.s (.ro c))) e0) ∨ (k ≠ id ∧ L[k]? = some o) := by
          intro k o ho
          simp only [L'] at ho
          rw [List.getElem?_set] at ho
          split at ho
          · rename_i hki
            exact .inl ⟨hki.symm, by simpa using ho.symm⟩
          · rename_i hki
            exact .inr ⟨Ne.symm hki, ho⟩
        have hown : ∀ b, Own ρ (fun i => L'[i]?) b → Own ρ (fun i => L[i]?) b := by
          rintro b ⟨k, o, ho, ha, hb⟩
          rcases old ho with ⟨h1, h2⟩ | ⟨h1, h2⟩
          · exact ⟨id, _, hid, rfl, h1 ▸ hb⟩
          · exact ⟨k, o, h2, ha, hb⟩
        have st : Step ρ (fun i => L[i]?) (Hot ρ (fun i => L[i]?) X.G) w ρ (fun i => L'[i]?) (Hot ρ (fun i => L'[i]?) X.G) w := by
          refine ⟨fun _ _ _ => rfl, fun k o ho => ?_, fun b hb => .inl ?_, fun _ _ _ => rfl, Nat.le_refl _⟩
          · by_cases hk : k = id
            · subst hk
              refine ⟨.own (segs.set j (.s (.ro c))) e0, ?_, fun c' e' hc => ?_⟩
              · show (L.set k _)[k]? = _
                rw [List.getElem?_set_self hlt]
              · cases hc
            · refine ⟨o, ?_, fun c' e' hc => ⟨c', e', hc, rfl, rfl⟩⟩
              show (L.set id _)[k]? = _
              rw [List.getElem?_set_ne (Ne.symm hk)]
              exact ho
          · rcases hb with hb | hb
            · exact .inl (hown b hb)
            · exact .inr hb
        refine ⟨⟨fun k o ho => ?_, fun i l oi ol b hi hl ai al bi bl => ?_, fun b hb => hs.apart b (hown b hb), hs.low⟩, h.size, fun u => DenV.step st _ _ (h.den u), h.defers, h.from_.trans st, h.frm, h.kept⟩
        · rcases old ho with ⟨g1, g2⟩ | ⟨g1, g2⟩
          · subst g2
            rw [g1, h0]
            exact ⟨b, cells, fr, rfl, h1, h2, hset ρ _ _ _ (fun a cs hd => DenC.step st a cs hd) (by unfold DenC; exact ⟨_, rfl, emp_ro' hc r⟩)⟩
          · exact (hs.obj k o g2).step st (fun _ _ _ => rfl)
        · have low : ∀ {k : Nat} {o : AObj}, L'[k]? = some o → o.alive = true → ∃ o2, L[k]? = some o2 ∧ o2.alive = true := by
            intro k o ho ha
            rcases old ho with ⟨g1, g2⟩ | ⟨g1, g2⟩
            · exact ⟨_, g1 ▸ hid, rfl⟩
            · exact ⟨o, g2, ha⟩
          obtain ⟨o1, q1, q2⟩ := low hi ai
          obtain ⟨o2, q4, q5⟩ := low hl al
          exact hs.inj i l o1 o2 b q1 q4 q2 q5 bi bl
      · exact h
    · exact h
  · exact h

theorem Rep.nilCells : ∀ (ns : List (Nat × Nat × Bool × Con × TypeId)) {ρ : Nat → Value} {tmps : List AV} {L : List AObj}, Rep X ρ ⟨tmps, L⟩ a w → ∃ ρ', Rep X ρ' ⟨tmps, nilCells ns L⟩ a w
  | [], ρ, tmps, L, h => ⟨ρ, h⟩
  | (id, j, ro, c, e) :: ns, ρ, tmps, L, h => by
    cases ro
    · obtain ⟨ρ', h'⟩ := h.nilCell (c := c) (e := e) (id := id) (j := j)
      exact Rep.nilCells ns h'
    · exact Rep.nilCells ns (h.roCell (c := c) (id := id) (j := j))

theorem Rep.nilSlots : ∀ (ns : List (Nat × Con × TypeId)) {ρ : Nat → Value} {tmps : List AV} {L : List AObj}, Rep X ρ ⟨tmps, L⟩ a w → ∃ ρ', Rep X ρ' ⟨(nilSlots ns tmps L).1, (nilSlots ns tmps L).2⟩ a w
  | [], ρ, tmps, L, h => ⟨ρ, h⟩
  | (t, c, e) :: ns, ρ, tmps, L, h => by
    obtain ⟨ρ', h'⟩ := h.nilSlot (c := c) (e := e) (t := t)
    exact Rep.nilSlots ns h'

theorem fixB_spec {m : Nat} {σ : List Nat} (h : fixB m σ = true) : ∀ i, i < m → σ[i]? = some i := by
  intro i hi
  simp only [fixB, List.all_eq_true, List.mem_range] at h
  have := h i hi
  split at this
  · rename_i j hj
    rw [hj, Nat.eq_of_beq_eq_true this]
  · cases this

theorem Rep.compact {m : Nat} {tmps t1 : List AV} {L L1 : List AObj} (h0 : ∀ id, m ≤ id → X.H id = none) (h : compact m tmps L = some (t1, L1)) (hr : Rep X ρ ⟨tmps, L⟩ a w) : ∃ ρ', Rep X ρ' ⟨t1, L1⟩ a w := by
  unfold Sx.compact at h
  simp only [Bool.cond_eq_ite] at h
  split at h
  · rename_i hb
    simp only [Bool.and_eq_true] at hb
    split at h
    · rename_i L' tmps' hL ht
      simp only [Option.some.injEq, Prod.mk.injEq] at h
      obtain ⟨rfl, rfl⟩ := h
      exact ⟨_, hr.view (nodupB_spec hb.1) hL (fixB_spec hb.2) h0 ht⟩
    · cases h
  · cases h

theorem Norm.safe {N : Norm} {f : FuncId} {c c' : Cfg} (h0 : ∀ id, N.m ≤ id → X.H id = none) (h : N.run c = some c') (hs : Safe P f X K c') : Safe P f X K c := by
  intro G E ρ a w hG1 hG2 hr b a' fs hw
  unfold Norm.run at h
  split at h
  · rename_i t1 L1 h1
    simp only [] at h
    split at h
    · rename_i t2 L2 h2
      simp only [Option.some.injEq] at h
      subst h
      obtain ⟨ρ1, r1⟩ := Rep.compact (X := X.at G E) h0 h1 (Rep.keepOnly N.keep hr)
      obtain ⟨ρ2, r2⟩ := Rep.nilSlots N.nils r1
      obtain ⟨ρ3, r3⟩ := Rep.nilCells N.cells r2
      obtain ⟨ρ4, r4⟩ := Rep.compact (X := X.at G E) h0 h2 r3
      exact hs G E _ a w hG1 hG2 r4 b a' fs hw
    · cases h
  · cases h
end
end Go.Sx

/-! Typed contracts: a function of plain values, told in plain Lean. -/
namespace Go.Sx
open Go

/-- A row's kind. -/
inductive RK where
  | ints (k : IntKind)
  | strs
  | bools
  | typ (cs : List CK)

abbrev RK.E : RK → Type
  | .ints _ => Int
  | .strs => ByteArray
  | .bools => Bool
  | .typ cs => CL cs

abbrev RK.V (r : RK) : Type := List r.E

def RK.con : (r : RK) → r.V → Con
  | .ints k, x => .ints k x
  | .strs, x => .strs x
  | .bools, x => .bools x
  | .typ cs, x => .typ cs x

def rdInts (k : IntKind) : Con → Option (List Int)
  | .ints k' zs => bif kindEq k' k then some zs else none
  | .recs _ 0 _ => some []
  | _ => none
def rdStrs : Con → Option (List ByteArray)
  | .strs x => some x
  | .recs _ 0 _ => some []
  | _ => none
def rdBools : Con → Option (List Bool)
  | .bools x => some x
  | .recs _ 0 _ => some []
  | _ => none
def rdTyp (cs : List CK) : Con → Option (List (CL cs))
  | .typ cs' x => (CL.eq cs' cs).map fun h => castL h x
  | .recs _ 0 _ => some []
  | _ => none

def RK.rd : (r : RK) → Con → Option r.V
  | .ints k, c => rdInts k c
  | .strs, c => rdStrs c
  | .bools, c => rdBools c
  | .typ cs, c => rdTyp cs c

def CK.flat : CK → Bool
  | .int _ | .bool | .str | .arr _ _ => true
  | _ => false

def RK.flat : RK → Bool
  | .typ cs => cs.all CK.flat
  | _ => true

/-- A value of one part. -/
inductive B where
  | int (k : IntKind)
  | bool
  | str
  | row (r : RK) (e : TypeId)
  | arr (k : IntKind) (n : Nat)
  | fn
  | rrow (r : RK) (e : TypeId)

abbrev B.V : B → Type
  | .int _ => Int
  | .bool => Bool
  | .str => ByteArray
  | .row r _ => r.V
  | .arr _ _ => List Int
  | .fn => FuncId
  | .rrow r _ => r.V

def B.av : (b : B) → b.V → AV
  | .int k, n => .s (.int k n)
  | .bool, x => .s (.bool x)
  | .str, x => .s (.str x)
  | .row r _, x => .s (.ro (r.con x))
  | .arr k n, x => .ints k n x
  | .fn, f => .s (.fn0 f)
  | .rrow r _, x => .s (.ro (r.con x))

def numsAV (k : IntKind) : List AV → Option (List Int)
  | [] => some []
  | .s (.int k' n) :: azs => bif kindEq k' k then (numsAV k azs).map (n :: ·) else none
  | _ => none

def avInt (k : IntKind) : AV → Option Int
  | .s (.int k' n) => bif kindEq k' k then some n else none
  | _ => none
def avBool : AV → Option Bool
  | .s (.bool x) => some x
  | _ => none
def avStr : AV → Option ByteArray
  | .s (.str x) => some x
  | _ => none
def avRow (r : RK) : AV → Option r.V
  | .emp => some []
  | .s (.ro c) => r.rd c
  | _ => none
def avArr (k : IntKind) (n : Nat) : AV → Option (List Int)
  | .ints k' n' ws => bif kindEq k' k && n'.beq n then some ws else none
  | .agg segs => bif segs.length.beq n then numsAV k segs else none
  | _ => none

def avFn : AV → Option FuncId
  | .s (.fn0 f) => some f
  | _ => none

def B.rd : (b : B) → AV → Option b.V
  | .int k, a => avInt k a
  | .bool, a => avBool a
  | .str, a => avStr a
  | .row r _, a => avRow r a
  | .arr k n, a => avArr k n a
  | .fn, a => avFn a
  | .rrow r _, a => avRow r a

/-- What is known of a value of that type, by its type alone. -/
def B.ok : (b : B) → b.V → Prop
  | .row _ _, x => x.length ≤ maxLen
  | .rrow _ _, x => x.length ≤ maxLen
  | .arr _ n, x => List.length (α := Int) x = n
  | _, _ => True

/-- A value: one part, or a struct's. -/
inductive Ty where
  | b (x : B)
  | st (bs : List B)

abbrev BL : List B → Type
  | [] => Unit
  | b :: bs => b.V × BL bs

abbrev Ty.V : Ty → Type
  | .b x => x.V
  | .st bs => BL bs

abbrev AL : List Ty → Type
  | [] => Unit
  | t :: ts => t.V × AL ts

def BL.av : (bs : List B) → BL bs → List AV
  | [], _ => []
  | b :: bs, (x, y) => b.av x :: BL.av bs y

def BL.rd : (bs : List B) → List AV → Option (BL bs)
  | [], [] => some ()
  | b :: bs, a :: azs => match b.rd a, BL.rd bs azs with
    | some x, some y => some (x, y)
    | _, _ => none
  | _, _ => none

def BL.ok : (bs : List B) → BL bs → Prop
  | [], _ => True
  | b :: bs, (x, y) => b.ok x ∧ BL.ok bs y

def Ty.av : (t : Ty) → t.V → AV
  | .b x, v => x.av v
  | .st bs, v => .agg (BL.av bs v)

def avSt (bs : List B) : AV → Option (BL bs)
  | .agg segs => BL.rd bs segs
  | _ => none

def Ty.rd : (t : Ty) → AV → Option t.V
  | .b x, a => x.rd a
  | .st bs, a => avSt bs a

def Ty.ok : (t : Ty) → t.V → Prop
  | .b x, v => x.ok v
  | .st bs, v => BL.ok bs v

def AL.av : (ts : List Ty) → AL ts → List AV
  | [], _ => []
  | t :: ts, (x, y) => t.av x :: AL.av ts y

def AL.rd : (ts : List Ty) → List AV → Option (AL ts)
  | [], [] => some ()
  | t :: ts, a :: azs => match t.rd a, AL.rd ts azs with
    | some x, some y => some (x, y)
    | _, _ => none
  | _, _ => none

def AL.ok : (ts : List Ty) → AL ts → Prop
  | [], _ => True
  | t :: ts, (x, y) => t.ok x ∧ AL.ok ts y

section
variable {g : Nat → Option Nat} {ρ ρ' : Nat → Value} {H H' : AHeap} {G O O' : Nat → Prop} {w w' : World} {P : Program} {S : SummB} {Z : Glob} {X : Ctx} {s : St} {a : Act} {K : List AObj → AV → Prop} {C : Cfg → Prop}

theorem den_ro_congr {c c' : Con} {v : Value} (hn : c'.n = c.n) (hs : c'.size = c.size) (hc : ∀ i j, i < c.n → j < c.size → c'.cell i j = c.cell i j) (h : DenS O w (.ro c) v) : DenS O w (.ro c') v := by
  cases h with
  | ro _ a cap us b o h1 h2 h3 h4 h5 =>
    rw [← hn]
    refine .ro c' a cap us b o (by omega) h2 (fun h => h3 (by omega)) (fun i j hi hj => ?_) (fun i j hi hj => ?_)
    · rw [hs]; exact h4 i j (by omega) (by omega)
    · rw [hc i j (by omega) (by omega)]; exact h5 i j (by omega) (by omega)

theorem RK.rd_ok {r : RK} {c : Con} {x : r.V} (h : r.rd c = some x) {v : Value} (hd : DenS O w (.ro c) v) : DenS O w (.ro (r.con x)) v := by
  cases r
  case ints k =>
    change rdInts k c = some x at h
    unfold rdInts at h
    split at h
    · rw [Bool.cond_eq_ite] at h
      split at h
      · rename_i hk
        obtain rfl := kindEq_eq hk
        simp only [Option.some.injEq] at h
        subst h
        exact hd
      · cases h
    · cases h; exact den_ro_nil (by rfl) (by rfl) hd
    · cases h
  case typ cs =>
    change rdTyp cs c = some x at h
    unfold rdTyp at h
    split at h
    · obtain ⟨⟨e⟩, _, h2⟩ := Option.map_eq_some_iff.1 h
      subst e
      rw [castL_rfl] at h2
      subst h2
      exact hd
    · cases h; exact den_ro_nil (by rfl) (by rfl) hd
    · cases h
  case strs => change rdStrs c = some x at h; unfold rdStrs at h; split at h <;> cases h; exact hd; exact den_ro_nil (by rfl) (by rfl) hd
  case bools => change rdBools c = some x at h; unfold rdBools at h; split at h <;> cases h; exact hd; exact den_ro_nil (by rfl) (by rfl) hd

theorem emp_row {r : RK} {v : Value} (h : ∃ a, v = .slice a 0 0) : DenS O w (.ro (r.con [])) v := by
  obtain ⟨a, rfl⟩ := h
  have hn : (r.con []).n = 0 := by cases r <;> rfl
  have := DenS.ro (O := O) (w := w) (r.con []) a 0 (fun _ _ => undef) 0 0 (by omega) (Nat.zero_le _) (fun h => by omega) (fun i j hi hj => by omega) (fun i j hi hj => by omega)
  rwa [hn] at this

theorem numsAV_ok {k : IntKind} : ∀ {azs : List AV} {zs : List Int} {cs : List Value}, numsAV k azs = some zs → DenSegs ρ H O w azs cs → zs.length = azs.length ∧ cs = zs.map (Value.int k)
  | [], zs, cs, h, hd => by simp only [numsAV, Option.some.injEq] at h; subst h; exact ⟨rfl, DenSegs_nil.1 hd⟩
  | a :: azs, zs, cs, h, hd => by
    unfold numsAV at h
    split at h
    · rename_i heq; cases heq
    · rename_i k' n azs' heq
      simp only [List.cons.injEq] at heq
      obtain ⟨rfl, rfl⟩ := heq
      rw [Bool.cond_eq_ite] at h
      split at h
      · rename_i hk
        obtain rfl := kindEq_eq hk
        simp only [Option.map_eq_some_iff] at h
        obtain ⟨zs', h1, rfl⟩ := h
        obtain ⟨c1, c2, rfl, h2, h3⟩ := DenSegs_cons.1 hd
        obtain ⟨h4, rfl⟩ := numsAV_ok h1 h3
        unfold DenC at h2
        obtain ⟨u, rfl, h5⟩ := h2
        cases h5
        exact ⟨by simp [h4], rfl⟩
      · cases h
    · cases h

theorem avInt_eq {k : IntKind} {a : AV} {n : Int} (h : avInt k a = some n) : a = .s (.int k n) := by
  unfold avInt at h
  split at h
  · rw [Bool.cond_eq_ite] at h
    split at h
    · rename_i hk
      obtain rfl := kindEq_eq hk
      cases h; rfl
    · cases h
  · cases h
theorem avBool_eq {a : AV} {x : Bool} (h : avBool a = some x) : a = .s (.bool x) := by
  unfold avBool at h
  split at h <;> cases h
  rfl
theorem avStr_eq {a : AV} {x : ByteArray} (h : avStr a = some x) : a = .s (.str x) := by
  unfold avStr at h
  split at h <;> cases h
  rfl

theorem avFn_eq {a : AV} {x : FuncId} (h : avFn a = some x) : a = .s (.fn0 x) := by
  unfold avFn at h
  split at h <;> cases h
  rfl

theorem avRow_V {r : RK} {a : AV} {x : r.V} {v : Value} (h : avRow r a = some x) (hd : DenV ρ H O w a v) : DenV ρ' H' O w (.s (.ro (r.con x))) v := by
  unfold avRow at h
  split at h
  · cases h
    unfold DenV at hd
    exact DenV_s (emp_row hd)
  · exact DenV_s (RK.rd_ok h (DenS_of_V (by simp) hd))
  · cases h

theorem avRow_C {r : RK} {a : AV} {x : r.V} {cs : List Value} (h : avRow r a = some x) (hd : DenC ρ H O w a cs) : DenC ρ' H' O w (.s (.ro (r.con x))) cs := by
  unfold avRow at h
  split at h
  · cases h
    unfold DenC at *
    obtain ⟨u, rfl, h1⟩ := hd
    exact ⟨u, rfl, emp_row h1⟩
  · unfold DenC at *
    obtain ⟨u, rfl, h1⟩ := hd
    exact ⟨u, rfl, RK.rd_ok h h1⟩
  · cases h

theorem B.rdV {b : B} {a : AV} {x : b.V} {v : Value} (h : b.rd a = some x) (hd : DenV ρ H O w a v) : DenV ρ' H' O w (b.av x) v := by
  cases b with
  | int k => rw [avInt_eq h] at hd; exact DenV_s (DenS_of_V (by simp) hd)
  | bool => rw [avBool_eq h] at hd; exact DenV_s (DenS_of_V (by simp) hd)
  | str => rw [avStr_eq h] at hd; exact DenV_s (DenS_of_V (by simp) hd)
  | fn => rw [avFn_eq h] at hd; exact DenV_s (DenS_of_V (by simp) hd)
  | row r e => exact avRow_V h hd
  | rrow r e => exact avRow_V h hd
  | arr k n =>
    change avArr k n a = some x at h
    unfold avArr at h
    split at h
    · rw [Bool.cond_eq_ite] at h
      split at h
      · rename_i hk
        simp only [Bool.and_eq_true] at hk
        obtain rfl := kindEq_eq hk.1
        obtain rfl := Nat.eq_of_beq_eq_true hk.2
        cases h
        unfold DenV at *
        exact hd
      · cases h
    · rw [Bool.cond_eq_ite] at h
      split at h
      · rename_i segs hk
        unfold DenV at hd
        obtain ⟨cs, rfl, h2⟩ := hd
        obtain ⟨h3, rfl⟩ := numsAV_ok h h2
        show DenV ρ' H' O w (.ints k n x) _
        unfold DenV
        exact ⟨by rw [h3]; exact Nat.eq_of_beq_eq_true hk, rfl⟩
      · cases h
    · cases h

theorem B.rdC {b : B} {a : AV} {x : b.V} {cs : List Value} (h : b.rd a = some x) (hd : DenC ρ H O w a cs) : DenC ρ' H' O w (b.av x) cs := by
  cases b with
  | int k => rw [avInt_eq h] at hd; unfold DenC at hd; show DenC _ _ _ _ (.s (.int k x)) _; unfold DenC; exact hd
  | bool => rw [avBool_eq h] at hd; unfold DenC at hd; show DenC _ _ _ _ (.s (.bool x)) _; unfold DenC; exact hd
  | str => rw [avStr_eq h] at hd; unfold DenC at hd; show DenC _ _ _ _ (.s (.str x)) _; unfold DenC; exact hd
  | fn => rw [avFn_eq h] at hd; unfold DenC at hd; show DenC _ _ _ _ (.s (.fn0 x)) _; unfold DenC; exact hd
  | row r e => exact avRow_C h hd
  | rrow r e => exact avRow_C h hd
  | arr k n =>
    change avArr k n a = some x at h
    unfold avArr at h
    split at h
    · rw [Bool.cond_eq_ite] at h
      split at h
      · rename_i hk
        simp only [Bool.and_eq_true] at hk
        obtain rfl := kindEq_eq hk.1
        obtain rfl := Nat.eq_of_beq_eq_true hk.2
        cases h
        show DenC _ _ _ _ (.ints _ _ _) _
        unfold DenC at *
        exact hd
      · cases h
    · unfold DenC at hd; exact hd.elim
    · cases h

theorem BL.rd_ok : ∀ {bs : List B} {segs : List AV} {x : BL bs} {cs : List Value}, BL.rd bs segs = some x → DenSegs ρ H O w segs cs → DenSegs ρ' H' O w (BL.av bs x) cs
  | [], [], x, cs, h, hd => by rw [DenSegs_nil.1 hd]; exact DenSegs_nil.2 rfl
  | [], a :: azs, x, cs, h, hd => by simp [BL.rd] at h
  | b :: bs, [], x, cs, h, hd => by simp [BL.rd] at h
  | b :: bs, a :: azs, x, cs, h, hd => by
    unfold BL.rd at h
    split at h
    · rename_i y z h1 h2
      cases h
      obtain ⟨c1, c2, rfl, h3, h4⟩ := DenSegs_cons.1 hd
      exact DenSegs_cons.2 ⟨c1, c2, rfl, B.rdC h1 h3, BL.rd_ok h2 h4⟩
    · cases h

theorem Ty.rd_ok {t : Ty} {a : AV} {x : t.V} {v : Value} (h : t.rd a = some x) (hd : DenV ρ H O w a v) : DenV ρ' H' O w (t.av x) v := by
  cases t with
  | b y => exact B.rdV h hd
  | st bs =>
    change avSt bs a = some x at h
    unfold avSt at h
    split at h
    · show DenV _ _ _ _ (.agg _) _
      unfold DenV at *
      obtain ⟨cs, h1, h2⟩ := hd
      exact ⟨cs, h1, BL.rd_ok h h2⟩
    · cases h

theorem AL.rd_ok : ∀ {ts : List Ty} {azs : List AV} {x : AL ts} {vs : List Value}, AL.rd ts azs = some x → DenL ρ H O w azs vs → DenL ρ' H' O w (AL.av ts x) vs
  | [], [], x, vs, h, hd => by rw [DenL_nil.1 hd]; exact DenL_nil.2 rfl
  | [], a :: azs, x, vs, h, hd => by simp [AL.rd] at h
  | t :: ts, [], x, vs, h, hd => by simp [AL.rd] at h
  | t :: ts, a :: azs, x, vs, h, hd => by
    unfold AL.rd at h
    split at h
    · rename_i y z h1 h2
      cases h
      obtain ⟨v, rest, rfl, h3, h4⟩ := DenL_cons.1 hd
      exact DenL_cons.2 ⟨v, rest, rfl, Ty.rd_ok h1 h3, AL.rd_ok h2 h4⟩
    · cases h

theorem row_len {r : RK} {x : r.V} {v : Value} (h : DenS O w (.ro (r.con x)) v) : List.length x ≤ maxLen := by
  generalize hc : r.con x = c at h
  cases h with
  | ro _ a cap us bb o h1 h2 _ _ _ =>
    have : (r.con x).n = x.length := by cases r <;> rfl
    rw [← hc] at h1
    omega

theorem B.okV {b : B} {x : b.V} {v : Value} (hd : DenV ρ H O w (b.av x) v) : b.ok x := by
  cases b with
  | row r e => exact row_len (DenS_of_V (by simp) hd)
  | rrow r e => exact row_len (DenS_of_V (by simp) hd)
  | arr k n => change DenV ρ H O w (.ints k n x) v at hd; unfold DenV at hd; exact hd.1
  | _ => trivial

theorem B.okC {b : B} {x : b.V} {cs : List Value} (hd : DenC ρ H O w (b.av x) cs) : b.ok x := by
  cases b with
  | row r e =>
    change DenC ρ H O w (.s (.ro (r.con x))) cs at hd
    unfold DenC at hd
    obtain ⟨u, _, h⟩ := hd
    exact row_len h
  | rrow r e =>
    change DenC ρ H O w (.s (.ro (r.con x))) cs at hd
    unfold DenC at hd
    obtain ⟨u, _, h⟩ := hd
    exact row_len h
  | arr k n => change DenC ρ H O w (.ints k n x) cs at hd; unfold DenC at hd; exact hd.1
  | _ => trivial

theorem BL.okS : ∀ {bs : List B} {x : BL bs} {cs : List Value}, DenSegs ρ H O w (BL.av bs x) cs → BL.ok bs x
  | [], x, cs, h => trivial
  | b :: bs, (x, y), cs, h => by
    obtain ⟨c1, c2, rfl, h3, h4⟩ := DenSegs_cons.1 h
    exact ⟨B.okC h3, BL.okS h4⟩

theorem Ty.okV {t : Ty} {x : t.V} {v : Value} (hd : DenV ρ H O w (t.av x) v) : t.ok x := by
  cases t with
  | b y => exact B.okV hd
  | st bs =>
    change DenV ρ H O w (.agg (BL.av bs x)) v at hd
    unfold DenV at hd
    obtain ⟨cs, _, h⟩ := hd
    exact BL.okS h

theorem AL.okL : ∀ {ts : List Ty} {x : AL ts} {vs : List Value}, DenL ρ H O w (AL.av ts x) vs → AL.ok ts x
  | [], x, vs, h => trivial
  | t :: ts, (x, y), vs, h => by
    obtain ⟨v, rest, rfl, h3, h4⟩ := DenL_cons.1 h
    exact ⟨Ty.okV h3, AL.okL h4⟩
end
end Go.Sx

/-! What a call hands back, made alike. -/
namespace Go.Sx
open Go

def nil1 (ces : List (Bool × Con × TypeId)) (L : List AObj) (a : AV) : AV × List AObj × List (Bool × Con × TypeId) :=
  match a with
  | .emp => match ces with
    | (ro, c, e) :: r => bif c.n.beq 0 then (bif ro then (.s (.ro c), L, r) else (.vec L.length, L ++ [.vec c e], r)) else (.emp, L, r)
    | [] => (.emp, L, [])
  | .vec id => match ces with
    | (true, _, _) :: r => (match L[id]? with
      | some (.vec c _) => (.s (.ro c), L.set id .dead, r)
      | _ => (.vec id, L, r))
    | _ => (.vec id, L, ces.tail)
  | .s (.ro c) => (.s (.ro c), L, ces.tail)
  | .part id lo n => (match L[id]? with
      | some (.vec c e) => (.vec L.length, L.set id .dead ++ [.vec (conSub c lo (lo + n)) e], ces.tail)
      | _ => (.part id lo n, L, ces.tail))
  | a => (a, L, ces)

def nilL (f : List (Bool × Con × TypeId) → List AObj → AV → AV × List AObj × List (Bool × Con × TypeId)) : List (Bool × Con × TypeId) → List AObj → List AV → List AV × List AObj × List (Bool × Con × TypeId)
  | ces, L, [] => ([], L, ces)
  | ces, L, a :: azs => let p := f ces L a; let q := nilL f p.2.2 p.2.1 azs; (p.1 :: q.1, q.2.1, q.2.2)

def nilA (ces : List (Bool × Con × TypeId)) (L : List AObj) (a : AV) : AV × List AObj × List (Bool × Con × TypeId) :=
  match a with
  | .agg segs => let q := nilL nil1 ces L segs; (.agg q.1, q.2.1, q.2.2)
  | a => nil1 ces L a

def nilV (ces : List (Bool × Con × TypeId)) (L : List AObj) (a : AV) : AV × List AObj :=
  match a with
  | .tup vs => let q := nilL nilA ces L vs; (.tup q.1, q.2.1)
  | a => let q := nilA ces L a; (q.1, q.2.1)

def canR (ces : List (Bool × Con × TypeId)) (L : List AObj) (r : AV) : Option (List AObj × AV) :=
  let p := nilV ces L r
  let σ := reach p.2 4000 (idsOf 20 p.1) []
  bif nodupB σ then
    match viewH σ p.2, rn (idx σ) 20 p.1 with
    | some L', some r' => some (L', r')
    | _, _ => none
  else none

section
variable {g : Nat → Option Nat} {ρ ρ' : Nat → Value} {H H' : AHeap} {G O O' : Nat → Prop} {w w' : World} {P : Program} {S : SummB} {Z : Glob} {X : Ctx} {s : St} {a : Act} {K : List AObj → AV → Prop} {C : Cfg → Prop} {L : List AObj}

abbrev lk (L : List AObj) : AHeap := fun i => L[i]?
abbrev stp (ρ : Nat → Value) (L : List AObj) (G : Nat → Prop) (w : World) (ρ' : Nat → Value) (L' : List AObj) : Prop := Step ρ (lk L) (Hot ρ (lk L) G) w ρ' (lk L') (Hot ρ' (lk L') G) w

theorem ext1 (hs : Sat ρ (lk L) G w) {c : Con} (hc : c.n = 0) (e : TypeId) (r : Option Addr) : ∃ ρ', Sat ρ' (lk (L ++ [.vec c e])) G w ∧ stp ρ L G w ρ' (L ++ [.vec c e]) ∧ ∀ O, Den1 ρ' (lk (L ++ [.vec c e])) O w (.vec L.length) (.slice r 0 0) := by
  have hbk : blk (.slice r 0 0) = none := by cases r <;> simp [blk]
  let ρ' : Nat → Value := fun j => if j = L.length then .slice r 0 0 else ρ j
  have st : stp ρ L G w ρ' (L ++ [AObj.vec c e]) := Step.alloc hbk
  have old : ∀ {id : Nat} {o : AObj}, (L ++ [AObj.vec c e])[id]? = some o → (id = L.length ∧ o = .vec c e) ∨ (id ≠ L.length ∧ L[id]? = some o) := by
    intro id o ho
    have h2 := (List.getElem?_eq_some_iff.1 ho).1
    simp only [List.length_append, List.length_cons, List.length_nil] at h2
    by_cases hid : id = L.length
    · subst hid
      simp at ho
      exact .inl ⟨rfl, ho.symm⟩
    · refine .inr ⟨hid, ?_⟩
      rwa [List.getElem?_append_left (by omega)] at ho
  have hown : ∀ b, Own ρ' (lk (L ++ [AObj.vec c e])) b → Own ρ (lk L) b := by
    rintro b ⟨id, o, ho, ha, hb⟩
    rcases old ho with ⟨h1, h2⟩ | ⟨h1, h2⟩
    · simp only [ρ', h1, if_true] at hb
      rw [hbk] at hb; cases hb
    · simp only [ρ', h1, if_false] at hb
      exact ⟨id, o, h2, ha, hb⟩
  refine ⟨ρ', ⟨fun id o ho => ?_, fun i j oi oj b hi hj ai aj bi bj => ?_, fun b hb => hs.apart b (hown b hb), hs.low⟩, st, fun O => ?_⟩
  · rcases old ho with ⟨h1, h2⟩ | ⟨h1, h2⟩
    · subst h2
      simp only [ρ', h1, if_true]
      exact ⟨r, 0, by rw [hc], by omega, Nat.zero_le _, .inl rfl⟩
    · simp only [ρ', h1, if_false]
      exact (hs.obj id o h2).step st (fun _ _ _ => rfl)
  · rcases old hi with ⟨h1, h2⟩ | ⟨h1, h2⟩
    · simp only [ρ', h1, if_true] at bi
      rw [hbk] at bi; cases bi
    · rcases old hj with ⟨h3, h4⟩ | ⟨h3, h4⟩
      · simp only [ρ', h3, if_true] at bj
        rw [hbk] at bj; cases bj
      · simp only [ρ', h1, if_false] at bi
        simp only [ρ', h3, if_false] at bj
        exact hs.inj i j oi oj b h2 h4 ai aj bi bj
  · unfold Den1
    exact ⟨rfl, .vec c e, by simp [lk], fun c' e' _ => (if_pos rfl).symm⟩

theorem emp_ro {c : Con} (hc : c.n = 0) (r : Option Addr) : DenS O w (.ro c) (.slice r 0 0) := by
  have := DenS.ro (O := O) (w := w) c r 0 (fun _ _ => undef) 0 0 (by omega) (Nat.zero_le _) (fun h => by omega) (fun i j hi hj => by omega) (fun i j hi hj => by omega)
  rwa [hc] at this

/-- A row that is handed out stands still from then on. -/
theorem freeze1 (hs : Sat ρ (lk L) G w) {id : Nat} {c : Con} {e : TypeId} (hid : L[id]? = some (.vec c e)) :
    Sat ρ (lk (L.set id .dead)) G w ∧ stp ρ L G w ρ (L.set id .dead) ∧ DenS (Hot ρ (lk (L.set id .dead)) G) w (.ro c) (ρ id) := by
  have hlt : id < L.length := (List.getElem?_eq_some_iff.1 hid).1
  have old : ∀ {k : Nat} {o : AObj}, (L.set id .dead)[k]? = some o → (k = id ∧ o = .dead) ∨ (k ≠ id ∧ L[k]? = some o) := by
    intro k o ho
    rw [List.getElem?_set] at ho
    split at ho
    · rename_i hk
      first
        | exact .inl ⟨hk.symm, by simpa using ho.symm⟩
        | (rw [if_pos hlt] at ho; exact .inl ⟨hk.symm, by simpa using ho.symm⟩)
    · rename_i hk
      exact .inr ⟨Ne.symm hk, ho⟩
  have hown : ∀ b, Own ρ (lk (L.set id .dead)) b → Own ρ (lk L) b ∧ blk (ρ id) ≠ some b := by
    rintro b ⟨k, o, ho, ha, hb⟩
    rcases old ho with ⟨_, rfl⟩ | ⟨h1, h2⟩
    · cases ha
    · refine ⟨⟨k, o, h2, ha, hb⟩, fun hb2 => h1 (hs.inj k id o _ b h2 hid ha rfl hb hb2)⟩
  have st : stp ρ L G w ρ (L.set id .dead) := by
    refine ⟨fun _ _ _ => rfl, fun k o ho => ?_, fun b hb => .inl ?_, fun _ _ _ => rfl, Nat.le_refl _⟩
    · by_cases hk : k = id
      · subst hk
        exact ⟨.dead, by show (L.set k .dead)[k]? = _; rw [List.getElem?_set_self hlt], fun c' e' hc => by cases hc⟩
      · exact ⟨o, by show (L.set id .dead)[k]? = _; rw [List.getElem?_set_ne (Ne.symm hk)]; exact ho, fun c' e' hc => ⟨c', e', hc, rfl, rfl⟩⟩
    · rcases hb with hb | hb
      · exact .inl (hown b hb).1
      · exact .inr hb
  refine ⟨⟨fun k o ho => ?_, fun i j oi oj b hi hj ai aj bi bj => ?_, fun b hb => hs.apart b (hown b hb).1, hs.low⟩, st, ?_⟩
  · rcases old ho with ⟨_, rfl⟩ | ⟨h1, h2⟩
    · trivial
    · exact (hs.obj k o h2).step st (fun _ _ _ => rfl)
  · rcases old hi with ⟨_, rfl⟩ | ⟨h1, h2⟩
    · cases ai
    · rcases old hj with ⟨_, rfl⟩ | ⟨h3, h4⟩
      · cases aj
      · exact hs.inj i j oi oj b h2 h4 ai aj bi bj
  · obtain ⟨r, cap, h0, h1, h2, h3⟩ := hs.obj id _ hid
    rcases h3 with h3 | ⟨b, f, cells, fr, us, rfl, h5, h6, h7, h8⟩
    · rw [h0]
      have hc : c.n = 0 := by omega
      exact .ro c r cap (fun _ _ => undef) 0 0 h1 h2 (fun h => by omega) (fun i j hi hj => by omega) (fun i j hi hj => by omega)
    · by_cases hcap : cap = 0
      · rw [h0]
        exact .ro c _ cap (fun _ _ => undef) 0 0 h1 h2 (fun h => by omega) (fun i j hi hj => by omega) (fun i j hi hj => by omega)
      · have hbk : blk (ρ id) = some b := by rw [h0]; simp [blk, hcap]
        have hcold : ¬ Hot ρ (lk (L.set id .dead)) G b := by
          rintro (hb | hb)
          · exact (hown b hb).2 hbk
          · exact hs.apart b ⟨id, _, hid, rfl, hbk⟩ hb
        rw [h0]
        refine .ro c _ cap us b f h1 h2 (fun _ => ⟨rfl, hcold, (Array.getElem?_eq_some_iff.1 h5).1⟩) (fun i j hi hj => ?_) (fun i j hi hj => (h8 i j hi hj).2.less (fun b hb => ?_))
        · have := (h8 i j hi hj).1
          simp only [World.cell?, h5]
          simpa using this
        · rcases hb with hb | hb
          · exact .inl (hown b hb).1
          · exact .inr hb

/-- A part of an own row, alone from then on. -/
theorem retract (hs : Sat ρ (lk L) G w) {id lo n : Nat} {c : Con} {e : TypeId} {v : Value} (hid : L[id]? = some (.vec c e)) (hv : DenV ρ (lk L) (Hot ρ (lk L) G) w (.part id lo n) v) :
    ∃ ρ', Sat ρ' (lk (L.set id .dead ++ [.vec (conSub c lo (lo + n)) e])) G w ∧ stp ρ L G w ρ' (L.set id .dead ++ [.vec (conSub c lo (lo + n)) e]) ∧ ∀ O, Den1 ρ' (lk (L.set id .dead ++ [.vec (conSub c lo (lo + n)) e])) O w (.vec L.length) v := by
  obtain ⟨g0, a, cap, a', g1, g2, g3, rfl, g4, g5⟩ := part_val hs hid hv
  have hlt : id < L.length := (List.getElem?_eq_some_iff.1 hid).1
  generalize hx : AObj.vec (conSub c lo (lo + n)) e = x
  have hxa : x.alive = true := by rw [← hx]; rfl
  have old : ∀ {k : Nat} {o : AObj}, (L.set id .dead ++ [x])[k]? = some o → (k = L.length ∧ o = x) ∨ (k = id ∧ o = .dead) ∨ (k ≠ id ∧ k ≠ L.length ∧ L[k]? = some o) := by
    intro k o ho
    have h2 := (List.getElem?_eq_some_iff.1 ho).1
    simp only [List.length_append, List.length_set, List.length_cons, List.length_nil] at h2
    by_cases hk : k = L.length
    · subst hk
      rw [List.getElem?_append_right (by simp)] at ho
      simp at ho
      exact .inl ⟨rfl, ho.symm⟩
    · rw [List.getElem?_append_left (by simp; omega), List.getElem?_set] at ho
      split at ho
      · rename_i hk2
        first
          | exact .inr (.inl ⟨hk2.symm, by simpa using ho.symm⟩)
          | (rw [if_pos hlt] at ho; exact .inr (.inl ⟨hk2.symm, by simpa using ho.symm⟩))
      · rename_i hk2
        exact .inr (.inr ⟨Ne.symm hk2, hk, ho⟩)
  have new : ∀ {k : Nat} {o : AObj}, L[k]? = some o → k ≠ id → (L.set id .dead ++ [x])[k]? = some o := by
    intro k o ho hk
    have h1 := (List.getElem?_eq_some_iff.1 ho).1
    rw [List.getElem?_append_left (by simpa using h1), List.getElem?_set_ne (Ne.symm hk)]
    exact ho
  have newid : (L.set id .dead ++ [x])[id]? = some .dead := by
    rw [List.getElem?_append_left (by simpa using hlt), List.getElem?_set_self hlt]
  have newx : (L.set id .dead ++ [x])[L.length]? = some x := by
    rw [List.getElem?_append_right (by simp)]
    simp
  have hblk : ∀ b, blk (.slice a' n (cap - lo)) = some b → blk (ρ id) = some b := by
    intro b hb
    cases a' with
    | none => simp [blk] at hb
    | some y =>
      simp only [blk] at hb
      split at hb
      · cases hb
      · rename_i hne
        obtain ⟨b', o, rfl⟩ := g5 (by omega)
        have := g4 (by omega)
        simp only [Option.map_some, add_zero_spot, Option.some.injEq] at this hb
        subst this
        rw [g1]
        simp only [blk]
        rw [if_neg (by omega)]
        exact congrArg some hb
  let ρ' : Nat → Value := fun j => if j = L.length then .slice a' n (cap - lo) else ρ j
  have hown : ∀ b, Own ρ' (lk (L.set id .dead ++ [x])) b → Own ρ (lk L) b := by
    rintro b ⟨k, o, ho, ha, hb⟩
    rcases old ho with ⟨h1, h2⟩ | ⟨h1, h2⟩ | ⟨h1, h2, h3⟩
    · simp only [ρ', h1, if_true] at hb
      exact ⟨id, _, hid, rfl, hblk b hb⟩
    · subst h2; cases ha
    · simp only [ρ', h2, if_false] at hb
      exact ⟨k, o, h3, ha, hb⟩
  have st : stp ρ L G w ρ' (L.set id .dead ++ [x]) := by
    refine ⟨fun k o ho => ?_, fun k o ho => ?_, fun b hb => .inl ?_, fun _ _ _ => rfl, Nat.le_refl _⟩
    · have h1 : k < L.length := (List.getElem?_eq_some_iff.1 ho).1
      simp only [ρ']
      rw [if_neg (by omega)]
    · by_cases hk : k = id
      · subst hk
        exact ⟨.dead, newid, fun c' e' hc => by cases hc⟩
      · exact ⟨o, new ho hk, fun c' e' hc => ⟨c', e', hc, rfl, rfl⟩⟩
    · rcases hb with hb | hb
      · exact .inl (hown b hb)
      · exact .inr hb
  refine ⟨ρ', ⟨fun k o ho => ?_, fun i j oi oj b hi hj ai aj bi bj => ?_, fun b hb => hs.apart b (hown b hb), hs.low⟩, st, fun O => ?_⟩
  · rcases old ho with ⟨h1, h2⟩ | ⟨h1, h2⟩ | ⟨h1, h2, h3⟩
    · rw [h2]
      have st' := st
      simp only [ρ', h1, if_true]
      rw [← hx] at st' ⊢
      have hn : (conSub c lo (lo + n)).n = n := by rw [con_n_sub c (by omega) g0]; omega
      have hsz := con_size_sub c lo (lo + n)
      refine ⟨a', cap - lo, by rw [hn], by rw [hn]; omega, by omega, ?_⟩
      obtain ⟨a2, cap2, k1, k2, k3, k4⟩ := hs.obj id _ hid
      rw [g1] at k1
      cases k1
      by_cases hc : cap = lo
      · exact .inl (by omega)
      · rcases k4 with k4 | ⟨b, o, cells, fr, us, rfl, h5, h6, h7, h8⟩
        · omega
        · refine .inr ⟨b, o + lo * c.size, cells, fr, fun i j => us (lo + i) j, by rw [g4 hc]; simp [add_zero_spot], h5, h6, ?_, fun i j hi hj => ?_⟩
          · rw [hsz]
            have : lo * c.size + (cap - lo) * c.size = cap * c.size := by rw [← Nat.add_mul]; congr 1; omega
            omega
          · rw [hn] at hi
            rw [hsz] at hj ⊢
            obtain ⟨h9, h10⟩ := h8 (lo + i) j (by omega) hj
            refine ⟨?_, by rw [con_cell_sub c j (by omega)]; exact h10.step st'.hot st'.heap st'.size⟩
            rw [show o + lo * c.size + i * c.size + j = o + (lo + i) * c.size + j from by rw [Nat.add_mul]; omega]
            exact h9
    · subst h2; trivial
    · simp only [ρ', h2, if_false]
      exact (hs.obj k o h3).step st (fun _ _ _ => rfl)
  · have cls : ∀ {k : Nat} {o : AObj}, (L.set id .dead ++ [x])[k]? = some o → o.alive = true → blk (ρ' k) = some b → (k = L.length ∧ blk (ρ id) = some b) ∨ (k ≠ id ∧ k ≠ L.length ∧ L[k]? = some o ∧ blk (ρ k) = some b) := by
      intro k o ho ha hb
      rcases old ho with ⟨h1, h2⟩ | ⟨h1, h2⟩ | ⟨h1, h2, h3⟩
      · simp only [ρ', h1, if_true] at hb
        exact .inl ⟨h1, hblk b hb⟩
      · subst h2; cases ha
      · simp only [ρ', h2, if_false] at hb
        exact .inr ⟨h1, h2, h3, hb⟩
    rcases cls hi ai bi with ⟨h1, h2⟩ | ⟨h1, h2, h3, h4⟩ <;> rcases cls hj aj bj with ⟨k1, k2⟩ | ⟨k1, k2, k3, k4⟩
    · rw [h1, k1]
    · exact absurd (hs.inj j id oj _ b k3 hid aj rfl k4 h2) k1
    · exact absurd (hs.inj i id oi _ b h3 hid ai rfl h4 k2) h1
    · exact hs.inj i j oi oj b h3 k3 ai aj h4 k4
  · unfold Den1
    refine ⟨rfl, x, newx, fun c' e' _ => ?_⟩
    simp only [ρ', if_true]

theorem nil1_ok {ces : List (Bool × Con × TypeId)} {a : AV} (hs : Sat ρ (lk L) G w) :
    (∀ v, DenV ρ (lk L) (Hot ρ (lk L) G) w a v → ∃ ρ', Sat ρ' (lk (nil1 ces L a).2.1) G w ∧ stp ρ L G w ρ' (nil1 ces L a).2.1 ∧ DenV ρ' (lk (nil1 ces L a).2.1) (Hot ρ' (lk (nil1 ces L a).2.1) G) w (nil1 ces L a).1 v) ∧
    (∀ cs, DenC ρ (lk L) (Hot ρ (lk L) G) w a cs → ∃ ρ', Sat ρ' (lk (nil1 ces L a).2.1) G w ∧ stp ρ L G w ρ' (nil1 ces L a).2.1 ∧ DenC ρ' (lk (nil1 ces L a).2.1) (Hot ρ' (lk (nil1 ces L a).2.1) G) w (nil1 ces L a).1 cs) := by
  have same : ∀ a, (∀ v, DenV ρ (lk L) (Hot ρ (lk L) G) w a v → ∃ ρ', Sat ρ' (lk L) G w ∧ stp ρ L G w ρ' L ∧ DenV ρ' (lk L) (Hot ρ' (lk L) G) w a v) ∧ (∀ cs, DenC ρ (lk L) (Hot ρ (lk L) G) w a cs → ∃ ρ', Sat ρ' (lk L) G w ∧ stp ρ L G w ρ' L ∧ DenC ρ' (lk L) (Hot ρ' (lk L) G) w a cs) :=
    fun a => ⟨fun v h => ⟨ρ, hs, Step.refl _ _ _ _, h⟩, fun cs h => ⟨ρ, hs, Step.refl _ _ _ _, h⟩⟩
  unfold nil1
  split
  · split
    · rename_i ro c e r
      cases hc : c.n.beq 0
      · exact same _
      · have hc := Nat.eq_of_beq_eq_true hc
        cases ro
        · refine ⟨fun v h => ?_, fun cs h => ?_⟩
          · unfold DenV at h
            obtain ⟨x, rfl⟩ := h
            obtain ⟨ρ', h1, h2, h3⟩ := ext1 hs hc e x
            exact ⟨ρ', h1, h2, by simp only [cond_true, cond_false]; unfold DenV; exact h3 _⟩
          · unfold DenC at h
            obtain ⟨u, rfl, x, rfl⟩ := h
            obtain ⟨ρ', h1, h2, h3⟩ := ext1 hs hc e x
            exact ⟨ρ', h1, h2, by simp only [cond_true, cond_false]; unfold DenC; exact ⟨_, rfl, h3 _⟩⟩
        · refine ⟨fun v h => ?_, fun cs h => ?_⟩
          · unfold DenV at h
            obtain ⟨x, rfl⟩ := h
            exact ⟨ρ, hs, Step.refl _ _ _ _, DenV_s (emp_ro hc x)⟩
          · unfold DenC at h
            obtain ⟨u, rfl, x, rfl⟩ := h
            exact ⟨ρ, hs, Step.refl _ _ _ _, by simp only [cond_true]; unfold DenC; exact ⟨_, rfl, emp_ro hc x⟩⟩
    · exact same _
  · rename_i id
    split
    · split
      · rename_i c e hid
        obtain ⟨f1, f2, f3⟩ := freeze1 hs hid
        have key : ∀ v, Den1 ρ (lk L) (Hot ρ (lk L) G) w (.vec id) v → v = ρ id := by
          intro v hv
          unfold Den1 at hv
          obtain ⟨_, o, ho, h4⟩ := hv
          rw [show lk L id = some (.vec c e) from hid] at ho
          cases ho
          exact h4 c e rfl
        refine ⟨fun v h => ⟨ρ, f1, f2, ?_⟩, fun cs h => ⟨ρ, f1, f2, ?_⟩⟩
        · unfold DenV at h
          rw [key v h]
          exact DenV_s f3
        · unfold DenC at h
          obtain ⟨u, rfl, h5⟩ := h
          unfold DenC
          exact ⟨u, rfl, by rw [key u h5]; exact f3⟩
      · exact same _
    · exact same _
  · exact same _
  · rename_i id lo n
    split
    · rename_i c e hid
      refine ⟨fun v h => ?_, fun cs h => ?_⟩
      · obtain ⟨ρ', h1, h2, h3⟩ := retract hs hid h
        exact ⟨ρ', h1, h2, by unfold DenV; exact h3 _⟩
      · unfold DenC at h
        obtain ⟨u, rfl, h5⟩ := h
        obtain ⟨ρ', h1, h2, h3⟩ := retract hs hid (by unfold DenV; exact h5)
        exact ⟨ρ', h1, h2, by unfold DenC; exact ⟨u, rfl, h3 _⟩⟩
    · exact same _
  · exact same _

theorem nilSegs_ok : ∀ (azs : List AV) {ces : List (Bool × Con × TypeId)} {L : List AObj} {ρ : Nat → Value} {cs : List Value}, Sat ρ (lk L) G w → DenSegs ρ (lk L) (Hot ρ (lk L) G) w azs cs →
    ∃ ρ', Sat ρ' (lk (nilL nil1 ces L azs).2.1) G w ∧ stp ρ L G w ρ' (nilL nil1 ces L azs).2.1 ∧ DenSegs ρ' (lk (nilL nil1 ces L azs).2.1) (Hot ρ' (lk (nilL nil1 ces L azs).2.1) G) w (nilL nil1 ces L azs).1 cs
  | [], ces, L, ρ, cs, hs, hd => ⟨ρ, hs, Step.refl _ _ _ _, hd⟩
  | a :: azs, ces, L, ρ, cs, hs, hd => by
    obtain ⟨c1, c2, rfl, h1, h2⟩ := DenSegs_cons.1 hd
    obtain ⟨ρ1, h3, h4, h5⟩ := (nil1_ok (ces := ces) hs).2 c1 h1
    obtain ⟨ρ2, h6, h7, h8⟩ := nilSegs_ok azs (ces := (nil1 ces L a).2.2) h3 (DenSegs.step h4 azs c2 h2)
    exact ⟨ρ2, h6, h4.trans h7, DenSegs_cons.2 ⟨c1, c2, rfl, DenC.step h7 _ _ h5, h8⟩⟩

theorem nilA_ok {ces : List (Bool × Con × TypeId)} {a : AV} {v : Value} (hs : Sat ρ (lk L) G w) (hd : DenV ρ (lk L) (Hot ρ (lk L) G) w a v) :
    ∃ ρ', Sat ρ' (lk (nilA ces L a).2.1) G w ∧ stp ρ L G w ρ' (nilA ces L a).2.1 ∧ DenV ρ' (lk (nilA ces L a).2.1) (Hot ρ' (lk (nilA ces L a).2.1) G) w (nilA ces L a).1 v := by
  unfold nilA
  split
  · rename_i segs
    unfold DenV at hd
    obtain ⟨cs, h1, h2⟩ := hd
    obtain ⟨ρ', h3, h4, h5⟩ := nilSegs_ok segs (ces := ces) hs h2
    exact ⟨ρ', h3, h4, by unfold DenV; exact ⟨cs, h1, h5⟩⟩
  · exact (nil1_ok hs).1 v hd

theorem nilVals_ok : ∀ (azs : List AV) {ces : List (Bool × Con × TypeId)} {L : List AObj} {ρ : Nat → Value} {vs : List Value}, Sat ρ (lk L) G w → DenL ρ (lk L) (Hot ρ (lk L) G) w azs vs →
    ∃ ρ', Sat ρ' (lk (nilL nilA ces L azs).2.1) G w ∧ stp ρ L G w ρ' (nilL nilA ces L azs).2.1 ∧ DenL ρ' (lk (nilL nilA ces L azs).2.1) (Hot ρ' (lk (nilL nilA ces L azs).2.1) G) w (nilL nilA ces L azs).1 vs
  | [], ces, L, ρ, cs, hs, hd => ⟨ρ, hs, Step.refl _ _ _ _, hd⟩
  | a :: azs, ces, L, ρ, cs, hs, hd => by
    obtain ⟨v, rest, rfl, h1, h2⟩ := DenL_cons.1 hd
    obtain ⟨ρ1, h3, h4, h5⟩ := nilA_ok (ces := ces) hs h1
    obtain ⟨ρ2, h6, h7, h8⟩ := nilVals_ok azs (ces := (nilA ces L a).2.2) h3 (DenL.step h4 azs rest h2)
    exact ⟨ρ2, h6, h4.trans h7, DenL_cons.2 ⟨v, rest, rfl, DenV.step h7 _ _ h5, h8⟩⟩

theorem nilV_ok {ces : List (Bool × Con × TypeId)} {a : AV} {v : Value} (hs : Sat ρ (lk L) G w) (hd : DenV ρ (lk L) (Hot ρ (lk L) G) w a v) :
    ∃ ρ', Sat ρ' (lk (nilV ces L a).2) G w ∧ stp ρ L G w ρ' (nilV ces L a).2 ∧ DenV ρ' (lk (nilV ces L a).2) (Hot ρ' (lk (nilV ces L a).2) G) w (nilV ces L a).1 v := by
  unfold nilV
  split
  · rename_i vs
    unfold DenV at hd
    obtain ⟨us, h1, h2⟩ := hd
    obtain ⟨ρ', h3, h4, h5⟩ := nilVals_ok vs (ces := ces) hs h2
    exact ⟨ρ', h3, h4, by unfold DenV; exact ⟨us, h1, h5⟩⟩
  · exact nilA_ok hs hd

theorem canR_good {ces : List (Bool × Con × TypeId)} {r r' : AV} {v : Value} {L' : List AObj} (h : Good ρ H G w (lk L) r v w') (h0 : ∀ id, H id = none) (hc : canR ces L r = some (L', r')) : Good ρ H G w (lk L') r' v w' := by
  unfold canR at hc
  simp only [Bool.cond_eq_ite] at hc
  split at hc
  · rename_i hn
    split at hc
    · rename_i L1 r1 hL hr
      simp only [Option.some.injEq, Prod.mk.injEq] at hc
      obtain ⟨rfl, rfl⟩ := hc
      obtain ⟨ρ1, h1, h2, h3, h4⟩ := h
      obtain ⟨ρ2, h5, h6, h7⟩ := nilV_ok (ces := ces) h1 h2
      exact Good.view (m := 0) ⟨ρ2, h5, h7, h3.trans h6, h4⟩ (nodupB_spec hn) hL (fun i hi => by omega) (fun id _ => h0 id) hr
    · cases hc
  · cases hc
end
end Go.Sx

/-! A function's contract, and its summary for those who call it. -/
namespace Go.Sx
open Go

def B.out (base : Nat) : (b : B) → b.V → AV × List AObj
  | .row r e, x => (.vec base, [.vec (r.con x) e])
  | .int k, x => (.s (.int k x), [])
  | .bool, x => (.s (.bool x), [])
  | .str, x => (.s (.str x), [])
  | .arr k n, x => (.ints k n x, [])
  | .fn, f => (.s (.fn0 f), [])
  | .rrow r _, x => (.s (.ro (r.con x)), [])

def BL.out (base : Nat) : (bs : List B) → BL bs → List AV × List AObj
  | [], _ => ([], [])
  | b :: bs, (x, y) => let p := b.out base x; let q := BL.out (base + p.2.length) bs y; (p.1 :: q.1, p.2 ++ q.2)

def Ty.out (base : Nat) : (t : Ty) → t.V → AV × List AObj
  | .b x, v => x.out base v
  | .st bs, v => let q := BL.out base bs v; (.agg q.1, q.2)

def AL.out (base : Nat) : (ts : List Ty) → AL ts → List AV × List AObj
  | [], _ => ([], [])
  | t :: ts, (x, y) => let p := t.out base x; let q := AL.out (base + p.2.length) ts y; (p.1 :: q.1, p.2 ++ q.2)

/-- What a function hands back. -/
def AL.res (rs : List Ty) (y : AL rs) : List AObj × AV := let q := AL.out 0 rs y; (q.2, oneOf q.1)

def B.flat : B → Bool
  | .row r _ => r.flat
  | .rrow _ _ => false
  | _ => true
def Ty.flat : Ty → Bool
  | .b x => x.flat
  | .st bs => bs.all B.flat
/-- Rows that are new bear plain cells; others stand still. -/
def B.flatR : B → Bool
  | .row r _ => r.flat
  | _ => true
def Ty.flatR : Ty → Bool
  | .b x => x.flatR
  | .st bs => bs.all B.flatR

def B.ces : B → List (Bool × Con × TypeId)
  | .row r e => [(false, r.con [], e)]
  | .rrow r e => [(true, r.con [], e)]
  | _ => []
def Ty.ces : Ty → List (Bool × Con × TypeId)
  | .b x => x.ces
  | .st bs => bs.flatMap B.ces

/-- What a function does: plain values in, plain values out. -/
def FnOk (P : Program) (Z : Glob) (f : FuncId) (ts rs : List Ty) (pre : AL ts → List Prop) (F : AL ts → AL rs) : Prop :=
  ∀ (x : AL ts), AL.ok ts x → Needs (pre x) → ∀ (G : Nat → Prop) (w : World) (vs : List Value), (∀ b, G b → b < w.heap.size) → Z.ok w → DenL (fun _ => undef) (fun _ => none) (Hot (fun _ => undef) (fun _ => none) G) w (AL.av ts x) vs →
    Calls P f vs.toArray w fun e w' => ∃ v, e = .returned v ∧ Good (fun _ => undef) (fun _ => none) G w (lk (AL.res rs (F x)).1) (AL.res rs (F x)).2 v w'

/-- The run's end, as it is owed. -/
def Ends (rs : List Ty) (y : AL rs) (L : List AObj) (r : AV) : Prop := canR (rs.flatMap Ty.ces) L r = some (AL.res rs y)

/-! ### calls -/
def frz1 (a : AV) (k : AV → RM Res) : RM Res :=
  match a with
  | .vec id => .look id fun
    | some (.vec c _) => k (.s (.ro c))
    | _ => .fail "frz"
  | a => k a

def frzL : List AV → (List AV → RM Res) → RM Res
  | [], k => k []
  | a :: azs, k => frz1 a fun a' => frzL azs fun azs' => k (a' :: azs')

def frzV (a : AV) (k : AV → RM Res) : RM Res :=
  match a with
  | .agg segs => frzL segs fun s => k (.agg s)
  | a => frz1 a k

def frzA : List AV → (List AV → RM Res) → RM Res
  | [], k => k []
  | a :: azs, k => frzV a fun a' => frzA azs fun azs' => k (a' :: azs')

/-- The summary of a contract. -/
def sumOf (ts rs : List Ty) (pre : AL ts → List Prop) (F : AL ts → AL rs) : Nat → List AV → RM Res := fun _ args =>
  frzA args fun args => match allM (rn (fun _ => none) 20) args with
    | some args => (match AL.rd ts args with
      | some x => bif rs.all Ty.flat then .ret ⟨pre x, [], (AL.res rs (F x)).1, fun base => oneOf (AL.out base rs (F x)).1⟩ else .fail "sum: not flat"
      | none => .fail "sum: arguments")
    | none => .fail "sum: names"

section
variable {g : Nat → Option Nat} {ρ ρ' : Nat → Value} {H H' : AHeap} {G O O' : Nat → Prop} {w w' : World} {P : Program} {S : SummB} {Z : Glob} {X : Ctx} {s : St} {a : Act} {K : List AObj → AV → Prop} {C : Cfg → Prop} {L : List AObj}

theorem AL.av_length : ∀ {ts : List Ty} (x : AL ts), (AL.av ts x).length = ts.length
  | [], _ => rfl
  | _ :: _, (_, y) => congrArg (· + 1) (AL.av_length y)

theorem fnOk_of_safe {f : FuncId} {fn : Func} {ts rs : List Ty} {pre : AL ts → List Prop} {F : AL ts → AL rs} (hf : P.funcs[f]? = some fn) (hb : fn.body.isSome = true) (hn : ts.length.ble fn.ntmps = true)
    (h : ∀ x, AL.ok ts x → Needs (pre x) → ∀ X : Ctx, (∀ id, X.H id = none) → ZCtx Z X → Safe P f X (Ends rs (F x)) (start fn (AL.av ts x) [])) : FnOk P Z f ts rs pre F := by
  intro x hok hpre G w vs hG hz hd
  obtain ⟨c, hb⟩ := Option.isSome_iff_exists.1 hb
  have hn := Nat.le_of_ble_eq_true hn
  have hlenA : (AL.av ts x).length = ts.length := AL.av_length x
  have hlenV : ∀ {azs : List AV} {vs : List Value}, DenL (fun _ => undef) (fun _ => none) (Hot (fun _ => undef) (fun _ => none) G) w azs vs → vs.length = azs.length := by
    intro azs
    induction azs with
    | nil => intro vs h; rw [DenL_nil.1 h]; rfl
    | cons a azs ih => intro vs h; obtain ⟨v, rest, rfl, _, h2⟩ := DenL_cons.1 h; simp [ih h2]
  refine (calls_of_goes (R := Post ⟨fun _ => undef, fun _ => none, G, w, []⟩ (Ends rs (F x))) hf hb ?_).mono ?_
  · have := (h x hok hpre ⟨fun _ => undef, fun _ => none, G, w, []⟩ (fun _ => rfl) ⟨hz, fun b _ ⟨id, o, ho, _⟩ => by cases ho⟩).goes rfl rfl (ρ := fun _ => undef) (a := { tmps := vs.toArray ++ Array.replicate (fn.ntmps - vs.toArray.size) undef, defers := [] }) (w := w)
    simp only [start, hb, Option.getD_some] at this
    refine this ⟨⟨fun id o ho => by simp [St.look] at ho, fun i j oi oj b hi => by simp [St.look] at hi, fun b hb' => ?_, hG⟩, ?_, fun t => ?_, rfl, ?_, ?_, fun x hx => by cases hx⟩
    · obtain ⟨id, o, ho, _⟩ := hb'
      simp [St.look] at ho
    · have := hlenV hd
      simp [this]
    · have e1 : ∀ t, DenV (fun _ => undef) (St.look ⟨AL.av ts x ++ List.replicate (fn.ntmps - (AL.av ts x).length) (.tup []), []⟩) (Hot (fun _ => undef) (St.look ⟨AL.av ts x ++ List.replicate (fn.ntmps - (AL.av ts x).length) (.tup []), []⟩) G) w ((AL.av ts x).getD t (.tup [])) (vs.getD t undef) := by
        have e0 : (St.look ⟨AL.av ts x ++ List.replicate (fn.ntmps - (AL.av ts x).length) (.tup []), []⟩) = fun _ => none := by funext i; simp [St.look]
        rw [e0]
        generalize AL.av ts x = azs at hd
        clear hlenA e0 this
        induction azs generalizing vs with
        | nil => intro t; rw [DenL_nil.1 hd]; simp only [List.getD, List.getElem?_nil, Option.getD_none]; exact den_undef
        | cons a azs ih =>
          intro t
          obtain ⟨v, rest, rfl, h1, h2⟩ := DenL_cons.1 hd
          cases t with
          | zero => simpa using h1
          | succ t => simpa using ih rest h2 t
      have h1 := e1 t
      have hl := hlenV hd
      simp only [List.getD_eq_getElem?_getD, List.getElem?_append, List.getElem?_replicate, Array.getD_eq_getD_getElem?, Array.getElem?_append, List.getElem?_toArray, Array.getElem?_replicate, List.size_toArray] at h1 ⊢
      rw [hl]
      split
      · rename_i ht
        have hv : vs[t]? = some vs[t] := List.getElem?_eq_getElem (by omega)
        have ha : (AL.av ts x)[t]? = some (AL.av ts x)[t] := List.getElem?_eq_getElem ht
        rw [hv, ha] at h1 ⊢
        exact h1
      · split
        · exact den_undef
        · simp only [Option.getD_none]
          unfold DenV
          trivial
    · have e0 : (St.look ⟨AL.av ts x ++ List.replicate (fn.ntmps - (AL.av ts x).length) (.tup []), []⟩) = fun _ => none := by funext i; simp [St.look]
      rw [e0]
      exact Step.refl _ _ _ _
    · exact ⟨rfl, rfl, rfl, fun _ _ _ => rfl⟩
  · rintro e w' ⟨v, he, L, r, hk, hg⟩
    refine ⟨v, he, ?_⟩
    exact canR_good hg (fun _ => rfl) hk

theorem RM.frz1_ok {azs : AV} {k : AV → RM Res} {q : Res} (h : (frz1 azs k).eval H = some q) (hs : Sat ρ H G w) : ∃ a', (k a').eval H = some q ∧ (∀ v, DenV ρ H (Hot ρ H G) w azs v → DenV ρ H (fun _ => False) w a' v) ∧ (∀ cs, DenC ρ H (Hot ρ H G) w azs cs → DenC ρ H (fun _ => False) w a' cs) := by
  have less : Emb (fun i => some i) ρ H (Hot ρ H G) ρ H (fun _ => False) := ⟨fun i j h => by cases h; exact ⟨rfl, fun o ho => ⟨o, ho, fun c e hc => hc⟩⟩, fun b hb => hb.elim⟩
  have lessV : ∀ (a : AV) (v : Value), DenV ρ H (Hot ρ H G) w a v → DenV ρ H (fun _ => False) w a v := fun a v hd => DenV.step ⟨fun _ _ _ => rfl, fun _ o h => ⟨o, h, fun c' e' e => ⟨c', e', e, rfl, rfl⟩⟩, fun b hb => hb.elim, fun _ _ _ => rfl, Nat.le_refl _⟩ a v hd
  have lessC : ∀ (a : AV) (v : List Value), DenC ρ H (Hot ρ H G) w a v → DenC ρ H (fun _ => False) w a v := fun a v hd => DenC.step ⟨fun _ _ _ => rfl, fun _ o h => ⟨o, h, fun c' e' e => ⟨c', e', e, rfl, rfl⟩⟩, fun b hb => hb.elim, fun _ _ _ => rfl, Nat.le_refl _⟩ a v hd
  unfold frz1 at h
  split at h
  · rename_i id
    simp only [RM.eval] at h
    split at h
    · rename_i c e hc
      have hobj := hs.obj id _ hc
      obtain ⟨r, cap, h0, h1, h2, h3⟩ := hobj
      have key : ∀ v, Den1 ρ H (Hot ρ H G) w (.vec id) v → DenS (fun _ => False) w (.ro c) v := by
        intro v hv
        unfold Den1 at hv
        obtain ⟨_, o, ho, h4⟩ := hv
        rw [hc] at ho
        cases ho
        rw [h4 c e rfl, h0]
        rcases h3 with h3 | ⟨b, f, cells, fr, us, rfl, h5, h6, h7, h8⟩
        · exact .ro c r cap (fun _ _ => undef) 0 0 h1 h2 (fun h => by omega) (fun i j hi hj => by omega) (fun i j hi hj => by omega)
        · refine .ro c _ cap us b f h1 h2 (fun _ => ⟨rfl, fun h => h.elim, (Array.getElem?_eq_some_iff.1 h5).1⟩) (fun i j hi hj => ?_) (fun i j hi hj => (h8 i j hi hj).2.less (fun b hb => hb.elim))
          have := (h8 i j hi hj).1
          simp only [World.cell?, h5]
          simpa using this
      exact ⟨_, h, fun v hv => DenV_s (key v (by unfold DenV at hv; exact hv)), fun cs hv => by unfold DenC at *; obtain ⟨u, rfl, h9⟩ := hv; exact ⟨u, rfl, key u h9⟩⟩
    · simp [RM.eval] at h
  · exact ⟨_, h, lessV _, lessC _⟩

theorem RM.frzL_ok : ∀ {azs : List AV} {k : List AV → RM Res} {q : Res}, (frzL azs k).eval H = some q → Sat ρ H G w → ∃ azs', (k azs').eval H = some q ∧ ∀ cs, DenSegs ρ H (Hot ρ H G) w azs cs → DenSegs ρ H (fun _ => False) w azs' cs
  | [], k, q, h, hs => ⟨[], h, fun cs hd => by rw [DenSegs_nil.1 hd]; exact DenSegs_nil.2 rfl⟩
  | a :: azs, k, q, h, hs => by
    obtain ⟨a', h1, h2, h3⟩ := RM.frz1_ok h hs
    obtain ⟨azs', h4, h5⟩ := RM.frzL_ok h1 hs
    refine ⟨a' :: azs', h4, fun cs hd => ?_⟩
    obtain ⟨c1, c2, rfl, h6, h7⟩ := DenSegs_cons.1 hd
    exact DenSegs_cons.2 ⟨c1, c2, rfl, h3 c1 h6, h5 c2 h7⟩

theorem RM.frzV_ok {azs : AV} {k : AV → RM Res} {q : Res} (h : (frzV azs k).eval H = some q) (hs : Sat ρ H G w) : ∃ a', (k a').eval H = some q ∧ (∀ v, DenV ρ H (Hot ρ H G) w azs v → DenV ρ H (fun _ => False) w a' v) := by
  unfold frzV at h
  split at h
  · obtain ⟨azs', h1, h2⟩ := RM.frzL_ok h hs
    refine ⟨_, h1, fun v hd => ?_⟩
    unfold DenV at *
    obtain ⟨cs, h3, h4⟩ := hd
    exact ⟨cs, h3, h2 cs h4⟩
  · obtain ⟨a', h1, h2, _⟩ := RM.frz1_ok h hs
    exact ⟨a', h1, h2⟩

theorem RM.frzA_ok : ∀ {azs : List AV} {k : List AV → RM Res} {q : Res}, (frzA azs k).eval H = some q → Sat ρ H G w → ∃ azs', (k azs').eval H = some q ∧ ∀ cs, DenL ρ H (Hot ρ H G) w azs cs → DenL ρ H (fun _ => False) w azs' cs
  | [], k, q, h, hs => ⟨[], h, fun cs hd => by rw [DenL_nil.1 hd]; exact DenL_nil.2 rfl⟩
  | a :: azs, k, q, h, hs => by
    obtain ⟨a', h1, h2⟩ := RM.frzV_ok h hs
    obtain ⟨azs', h4, h5⟩ := RM.frzA_ok h1 hs
    refine ⟨a' :: azs', h4, fun cs hd => ?_⟩
    obtain ⟨v, rest, rfl, h6, h7⟩ := DenL_cons.1 hd
    exact DenL_cons.2 ⟨v, rest, rfl, h2 v h6, h5 rest h7⟩

theorem CL_flat_den : ∀ {cs : List CK} (_ : cs.all CK.flat = true) {x : CL cs} {j : Nat} {u : Value}, j < CL.wide cs → DenS O w (CL.cell cs x j) u → DenS O' w (CL.cell cs x j) u
  | [], _, x, j, u, hj, h => by simp [CL.wide] at hj
  | c :: cs, hf, x, j, u, hj, h => by
    simp only [List.all_cons, Bool.and_eq_true] at hf
    simp only [CL.cell] at h ⊢
    rcases Nat.lt_or_ge j c.wide with h5 | h5
    · rw [blt_t h5, cond_true] at h ⊢
      cases c <;> simp only [CK.flat, Bool.false_eq_true] at hf
      case int k => exact (by simp only [CK.cell] at h ⊢; cases h; constructor)
      case bool => exact (by simp only [CK.cell] at h ⊢; cases h; constructor)
      case str => exact (by simp only [CK.cell] at h ⊢; cases h; constructor)
      case arr k n => exact (by simp only [CK.cell] at h ⊢; cases h; constructor)
      all_goals exact hf.1.elim
    · rw [blt_f h5, cond_false] at h ⊢
      exact CL_flat_den hf.2 (by simp only [CL.wide] at hj; omega) h

theorem RK.flat_den {r : RK} (hr : r.flat = true) {x : r.V} {i j : Nat} {u : Value} (hj : j < (r.con x).size) (h : DenS O w ((r.con x).cell i j) u) : DenS O' w ((r.con x).cell i j) u := by
  cases r
  case typ cs => exact CL_flat_den hr hj h
  all_goals (simp only [RK.con, Con.cell] at h ⊢; cases h; constructor)

/-- Objects that bear plain rows alone. -/
def Plain (o : AObj) : Prop := ∃ (r : RK) (x : r.V) (e : TypeId), r.flat = true ∧ o = .vec (r.con x) e

theorem B.out_plain {b : B} (hb : b.flatR = true) {x : b.V} {base : Nat} : ∀ o ∈ (b.out base x).2, Plain o := by
  cases b with
  | row r e => intro o ho; simp only [B.out, List.mem_singleton] at ho; exact ⟨r, x, e, hb, ho⟩
  | _ => intro o ho; simp [B.out] at ho

theorem BL.out_plain : ∀ {bs : List B}, bs.all B.flatR = true → ∀ {x : BL bs} {base : Nat}, ∀ o ∈ (BL.out base bs x).2, Plain o
  | [], _, x, base, o, ho => by simp [BL.out] at ho
  | b :: bs, hb, (x, y), base, o, ho => by
    simp only [List.all_cons, Bool.and_eq_true] at hb
    simp only [BL.out, List.mem_append] at ho
    rcases ho with ho | ho
    · exact B.out_plain hb.1 o ho
    · exact BL.out_plain hb.2 o ho

theorem Ty.out_plain {t : Ty} (ht : t.flatR = true) {x : t.V} {base : Nat} : ∀ o ∈ (t.out base x).2, Plain o := by
  cases t with
  | b y => exact B.out_plain ht
  | st bs => exact BL.out_plain ht

theorem AL.out_plain : ∀ {ts : List Ty}, ts.all Ty.flatR = true → ∀ {x : AL ts} {base : Nat}, ∀ o ∈ (AL.out base ts x).2, Plain o
  | [], _, x, base, o, ho => by simp [AL.out] at ho
  | b :: bs, hb, (x, y), base, o, ho => by
    simp only [List.all_cons, Bool.and_eq_true] at hb
    simp only [AL.out, List.mem_append] at ho
    rcases ho with ho | ho
    · exact Ty.out_plain hb.1 o ho
    · exact AL.out_plain hb.2 o ho

/-- From the names from 0 on to those from a base on. -/
structure Shift (base n : Nat) (ρ : Nat → Value) (H : AHeap) (ρ' : Nat → Value) (H' : AHeap) : Prop where
  rho : ∀ i, i < n → ρ' (base + i) = ρ i
  heap : ∀ i, i < n → H' (base + i) = H i

theorem vec_shift {base n k : Nat} (sh : Shift base n ρ H ρ' H') (hk : k < n) {v : Value} (h : Den1 ρ H O w (.vec k) v) : Den1 ρ' H' O' w (.vec (base + k)) v := by
  unfold Den1 at *
  obtain ⟨h0, o, ho, h1⟩ := h
  exact ⟨h0, o, by rw [sh.heap k hk]; exact ho, fun c e hc => by rw [sh.rho k hk]; exact h1 c e hc⟩

theorem B.shiftV {base n k : Nat} (sh : Shift base n ρ H ρ' H') {b : B} (hO : b.flat = true ∨ ∀ i, O' i → O i) {x : b.V} (hk : k + (b.out k x).2.length ≤ n) {v : Value} (h : DenV ρ H O w (b.out k x).1 v) : DenV ρ' H' O' w (b.out (base + k) x).1 v := by
  cases b with
  | row r e =>
    simp only [B.out, List.length_cons, List.length_nil] at hk h ⊢
    unfold DenV at *
    exact vec_shift sh (by omega) h
  | int k => exact DenV_s (by have := DenS_of_V (by simp) h; cases this; constructor)
  | bool => exact DenV_s (by have := DenS_of_V (by simp) h; cases this; constructor)
  | str => exact DenV_s (by have := DenS_of_V (by simp) h; cases this; constructor)
  | fn => exact DenV_s (by have := DenS_of_V (by simp) h; cases this; constructor)
  | rrow r e =>
    rcases hO with hO | hO
    · cases hO
    · exact DenV_s ((DenS_of_V (by simp) h).less hO)
  | arr k n => simp only [B.out] at h ⊢; unfold DenV at *; exact h

theorem B.shiftC {base n k : Nat} (sh : Shift base n ρ H ρ' H') {b : B} (hO : b.flat = true ∨ ∀ i, O' i → O i) {x : b.V} (hk : k + (b.out k x).2.length ≤ n) {v : List Value} (h : DenC ρ H O w (b.out k x).1 v) : DenC ρ' H' O' w (b.out (base + k) x).1 v := by
  cases b with
  | row r e =>
    simp only [B.out, List.length_cons, List.length_nil] at hk h ⊢
    unfold DenC at *
    obtain ⟨u, rfl, h1⟩ := h
    exact ⟨u, rfl, vec_shift sh (by omega) h1⟩
  | int k => simp only [B.out] at h ⊢; unfold DenC at *; obtain ⟨u, rfl, h1⟩ := h; exact ⟨u, rfl, by cases h1; constructor⟩
  | bool => simp only [B.out] at h ⊢; unfold DenC at *; obtain ⟨u, rfl, h1⟩ := h; exact ⟨u, rfl, by cases h1; constructor⟩
  | str => simp only [B.out] at h ⊢; unfold DenC at *; obtain ⟨u, rfl, h1⟩ := h; exact ⟨u, rfl, by cases h1; constructor⟩
  | fn => simp only [B.out] at h ⊢; unfold DenC at *; obtain ⟨u, rfl, h1⟩ := h; exact ⟨u, rfl, by cases h1; constructor⟩
  | rrow r e =>
    simp only [B.out] at h ⊢
    unfold DenC at *
    obtain ⟨u, rfl, h1⟩ := h
    rcases hO with hO | hO
    · cases hO
    · exact ⟨u, rfl, h1.less hO⟩
  | arr k n => simp only [B.out] at h ⊢; unfold DenC at *; exact h

theorem B.out_len {b : B} {x : b.V} (k k' : Nat) : (b.out k x).2 = (b.out k' x).2 := by cases b <;> rfl

theorem BL.out_len : ∀ {bs : List B} {x : BL bs} (k k' : Nat), (BL.out k bs x).2 = (BL.out k' bs x).2
  | [], _, _, _ => rfl
  | b :: bs, (x, y), k, k' => by
    simp only [BL.out]
    rw [B.out_len k k', BL.out_len (k + _) (k' + (b.out k' x).2.length)]

theorem Ty.out_len {t : Ty} {x : t.V} (k k' : Nat) : (t.out k x).2 = (t.out k' x).2 := by
  cases t with
  | b y => exact B.out_len k k'
  | st bs => exact BL.out_len k k'

theorem AL.out_len : ∀ {ts : List Ty} {x : AL ts} (k k' : Nat), (AL.out k ts x).2 = (AL.out k' ts x).2
  | [], _, _, _ => rfl
  | b :: bs, (x, y), k, k' => by
    simp only [AL.out]
    rw [Ty.out_len k k', AL.out_len (k + _) (k' + (b.out k' x).2.length)]

theorem BL.shift {base n : Nat} (sh : Shift base n ρ H ρ' H') : ∀ {bs : List B} (_ : bs.all B.flat = true ∨ ∀ i, O' i → O i) {k : Nat} {x : BL bs} {cs : List Value}, k + (BL.out k bs x).2.length ≤ n → DenSegs ρ H O w (BL.out k bs x).1 cs → DenSegs ρ' H' O' w (BL.out (base + k) bs x).1 cs
  | [], _, k, x, cs, hk, h => by rw [DenSegs_nil.1 h]; exact DenSegs_nil.2 rfl
  | b :: bs, hO, k, (x, y), cs, hk, h => by
    simp only [BL.out, List.length_append] at hk h ⊢
    obtain ⟨c1, c2, rfl, h1, h2⟩ := DenSegs_cons.1 h
    have hO1 : b.flat = true ∨ ∀ i, O' i → O i := hO.imp (fun h => by simp only [List.all_cons, Bool.and_eq_true] at h; exact h.1) (fun h => h)
    have hO2 : bs.all B.flat = true ∨ ∀ i, O' i → O i := hO.imp (fun h => by simp only [List.all_cons, Bool.and_eq_true] at h; exact h.2) (fun h => h)
    refine DenSegs_cons.2 ⟨c1, c2, rfl, B.shiftC sh hO1 (by omega) h1, ?_⟩
    rw [B.out_len (base + k) k, Nat.add_assoc]
    exact BL.shift sh hO2 (by omega) h2

theorem Ty.shift {base n k : Nat} (sh : Shift base n ρ H ρ' H') {t : Ty} (hO : t.flat = true ∨ ∀ i, O' i → O i) {x : t.V} (hk : k + (t.out k x).2.length ≤ n) {v : Value} (h : DenV ρ H O w (t.out k x).1 v) : DenV ρ' H' O' w (t.out (base + k) x).1 v := by
  cases t with
  | b y => exact B.shiftV sh hO hk h
  | st bs =>
    simp only [Ty.out] at hk h ⊢
    unfold DenV at *
    obtain ⟨cs, h1, h2⟩ := h
    exact ⟨cs, h1, BL.shift sh hO hk h2⟩

theorem AL.shift {base n : Nat} (sh : Shift base n ρ H ρ' H') : ∀ {ts : List Ty} (_ : ts.all Ty.flat = true ∨ ∀ i, O' i → O i) {k : Nat} {x : AL ts} {vs : List Value}, k + (AL.out k ts x).2.length ≤ n → DenL ρ H O w (AL.out k ts x).1 vs → DenL ρ' H' O' w (AL.out (base + k) ts x).1 vs
  | [], _, k, x, vs, hk, h => by rw [DenL_nil.1 h]; exact DenL_nil.2 rfl
  | b :: bs, hO, k, (x, y), cs, hk, h => by
    simp only [AL.out, List.length_append] at hk h ⊢
    obtain ⟨c1, c2, rfl, h1, h2⟩ := DenL_cons.1 h
    have hO1 : b.flat = true ∨ ∀ i, O' i → O i := hO.imp (fun h => by simp only [List.all_cons, Bool.and_eq_true] at h; exact h.1) (fun h => h)
    have hO2 : bs.all Ty.flat = true ∨ ∀ i, O' i → O i := hO.imp (fun h => by simp only [List.all_cons, Bool.and_eq_true] at h; exact h.2) (fun h => h)
    refine DenL_cons.2 ⟨c1, c2, rfl, Ty.shift sh hO1 (by omega) h1, ?_⟩
    rw [Ty.out_len (base + k) k, Nat.add_assoc]
    exact AL.shift sh hO2 (by omega) h2

theorem AL.out_avs : ∀ {ts : List Ty} {x : AL ts} (k : Nat), (AL.out k ts x).1.length = ts.length
  | [], _, _ => rfl
  | b :: bs, (x, y), k => by simp [AL.out, AL.out_avs]

theorem res_shift {base : Nat} {rs : List Ty} (hO : rs.all Ty.flat = true ∨ ∀ i, O' i → O i) {y : AL rs} (sh : Shift base (AL.res rs y).1.length ρ H ρ' H') {v : Value} (h : DenV ρ H O w (AL.res rs y).2 v) : DenV ρ' H' O' w (oneOf (AL.out base rs y).1) v := by
  unfold AL.res at h sh
  simp only [] at h sh
  have hl : ∀ vs, DenL ρ H O w (AL.out 0 rs y).1 vs → DenL ρ' H' O' w (AL.out (base + 0) rs y).1 vs := fun vs => AL.shift (k := 0) (x := y) (O := O) (O' := O') (w := w) sh hO (by omega)
  have l0 := AL.out_avs (x := y) 0
  have l1 := AL.out_avs (x := y) base
  generalize (AL.out 0 rs y).1 = azs at *
  rw [Nat.add_zero] at hl
  generalize (AL.out base rs y).1 = bs at *
  unfold oneOf at h ⊢
  split at h
  · rename_i a
    cases bs with
    | nil => simp at l0 l1; omega
    | cons b bs =>
      cases bs with
      | nil =>
        have := hl [v] (DenL_cons.2 ⟨v, [], rfl, h, DenL_nil.2 rfl⟩)
        obtain ⟨v', rest, e, h1, _⟩ := DenL_cons.1 this
        cases e
        exact h1
      | cons c cs => simp at l0 l1; omega
  · rename_i hne
    split
    · rename_i b
      cases azs with
      | nil => simp at l0 l1; omega
      | cons a azs =>
        cases azs with
        | nil => exact (hne a rfl).elim
        | cons c cs => simp at l0 l1; omega
    · unfold DenV at *
      obtain ⟨us, h1, h2⟩ := h
      exact ⟨us, h1, hl us h2⟩

/-- One function's summary tells the truth. -/
def SOk1 (P : Program) (Z : Glob) (f : FuncId) (s : Nat → List AV → RM Res) : Prop :=
  ∀ (base : Nat) (args : List AV) (H : AHeap) (q : Res), (s base args).eval H = some q → Needs q.need → ∀ (ρ : Nat → Value) (G : Nat → Prop) (w : World) (vs : List Value),
    (∀ i, i < q.new.length → H (base + i) = none) → ZAt Z ρ H w → Sat ρ H G w → DenL ρ H (Hot ρ H G) w args vs →
    Calls P f vs.toArray w fun en w' => ∃ v, en = .returned v ∧ Good ρ H G w (resH H q.up base q.new) (q.r base) v w'

theorem FnOk.sum {f : FuncId} {ts rs : List Ty} {pre : AL ts → List Prop} {F : AL ts → AL rs} (h : FnOk P Z f ts rs pre F) : SOk1 P Z f (sumOf ts rs pre F) := by
  intro base args H q hq hn ρ G w vs hfresh hz hs hd
  unfold sumOf at hq
  obtain ⟨args1, hq, h1⟩ := RM.frzA_ok hq hs
  split at hq
  · rename_i args2 h2
    split at hq
    · rename_i x h3
      rw [Bool.cond_eq_ite] at hq
      split at hq
      · rename_i hflat
        simp only [RM.eval, Option.some.injEq] at hq
        subst hq
        have hemp : ∀ b, ¬ Hot (fun _ => undef) (fun _ => none) (fun _ => False) b := by
          rintro b (⟨id, o, ho, _⟩ | hb)
          · cases ho
          · exact hb
        have E : Emb (fun _ => none) ρ H (fun _ => False) (fun _ => undef) (fun _ => none) (Hot (fun _ => undef) (fun _ => none) (fun _ => False)) := ⟨fun i j hij => (by cases hij), fun b hb => (hemp b hb).elim⟩
        have hd2 := rnL_den E h2 (h1 vs hd)
        have hd3 : DenL (fun _ => undef) (fun _ => none) (Hot (fun _ => undef) (fun _ => none) (fun _ => False)) w (AL.av ts x) vs := AL.rd_ok h3 hd2
        refine (h x (AL.okL hd3) hn (fun _ => False) w vs (fun b hb => hb.elim) hz.1 hd3).mono ?_
        rintro e w' ⟨v, he, ρ1, g1, g2, g3, g4⟩
        refine ⟨v, he, ?_⟩
        simp only []
        have hflatR : rs.all Ty.flatR = true := by
          rw [List.all_eq_true] at hflat ⊢
          intro t ht
          have := hflat t ht
          cases t with
          | b y => cases y <;> first | rfl | exact this | cases this
          | st bs =>
            change bs.all B.flat = true at this
            show bs.all B.flatR = true
            rw [List.all_eq_true] at this ⊢
            intro b hb
            have := this b hb
            cases b <;> first | rfl | exact this | cases this
        have hpl := AL.out_plain hflatR (x := F x) (base := 0)
        have hobjs : (AL.res rs (F x)).1 = (AL.out 0 rs (F x)).2 := rfl
        rw [← hobjs] at hpl
        generalize hL : (AL.res rs (F x)).1 = L at *
        have hnew : ∀ b, Own ρ1 (lk L) b → w.heap.size ≤ b := fun b hb => by
          rcases g3.hot b (.inl hb) with h5 | h5
          · exact (hemp b h5).elim
          · exact h5
        let ρ2 : Nat → Value := fun id => if base ≤ id ∧ id < base + L.length then ρ1 (id - base) else ρ id
        let H2 := resH H [] base L
        have hH2 : ∀ id, H2 id = if base ≤ id ∧ id < base + L.length then L[id - base]? else H id := fun id => rfl
        have sh : Shift base L.length ρ1 (lk L) ρ2 H2 := ⟨fun i hi => by simp only [ρ2]; rw [if_pos (by omega)]; congr 1; omega, fun i hi => by rw [hH2, if_pos (by omega)]; simp [lk]⟩
        have hold : ∀ {id : Nat} {o : AObj}, H id = some o → ¬ (base ≤ id ∧ id < base + L.length) := fun {id o} ho hc => by
          have := hfresh (id - base) (by simp only []; omega)
          rw [show base + (id - base) = id from by omega, ho] at this
          cases this
        have hown2 : ∀ b, Own ρ2 H2 b → Own ρ1 (lk L) b ∨ Own ρ H b := by
          rintro b ⟨id, o, ho, ha, hb⟩
          rw [hH2] at ho
          simp only [ρ2] at hb
          split at ho
          · rename_i hc
            rw [if_pos hc] at hb
            exact .inl ⟨id - base, o, ho, ha, hb⟩
          · rename_i hc
            rw [if_neg hc] at hb
            exact .inr ⟨id, o, ho, ha, hb⟩
        have heap : ∀ b, b < w.heap.size → w'.heap[b]? = w.heap[b]? := fun b hb => g4.heap b hb (fun ho => hemp b (.inl ho))
        have hsize : w.heap.size ≤ w'.heap.size := g3.size
        have st : Step ρ H (Hot ρ H G) w ρ2 H2 (Hot ρ2 H2 G) w' := by
          refine ⟨fun id o ho => ?_, fun id o ho => ?_, fun b hb => ?_, fun b hb _ => heap b hb, hsize⟩
          · simp only [ρ2]; rw [if_neg (hold ho)]
          · exact ⟨o, by rw [hH2, if_neg (hold ho)]; exact ho, fun c' e' hc => ⟨c', e', hc, rfl, rfl⟩⟩
          · rcases hb with hb | hb
            · rcases hown2 b hb with h5 | h5
              · exact .inr (hnew b h5)
              · exact .inl (.inl h5)
            · exact .inl (.inr hb)
        refine ⟨ρ2, ⟨fun id o ho => ?_, fun i j oi oj b hi hj ai aj bi bj => ?_, fun b hb hG => ?_, fun b hb => Nat.lt_of_lt_of_le (hs.low b hb) hsize⟩, res_shift (.inl hflat) (O := Hot ρ1 (lk L) (fun _ => False)) (hL ▸ sh) (by rw [hL]; exact g2), st, ⟨g4.os, g4.tape, g4.output, fun b hb _ => heap b hb⟩⟩
        · change H2 id = some o at ho
          rw [hH2] at ho
          simp only [ρ2]
          split at ho
          · rename_i hc
            rw [if_pos hc]
            have hobj := g1.obj (id - base) o ho
            obtain ⟨r, y, e', hr, rfl⟩ := hpl o (List.mem_of_getElem? ho)
            obtain ⟨a0, cap, k0, k1, k2, k3⟩ := hobj
            refine ⟨a0, cap, k0, k1, k2, k3.imp (fun h => h) ?_⟩
            rintro ⟨b, f0, cells, fr, us, k4, k5, k6, k7, k8⟩
            exact ⟨b, f0, cells, fr, us, k4, k5, k6, k7, fun i j hi hj => ⟨(k8 i j hi hj).1, RK.flat_den hr hj (k8 i j hi hj).2⟩⟩
          · rename_i hc
            rw [if_neg hc]
            have hobj := hs.obj id o ho
            refine hobj.step st (fun b ha hb => heap b ?_)
            exact own_lt hs ⟨id, o, ho, ha, hb⟩
        · change H2 i = some oi at hi
          change H2 j = some oj at hj
          rw [hH2] at hi hj
          simp only [ρ2] at bi bj
          split at hi
          · rename_i ci
            rw [if_pos ci] at bi
            have o1 : Own ρ1 (lk L) b := ⟨_, oi, hi, ai, bi⟩
            split at hj
            · rename_i cj
              rw [if_pos cj] at bj
              have := g1.inj (i - base) (j - base) oi oj b hi hj ai aj bi bj
              omega
            · rename_i cj
              rw [if_neg cj] at bj
              have := own_lt hs ⟨j, oj, hj, aj, bj⟩
              have := hnew b o1
              omega
          · rename_i ci
            rw [if_neg ci] at bi
            have h6 := own_lt hs ⟨i, oi, hi, ai, bi⟩
            split at hj
            · rename_i cj
              rw [if_pos cj] at bj
              have := hnew b ⟨_, oj, hj, aj, bj⟩
              omega
            · rename_i cj
              rw [if_neg cj] at bj
              exact hs.inj i j oi oj b hi hj ai aj bi bj
        · rcases hown2 b hb with h5 | h5
          · have := hnew b h5
            have := hs.low b hG
            omega
          · exact hs.apart b h5 hG
      · simp [RM.eval] at hq
    · simp [RM.eval] at hq
  · simp [RM.eval] at hq

/-! ### a table of summaries -/
abbrev Tab := List (FuncId × (Nat → List AV → RM Res))

def Tab.get : Tab → FuncId → Option (Nat → List AV → RM Res)
  | [], _ => none
  | (g, s) :: t, f => bif g.beq f then some s else Tab.get t f

def Tab.sum (t : Tab) : SummB := fun base f args => match t.get f with
  | some s => s base args
  | none => .fail "no summary"

def Tab.Ok (P : Program) (Z : Glob) (t : Tab) : Prop := ∀ x ∈ t, SOk1 P Z x.1 x.2

theorem Tab.get_mem : ∀ {t : Tab} {f : FuncId} {s : Nat → List AV → RM Res}, t.get f = some s → (f, s) ∈ t
  | [], f, s, h => by simp [Tab.get] at h
  | (g, s') :: t, f, s, h => by
    simp only [Tab.get, Bool.cond_eq_ite] at h
    split at h
    · rename_i hg
      obtain rfl := Nat.eq_of_beq_eq_true hg
      cases h
      simp
    · exact List.mem_cons_of_mem _ (Tab.get_mem h)

theorem Tab.sOk {t : Tab} (h : t.Ok P Z) : SOk P t.sum Z := by
  intro base f args H q _ hq hn ρ G w vs hf hz hs hd
  unfold Tab.sum at hq
  split at hq
  · rename_i s hg
    exact h _ (Tab.get_mem hg) base args H q hq hn ρ G w vs hf hz hs hd
  · simp [RM.eval] at hq

theorem Tab.Ok.nil : Tab.Ok P Z [] := fun x hx => by simp at hx
theorem Tab.Ok.cons {f : FuncId} {s : Nat → List AV → RM Res} {t : Tab} (h : SOk1 P Z f s) (ht : Tab.Ok P Z t) : Tab.Ok P Z ((f, s) :: t) := by
  intro x hx
  rcases List.mem_cons.1 hx with rfl | hx
  · exact h
  · exact ht x hx
end
end Go.Sx

/-! Functions that may hand out rows they were handed: what they are handed stands still from then on. -/
namespace Go.Sx
open Go

def frzP1 (a : AV) (ids : List Nat) (k : AV → List Nat → RM Res) : RM Res :=
  match a with
  | .vec id => .look id fun
    | some (.vec c _) => k (.s (.ro c)) (id :: ids)
    | _ => .fail "frz"
  | a => k a ids

def frzPL : List AV → List Nat → (List AV → List Nat → RM Res) → RM Res
  | [], ids, k => k [] ids
  | a :: azs, ids, k => frzP1 a ids fun a' ids => frzPL azs ids fun azs' ids => k (a' :: azs') ids

def frzPV (a : AV) (ids : List Nat) (k : AV → List Nat → RM Res) : RM Res :=
  match a with
  | .agg segs => frzPL segs ids fun s ids => k (.agg s) ids
  | a => frzP1 a ids k

def frzPA : List AV → List Nat → (List AV → List Nat → RM Res) → RM Res
  | [], ids, k => k [] ids
  | a :: azs, ids, k => frzPV a ids fun a' ids => frzPA azs ids fun azs' ids => k (a' :: azs') ids

/-- The summary of a contract whose answers may share memory with what it was handed. -/
def sumR (ts rs : List Ty) (pre : AL ts → List Prop) (F : AL ts → AL rs) : Nat → List AV → RM Res := fun _ args =>
  frzPA args [] fun args ids => match allM (rn (fun _ => none) 20) args with
    | some args => (match AL.rd ts args with
      | some x => bif rs.all Ty.flatR then .ret ⟨pre x, ids.map fun i => (i, .dead), (AL.res rs (F x)).1, fun base => oneOf (AL.out base rs (F x)).1⟩ else .fail "sum: not flat"
      | none => .fail "sum: arguments")
    | none => .fail "sum: names"

section
variable {ρ ρ' : Nat → Value} {H H' : AHeap} {G O O' : Nat → Prop} {w w' : World} {P : Program} {Z : Glob}

/-- What is frozen on the way. -/
structure Frzn (ρ : Nat → Value) (H : AHeap) (G : Nat → Prop) (ids ids' : List Nat) : Prop where
  sub : ∀ i ∈ ids, i ∈ ids'
  vec : ∀ i ∈ ids', i ∈ ids ∨ ∃ c e, H i = some (.vec c e)

abbrev Colder (ρ : Nat → Value) (H : AHeap) (G : Nat → Prop) (ids : List Nat) (O : Nat → Prop) : Prop := (∀ b, O b → Hot ρ H G b) ∧ ∀ i ∈ ids, ∀ b, blk (ρ i) = some b → ¬ O b

theorem Frzn.trans {a b c : List Nat} (h : Frzn ρ H G a b) (k : Frzn ρ H G b c) : Frzn ρ H G a c :=
  ⟨fun i hi => k.sub i (h.sub i hi), fun i hi => (k.vec i hi).elim (fun h1 => h.vec i h1) .inr⟩

theorem frzP1_ok {a : AV} {ids : List Nat} {k : AV → List Nat → RM Res} {q : Res} (h : (frzP1 a ids k).eval H = some q) (hs : Sat ρ H G w) :
    ∃ a' ids', (k a' ids').eval H = some q ∧ Frzn ρ H G ids ids' ∧ ∀ O, Colder ρ H G ids' O → (∀ v, DenV ρ H (Hot ρ H G) w a v → DenV ρ H O w a' v) ∧ (∀ cs, DenC ρ H (Hot ρ H G) w a cs → DenC ρ H O w a' cs) := by
  have stp : ∀ O, Colder ρ H G ids O → Step ρ H (Hot ρ H G) w ρ H O w := fun O hO => ⟨fun _ _ _ => rfl, fun _ o h => ⟨o, h, fun c' e' e => ⟨c', e', e, rfl, rfl⟩⟩, fun b hb => .inl (hO.1 b hb), fun _ _ _ => rfl, Nat.le_refl _⟩
  unfold frzP1 at h
  split at h
  · rename_i id
    simp only [RM.eval] at h
    split at h
    · rename_i c e hc
      obtain ⟨r, cap, h0, h1, h2, h3⟩ := hs.obj id _ hc
      refine ⟨_, _, h, ⟨fun i hi => by simp [hi], fun i hi => ?_⟩, fun O hO => ?_⟩
      · rcases List.mem_cons.1 hi with rfl | hi
        · exact .inr ⟨c, e, hc⟩
        · exact .inl hi
      · have key : ∀ v, Den1 ρ H (Hot ρ H G) w (.vec id) v → DenS O w (.ro c) v := by
          intro v hv
          unfold Den1 at hv
          obtain ⟨_, o, ho, h4⟩ := hv
          rw [hc] at ho
          cases ho
          rw [h4 c e rfl]
          have hcold := hO.2 id (by simp)
          rw [h0] at hcold ⊢
          rcases h3 with h3 | ⟨b, f, cells, fr, us, rfl, h5, h6, h7, h8⟩
          · exact .ro c r cap (fun _ _ => undef) 0 0 h1 h2 (fun h => by omega) (fun i j hi hj => by omega) (fun i j hi hj => by omega)
          · by_cases hcap : cap = 0
            · exact .ro c _ cap (fun _ _ => undef) 0 0 h1 h2 (fun h => by omega) (fun i j hi hj => by omega) (fun i j hi hj => by omega)
            · refine .ro c _ cap us b f h1 h2 (fun _ => ⟨rfl, hcold b (by simp [blk, hcap]), (Array.getElem?_eq_some_iff.1 h5).1⟩) (fun i j hi hj => ?_) (fun i j hi hj => (h8 i j hi hj).2.less hO.1)
              have := (h8 i j hi hj).1
              simp only [World.cell?, h5]
              simpa using this
        exact ⟨fun v hv => DenV_s (key v (by unfold DenV at hv; exact hv)), fun cs hv => by unfold DenC at *; obtain ⟨u, rfl, h9⟩ := hv; exact ⟨u, rfl, key u h9⟩⟩
    · simp [RM.eval] at h
  · exact ⟨_, _, h, ⟨fun i hi => hi, fun i hi => .inl hi⟩, fun O hO => ⟨fun v hv => DenV.step (stp O hO) _ v hv, fun cs hv => DenC.step (stp O hO) _ cs hv⟩⟩

theorem Colder.sub {a b : List Nat} (h : ∀ i ∈ a, i ∈ b) (k : Colder ρ H G b O) : Colder ρ H G a O := ⟨k.1, fun i hi => k.2 i (h i hi)⟩

theorem frzPL_ok : ∀ {azs : List AV} {ids : List Nat} {k : List AV → List Nat → RM Res} {q : Res}, (frzPL azs ids k).eval H = some q → Sat ρ H G w →
    ∃ azs' ids', (k azs' ids').eval H = some q ∧ Frzn ρ H G ids ids' ∧ ∀ O, Colder ρ H G ids' O → ∀ cs, DenSegs ρ H (Hot ρ H G) w azs cs → DenSegs ρ H O w azs' cs
  | [], ids, k, q, h, hs => ⟨[], ids, h, ⟨fun _ h => h, fun _ h => .inl h⟩, fun O _ cs hd => by rw [DenSegs_nil.1 hd]; exact DenSegs_nil.2 rfl⟩
  | a :: azs, ids, k, q, h, hs => by
    obtain ⟨a', i1, h1, f1, h2⟩ := frzP1_ok h hs
    obtain ⟨azs', i2, h3, f2, h4⟩ := frzPL_ok h1 hs
    refine ⟨a' :: azs', i2, h3, f1.trans f2, fun O hO cs hd => ?_⟩
    obtain ⟨c1, c2, rfl, h6, h7⟩ := DenSegs_cons.1 hd
    exact DenSegs_cons.2 ⟨c1, c2, rfl, (h2 O (Colder.sub f2.sub hO)).2 c1 h6, h4 O hO c2 h7⟩

theorem frzPV_ok {a : AV} {ids : List Nat} {k : AV → List Nat → RM Res} {q : Res} (h : (frzPV a ids k).eval H = some q) (hs : Sat ρ H G w) :
    ∃ a' ids', (k a' ids').eval H = some q ∧ Frzn ρ H G ids ids' ∧ ∀ O, Colder ρ H G ids' O → ∀ v, DenV ρ H (Hot ρ H G) w a v → DenV ρ H O w a' v := by
  unfold frzPV at h
  split at h
  · obtain ⟨azs', i1, h1, f1, h2⟩ := frzPL_ok h hs
    refine ⟨_, i1, h1, f1, fun O hO v hd => ?_⟩
    unfold DenV at *
    obtain ⟨cs, h3, h4⟩ := hd
    exact ⟨cs, h3, h2 O hO cs h4⟩
  · obtain ⟨a', i1, h1, f1, h2⟩ := frzP1_ok h hs
    exact ⟨a', i1, h1, f1, fun O hO => (h2 O hO).1⟩

theorem frzPA_ok : ∀ {azs : List AV} {ids : List Nat} {k : List AV → List Nat → RM Res} {q : Res}, (frzPA azs ids k).eval H = some q → Sat ρ H G w →
    ∃ azs' ids', (k azs' ids').eval H = some q ∧ Frzn ρ H G ids ids' ∧ ∀ O, Colder ρ H G ids' O → ∀ cs, DenL ρ H (Hot ρ H G) w azs cs → DenL ρ H O w azs' cs
  | [], ids, k, q, h, hs => ⟨[], ids, h, ⟨fun _ h => h, fun _ h => .inl h⟩, fun O _ cs hd => by rw [DenL_nil.1 hd]; exact DenL_nil.2 rfl⟩
  | a :: azs, ids, k, q, h, hs => by
    obtain ⟨a', i1, h1, f1, h2⟩ := frzPV_ok h hs
    obtain ⟨azs', i2, h3, f2, h4⟩ := frzPA_ok h1 hs
    refine ⟨a' :: azs', i2, h3, f1.trans f2, fun O hO cs hd => ?_⟩
    obtain ⟨c1, c2, rfl, h6, h7⟩ := DenL_cons.1 hd
    exact DenL_cons.2 ⟨c1, c2, rfl, h2 O (Colder.sub f2.sub hO) c1 h6, h4 O hO c2 h7⟩

theorem findUp_dead : ∀ (ids : List Nat) (j : Nat), findUp (ids.map fun i => (i, AObj.dead)) j = if j ∈ ids then some .dead else none
  | [], j => rfl
  | i :: ids, j => by
    simp only [List.map_cons, findUp, findUp_dead ids j]
    by_cases h : j ∈ ids
    · simp [h]
    · by_cases h2 : j = i
      · subst h2; simp [h]
      · simp [h, h2]

theorem FnOk.sumR {f : FuncId} {ts rs : List Ty} {pre : AL ts → List Prop} {F : AL ts → AL rs} (h : FnOk P Z f ts rs pre F) : SOk1 P Z f (sumR ts rs pre F) := by
  intro base args H q hq hn ρ G w vs hfresh hz hs hd
  unfold Sx.sumR at hq
  obtain ⟨args1, ids, hq, hf, h1⟩ := frzPA_ok hq hs
  split at hq
  · rename_i args2 h2
    split at hq
    · rename_i x h3
      rw [Bool.cond_eq_ite] at hq
      split at hq
      · rename_i hflat
        simp only [RM.eval, Option.some.injEq] at hq
        subst hq
        have hvec : ∀ i ∈ ids, ∃ c e, H i = some (.vec c e) := fun i hi => (hf.vec i hi).elim (fun h => by simp at h) (fun h => h)
        let Gc : Nat → Prop := fun b => Hot ρ H G b ∧ ∀ i ∈ ids, blk (ρ i) ≠ some b
        have hot0 : ∀ b, Hot (fun _ => undef) (fun _ => none) Gc b → Gc b := by
          rintro b (⟨id, o, ho, _⟩ | hb)
          · cases ho
          · exact hb
        have hcold : Colder ρ H G ids (Hot (fun _ => undef) (fun _ => none) Gc) := ⟨fun b hb => (hot0 b hb).1, fun i hi b hb hO => (hot0 b hO).2 i hi hb⟩
        have E : Emb (fun _ => none) ρ H (Hot (fun _ => undef) (fun _ => none) Gc) (fun _ => undef) (fun _ => none) (Hot (fun _ => undef) (fun _ => none) Gc) := ⟨fun i j hij => (by cases hij), fun b hb => hb⟩
        have hd2 := rnL_den E h2 (h1 _ hcold vs hd)
        have hd3 : DenL (fun _ => undef) (fun _ => none) (Hot (fun _ => undef) (fun _ => none) Gc) w (AL.av ts x) vs := AL.rd_ok h3 hd2
        refine (h x (AL.okL hd3) hn Gc w vs (fun b hb => hot_lt hs hb.1) hz.1 hd3).mono ?_
        rintro e w' ⟨v, he, ρ1, g1, g2, g3, g4⟩
        refine ⟨v, he, ?_⟩
        simp only []
        have hpl := AL.out_plain hflat (x := F x) (base := 0)
        have hobjs : (AL.res rs (F x)).1 = (AL.out 0 rs (F x)).2 := rfl
        rw [← hobjs] at hpl
        generalize hL : (AL.res rs (F x)).1 = L at *
        have hnew : ∀ b, Own ρ1 (lk L) b → w.heap.size ≤ b := fun b hb => by
          rcases g3.hot b (.inl hb) with h5 | h5
          · exact (g1.apart b hb (hot0 b h5)).elim
          · exact h5
        let ρ2 : Nat → Value := fun id => if base ≤ id ∧ id < base + L.length then ρ1 (id - base) else ρ id
        let H2 := resH H (ids.map fun i => (i, AObj.dead)) base L
        have hold : ∀ {id : Nat} {o : AObj}, H id = some o → ¬ (base ≤ id ∧ id < base + L.length) := fun {id o} ho hc => by
          have := hfresh (id - base) (by simp only []; omega)
          rw [show base + (id - base) = id from by omega, ho] at this
          cases this
        have hH2 : ∀ id, H2 id = if id ∈ ids then some .dead else if base ≤ id ∧ id < base + L.length then L[id - base]? else H id := fun id => by
          simp only [H2, resH, findUp_dead]
          split
          · rename_i hx
            split at hx
            · rename_i hi; cases hx; rw [if_pos hi]
            · cases hx
          · rename_i hx
            split at hx
            · cases hx
            · rename_i hi; rw [if_neg hi]
        have hidn : ∀ id, id ∈ ids → ¬ (base ≤ id ∧ id < base + L.length) := fun id hi => by
          obtain ⟨c, e, hce⟩ := hvec id hi
          exact hold hce
        have sh : Shift base L.length ρ1 (lk L) ρ2 H2 := ⟨fun i hi => by simp only [ρ2]; rw [if_pos (by omega)]; congr 1; omega, fun i hi => by
          rw [hH2, if_neg (fun hm => hidn _ hm ⟨by omega, by omega⟩), if_pos (by omega)]; simp [lk]⟩
        have cases2 : ∀ {id : Nat} {o : AObj}, H2 id = some o → o.alive = true → (base ≤ id ∧ id < base + L.length ∧ L[id - base]? = some o ∧ ρ2 id = ρ1 (id - base)) ∨ (id ∉ ids ∧ H id = some o ∧ ρ2 id = ρ id) := by
          intro id o ho ha
          rw [hH2] at ho
          split at ho
          · cases ho; cases ha
          · rename_i hi
            split at ho
            · rename_i hc
              exact .inl ⟨hc.1, hc.2, ho, by simp only [ρ2]; rw [if_pos hc]⟩
            · rename_i hc
              exact .inr ⟨hi, ho, by simp only [ρ2]; rw [if_neg hc]⟩
        have notf : ∀ {id : Nat} {o : AObj} {b : Nat}, id ∉ ids → H id = some o → o.alive = true → blk (ρ id) = some b → ∀ i ∈ ids, blk (ρ i) ≠ some b := by
          intro id o b hid ho ha hb i hi hb2
          obtain ⟨c, e, hce⟩ := hvec i hi
          have := hs.inj id i o _ b ho hce ha rfl hb hb2
          exact hid (this ▸ hi)
        have hown2 : ∀ b, Own ρ2 H2 b → Own ρ1 (lk L) b ∨ (Own ρ H b ∧ ∀ i ∈ ids, blk (ρ i) ≠ some b) := by
          rintro b ⟨id, o, ho, ha, hb⟩
          rcases cases2 ho ha with ⟨_, _, h5, h6⟩ | ⟨h5, h6, h7⟩
          · rw [h6] at hb
            exact .inl ⟨id - base, o, h5, ha, hb⟩
          · rw [h7] at hb
            exact .inr ⟨⟨id, o, h6, ha, hb⟩, notf h5 h6 ha hb⟩
        have hhot2 : ∀ b, Hot ρ2 H2 G b → Hot ρ1 (lk L) Gc b := by
          rintro b (hb | hb)
          · rcases hown2 b hb with h5 | h5
            · exact .inl h5
            · exact .inr ⟨.inl h5.1, h5.2⟩
          · refine .inr ⟨.inr hb, fun i hi hbk => ?_⟩
            obtain ⟨c, e, hce⟩ := hvec i hi
            exact hs.apart b ⟨i, _, hce, rfl, hbk⟩ hb
        have heap : ∀ b, b < w.heap.size → w'.heap[b]? = w.heap[b]? := fun b hb => g4.heap b hb (fun ⟨id, o, ho, _⟩ => by cases ho)
        have hsize : w.heap.size ≤ w'.heap.size := g3.size
        have st : Step ρ H (Hot ρ H G) w ρ2 H2 (Hot ρ2 H2 G) w' := by
          refine ⟨fun id o ho => ?_, fun id o ho => ?_, fun b hb => ?_, fun b hb _ => heap b hb, hsize⟩
          · simp only [ρ2]; rw [if_neg (hold ho)]
          · by_cases hi : id ∈ ids
            · exact ⟨.dead, by rw [hH2, if_pos hi], fun c' e' hc => by cases hc⟩
            · exact ⟨o, by rw [hH2, if_neg hi, if_neg (hold ho)]; exact ho, fun c' e' hc => ⟨c', e', hc, rfl, rfl⟩⟩
          · rcases hb with hb | hb
            · rcases hown2 b hb with h5 | h5
              · exact .inr (hnew b h5)
              · exact .inl (.inl h5.1)
            · exact .inl (.inr hb)
        refine ⟨ρ2, ⟨fun id o ho => ?_, fun i j oi oj b hi hj ai aj bi bj => ?_, fun b hb hG => ?_, fun b hb => Nat.lt_of_lt_of_le (hs.low b hb) hsize⟩, res_shift (.inr hhot2) (O := Hot ρ1 (lk L) Gc) (hL ▸ sh) (by rw [hL]; exact g2), st, ⟨g4.os, g4.tape, g4.output, fun b hb _ => heap b hb⟩⟩
        · cases hal : o.alive
          · cases o with
            | dead => trivial
            | own _ _ => cases hal
            | vec _ _ => cases hal
            | map _ _ => cases hal
          · rcases cases2 ho hal with ⟨_, _, h5, h6⟩ | ⟨h5, h6, h7⟩
            · rw [h6]
              have hobj := g1.obj (id - base) o h5
              obtain ⟨r, y, e', hr, rfl⟩ := hpl o (List.mem_of_getElem? h5)
              obtain ⟨a0, cap, k0, k1, k2, k3⟩ := hobj
              refine ⟨a0, cap, k0, k1, k2, k3.imp (fun h => h) ?_⟩
              rintro ⟨b, f0, cells, fr, us, k4, k5, k6, k7, k8⟩
              exact ⟨b, f0, cells, fr, us, k4, k5, k6, k7, fun i j hi hj => ⟨(k8 i j hi hj).1, RK.flat_den hr hj (k8 i j hi hj).2⟩⟩
            · rw [h7]
              exact (hs.obj id o h6).step st (fun b ha hb => heap b (own_lt hs ⟨id, o, h6, ha, hb⟩))
        · rcases cases2 hi ai with ⟨i1, i2, i3, i4⟩ | ⟨i1, i2, i3⟩
          · rw [i4] at bi
            rcases cases2 hj aj with ⟨j1, j2, j3, j4⟩ | ⟨j1, j2, j3⟩
            · rw [j4] at bj
              have := g1.inj (i - base) (j - base) oi oj b i3 j3 ai aj bi bj
              omega
            · rw [j3] at bj
              have := own_lt hs ⟨j, oj, j2, aj, bj⟩
              have := hnew b ⟨_, oi, i3, ai, bi⟩
              omega
          · rw [i3] at bi
            rcases cases2 hj aj with ⟨j1, j2, j3, j4⟩ | ⟨j1, j2, j3⟩
            · rw [j4] at bj
              have := own_lt hs ⟨i, oi, i2, ai, bi⟩
              have := hnew b ⟨_, oj, j3, aj, bj⟩
              omega
            · rw [j3] at bj
              exact hs.inj i j oi oj b i2 j2 ai aj bi bj
        · rcases hown2 b hb with h5 | h5
          · have := hnew b h5
            have := hs.low b hG
            omega
          · exact hs.apart b h5.1 hG
      · simp [RM.eval] at hq
    · simp [RM.eval] at hq
  · simp [RM.eval] at hq
end
end Go.Sx

/-! Loops, and the whole of a function. -/
namespace Go.Sx
open Go

/-- Slots, those that are not told being of no matter. -/
def slF : Nat → Nat → List (Nat × AV) → List AV
  | 0, _, _ => []
  | n + 1, i, [] => .s .junk :: slF n (i + 1) []
  | n + 1, i, (j, a) :: l => bif j.beq i then a :: slF n (i + 1) l else .s .junk :: slF n (i + 1) ((j, a) :: l)
def sl (n : Nat) (l : List (Nat × AV)) : List AV := slF n 0 l

def firstRegion : Code → Option Nat
  | .region id _ _ => some id
  | .seq a b => match firstRegion a with
    | some i => some i
    | none => firstRegion b
  | .cond _ a b => match firstRegion a with
    | some i => some i
    | none => firstRegion b
  | .block _ c | .loop c | .scope c => firstRegion c
  | _ => none

/-- A loop's head, by its first region. -/
def headOf (key : Nat) : Code → List Item → Option (List Item)
  | .seq a b, k => match headOf key a (.code b :: k) with
    | some r => some r
    | none => headOf key b k
  | .cond _ a b, k => match headOf key a k with
    | some r => some r
    | none => headOf key b k
  | .block id c, k => headOf key c (.inBlock id :: k)
  | .scope c, k => headOf key c (.inScope c :: k)
  | .loop c, k => match firstRegion c with
    | some i => bif i.beq key then some (.code c :: .inLoop c :: k) else headOf key c (.inLoop c :: k)
    | none => headOf key c (.inLoop c :: k)
  | _, _ => none

def hd (fn : Func) (key : Nat) : List Item := (headOf key (fn.body.getD .skip) []).getD []

/-- A region, and what stands behind it. -/
def regionAt (key : Nat) : Code → List Item → Option (List Item)
  | .region id ops d, k => bif id.beq key then some (.code (.region id ops d) :: k) else none
  | .seq a b, k => match regionAt key a (.code b :: k) with
    | some r => some r
    | none => regionAt key b k
  | .cond _ a b, k => match regionAt key a k with
    | some r => some r
    | none => regionAt key b k
  | .block id c, k => regionAt key c (.inBlock id :: k)
  | .scope c, k => regionAt key c (.inScope c :: k)
  | .loop c, k => regionAt key c (.inLoop c :: k)
  | _, _ => none

def hr (fn : Func) (key : Nat) : List Item := (regionAt key (fn.body.getD .skip) []).getD []

def keyOf (c : Cfg) : Nat := match c.todo with
  | .code x :: _ => keyIn c.stk ((firstRegion x).getD 0)
  | _ => 0

def nsOf : List (Nat × Norm) → Nat → Option Norm
  | [], _ => none
  | (i, n) :: l, k => bif i.beq k then some n else nsOf l k

def Tree.norm (ns : List (Nat × Norm)) : Tree → Tree
  | .need p t => .need p (t.norm ns)
  | .ite b t e => .ite b (t.norm ns) (e.norm ns)
  | .both p q t e => .both p q (t.norm ns) (e.norm ns)
  | .ret H v => .ret H v
  | .stuck w => .stuck w
  | .at c => match nsOf ns (keyOf c) with
    | some N => (match N.run c with
      | some c' => .at c'
      | none => .stuck "norm")
    | none => .stuck "no norm"

def stopOf : List (Nat × Norm) → Nat → Bool
  | [], _ => false
  | (i, _) :: l, k => i.beq k || stopOf l k

def inlOf : List FuncId → FuncId → Bool
  | [], _ => false
  | f :: l, g => f.beq g || inlOf l g

def run (P : Program) (S : SummB) (fn : Func) (ns : List (Nat × Norm)) (c : Cfg) (inl : List FuncId := []) : Tree := (exec P S fn (stopOf ns) (inlOf inl) 1000 true c).norm ns

/-! ### frames that wait -/
/-- A region's place, from an operation on. -/
def cal (fn : Func) (key i : Nat) : List Item :=
  match hr fn key with
  | .code (.region _ ops _) :: k => .inRegion ops (List.range' i (ops.size - i)) :: k
  | _ => []

/-- A frame that waits in a call. -/
def inCall (fn : Func) (f : Option FuncId) (key i : Nat) (round : Bool) (marks : Nat) : FrD := ⟨f, fn.ntmps, round, marks, none, cal fn key i, (key, i)⟩

/-- A range over a function, by its body's first region. -/
def rangeAt (key : Nat) : Code → List Item → Option (Lp × List Item)
  | .rangeFunc _ ps asg body, k => match firstReg body with
    | some i => bif i.beq key then some (⟨ps.toList, asg, body⟩, k) else none
    | none => bif key.beq 0 then some (⟨ps.toList, asg, body⟩, k) else none
  | .seq a b, k => match rangeAt key a (.code b :: k) with
    | some r => some r
    | none => rangeAt key b k
  | .cond _ a b, k => match rangeAt key a k with
    | some r => some r
    | none => rangeAt key b k
  | .block id c, k => rangeAt key c (.inBlock id :: k)
  | .scope c, k => rangeAt key c (.inScope c :: k)
  | .loop c, k => rangeAt key c (.inLoop c :: k)
  | _, _ => none

/-- A frame that ranges over a function. -/
def inRange (fn : Func) (f : Option FuncId) (key : Nat) (marks : Nat) : FrD :=
  match rangeAt key (fn.body.getD .skip) [] with
  | some p => ⟨f, fn.ntmps, false, marks, some (p.1, .ready), p.2, (key, 0)⟩
  | none => ⟨f, fn.ntmps, false, marks, none, [], (key, 0)⟩

section
variable {P : Program} {S : SummB} {Z : Glob} {X : Ctx} {K : List AObj → AV → Prop} {C C' : Cfg → Prop}

theorem nsOf_mem : ∀ {l : List (Nat × Norm)} {k : Nat} {N : Norm}, nsOf l k = some N → ∃ i, (i, N) ∈ l
  | [], k, N, h => by simp [nsOf] at h
  | (i, n) :: l, k, N, h => by
    simp only [nsOf, Bool.cond_eq_ite] at h
    split at h
    · cases h; exact ⟨i, by simp⟩
    · obtain ⟨j, hj⟩ := nsOf_mem h
      exact ⟨j, by simp [hj]⟩

theorem norm_holds {ns : List (Nat × Norm)} {f : FuncId} (h0 : ∀ x ∈ ns, ∀ id, x.2.m ≤ id → X.H id = none) : ∀ (t : Tree), (t.norm ns).Holds K (Safe P f X K) → t.Holds K (Safe P f X K)
  | .need p t, h => ⟨h.1, norm_holds h0 t h.2⟩
  | .ite b t e, h => ⟨fun hb => norm_holds h0 t (h.1 hb), fun hb => norm_holds h0 e (h.2 hb)⟩
  | .both _ _ t e, h => ⟨fun hp => norm_holds h0 t (h.1 hp), fun hq => norm_holds h0 e (h.2 hq)⟩
  | .ret H v, h => h
  | .stuck w, h => h
  | .at c, h => by
    unfold Tree.norm at h
    split at h
    · rename_i N hN
      split at h
      · rename_i c' hc
        obtain ⟨i, hi⟩ := nsOf_mem hN
        exact Norm.safe (h0 _ hi) hc h
      · exact h.elim
    · exact h.elim

theorem Tree.mono {t : Tree} (h : t.Holds K C) (hC : ∀ c, C c → C' c) : t.Holds K C' := by
  induction t with
  | need p t ih => exact ⟨h.1, ih h.2⟩
  | ite b t e ih1 ih2 => exact ⟨fun hb => ih1 (h.1 hb), fun hb => ih2 (h.2 hb)⟩
  | both p q t e ih1 ih2 => exact ⟨fun hp => ih1 (h.1 hp), fun hq => ih2 (h.2 hq)⟩
  | ret H v => exact h
  | stuck w => exact h
  | _ c => exact hC c h

theorem ends_eq {rs : List Ty} {y : AL rs} (y' : AL rs) {L : List AObj} {r : AV} (h : y = y') (hc : canR (rs.flatMap Ty.ces) L r = some (AL.res rs y')) : Ends rs y L r := by
  subst h; exact hc

/-- From a state on, till the end or a loop's head. -/
theorem safe_of_run {f : FuncId} {fn : Func} {ns : List (Nat × Norm)} {c : Cfg} {t : Tree} (hS : SOk P S Z) (hzc : ZCtx Z X) (hm : P.follows .mixedOrders = true) (hf : P.funcs[f]? = some fn) (h0 : ∀ x ∈ ns, ∀ id, x.2.m ≤ id → X.H id = none)
    {inl : List FuncId} (ht : run P S fn ns c inl = t) (h : t.Holds K (Safe P f X K)) : Safe P f X K c := by
  subst ht
  exact exec_ok hS hzc hm hf 1000 true c (norm_holds h0 _ h)

/-- A loop: what stands at its head, with a measure that falls. -/
theorem safe_loop {f : FuncId} {ι : Type} (c : ι → Cfg) (I : ι → Prop) (m : ι → Nat) (h : ∀ x, I x → (∀ y, I y → m y < m x → Safe P f X K (c y)) → Safe P f X K (c x)) : ∀ x, I x → Safe P f X K (c x) := by
  intro x
  induction hn : m x using Nat.strongRecOn generalizing x with
  | ind n ih =>
    intro hx
    subst hn
    exact h x hx (fun y hy hlt => ih (m y) hlt y rfl hy)
end
end Go.Sx

/-! A contract that says 'true', carried to what a row asks. -/
namespace Go.Sx
open Go Go.RowKit Go.ChangeShapes Go.WideShapes Go.ChangeAt

section
variable {H : Type} {enc : TypeId × Value → H} {P : Program} {W W' : World} {Z : Glob} {base : Nat} {ρ : Nat → Value} {Hh : AHeap} {O : Nat → Prop}

/-- Nothing that was there has turned. -/
structure Same (W W' : World) : Prop where
  os : W'.os = W.os
  output : W'.output = W.output
  heap : ∀ b, b < W.heap.size → W'.heap[b]? = W.heap[b]?

theorem Same.at (h : Same W W') {p : MemPlace} (hp : p.block < W.heap.size) : W.sameAt W' p := by
  have e := h.heap p.block hp
  cases p with
  | cell b o => exact (cell?_same (o := o) e)
  | map b => exact e

theorem trodAll_same {ts : List TypeId} (hl : laidOutB P = true) (hp : ts.all (fun t => P.readableRec t && decide (t < P.types.size)) = true) {sp' : Nat → Bool} (hs : Same W W') : ∀ {vs : List Value} {ds : List (DataW H)} {ps : List MemPlace},
    DataW.TrodAll enc P W 0 (fun _ => true) true ts vs ds ps → (∀ p ∈ ps, p.block < W.heap.size) → (∀ p ∈ ps, sp' p.block = true) → DataW.TrodAll enc P W' 0 sp' true ts vs ds ps := by
  induction ts with
  | nil => intro vs ds ps h _ _; cases vs <;> cases ds <;> simp [DataW.TrodAll] at h ⊢; exact h
  | cons t ts ih =>
    intro vs ds ps h hlt hsp
    simp only [List.all_cons, Bool.and_eq_true, decide_eq_true_eq] at hp
    obtain ⟨v, vs', d, ds', p, q, rfl, rfl, rfl, h1, h2⟩ := trodAll_cons h
    refine ⟨p, q, ?_, ih hp.2 h2 (fun x hx => hlt x (by simp [hx])) (fun x hx => hsp x (by simp [hx])), rfl⟩
    exact WideElems.Trod_stays hl hp.1.1 hp.1.2 h1 (fun x hx => hs.at (hlt x (by simp [hx]))) (fun x hx => hsp x (by simp [hx]))

theorem kept_same (hs : Same W W') (may : MemPlace → Prop) : W.keptBut W' may := by
  refine ⟨hs.os, hs.output, fun i hi => ?_⟩
  rw [hs.heap i hi, Array.getElem?_eq_getElem hi]
  cases h : W.heap[i] with
  | cells c t fr => exact ⟨rfl, rfl, rfl, fun _ _ => rfl⟩
  | map es clock => exact .inr ⟨rfl, rfl⟩
  | _ => rfl

/-- What a law's row owes behind the call. -/
theorem post_true {fn : Func} {s : ChangeSpec} {apart fresh handsOn : Bool} {args : Array Value} {ds gs : List (DataW H)} {before : List MemPlace} {tb : TypeId}
    (hl : laidOutB P = true) (hp : fn.params.toList.all (fun t => P.readableRec t && decide (t < P.types.size)) = true)
    (hr : fn.resultTypes = #[tb]) (hb : P.underlying tb = some .bool) (hv : s.vars = [])
    (hs : s.fn H ds = { results := [.lit (.bool true)], args := ds })
    (hW : DataW.Whole enc P fn.params.toList s.vars apart W args.toList ds gs before) (hsame : Same W W') :
    s.post enc P fn apart fresh handsOn false W args (.bool true) W' := by
  have hW' := hW
  obtain ⟨p, q, h1, h2, rfl, _, _⟩ := hW
  rw [hv] at h2
  obtain ⟨rfl, rfl⟩ := trodVars_none h2
  have hlt : ∀ x ∈ p, x.block < W.heap.size := fun x hx => hW'.lt x (by simp [hx])
  refine ⟨ds, [], p ++ [], [], p, [], hW', ?_, ?_, ?_, kept_same hsame _, fun h => by cases h⟩
  · rw [List.append_nil, hs, hr]
    exact trodAll_mk1 (shut_bool hb true)
  · rw [List.append_nil, hs]
    exact trodAll_same hl hp hsame h1 hlt (fun x hx => by simpa using hlt x hx)
  · rw [hv, List.append_nil, hs]
    rfl

/-- A contract that says 'true': the call's end. -/
theorem calls_true {f : FuncId} {ts : List Ty} (h : FnOk P Z f ts [.b .bool] (fun _ => []) (fun _ => (true, ()))) (hz : Z.ok W) {x : AL ts} {vs : List Value}
    (hd : DenL (fun _ => undef) (fun _ => none) (fun _ => False) W (AL.av ts x) vs) : Calls P f vs.toArray W fun e W' => e = .returned (.bool true) ∧ Same W W' := by
  have e0 : Hot (fun _ => undef) (fun _ => none) (fun _ => False) = fun _ => False := by
    funext b
    refine propext ⟨fun h => ?_, False.elim⟩
    rcases h with ⟨id, o, ho, _⟩ | h
    · cases ho
    · exact h
  refine (h x (AL.okL hd) trivial (fun _ => False) W vs (fun _ h => h.elim) hz (by rw [e0]; exact hd)).mono ?_
  rintro e W' ⟨v, rfl, ρ', _, h2, _, h4⟩
  have h5 : DenV ρ' (lk []) (Hot ρ' (lk []) fun _ => False) W' (.s (.bool true)) v := h2
  have h6 := DenS_of_V (by simp) h5
  cases h6
  exact ⟨rfl, h4.os, h4.output, fun b hb => h4.heap b hb (fun ⟨id, o, ho, _⟩ => by cases ho)⟩

theorem den_int {t : TypeId} {k : IntKind} {v : Value} {d : DataW H} {ps : List MemPlace} (ht : P.underlying t = some (.int k)) (hval : Value.okWide P W .any base t v) (hd : DataW.Trod enc P W 0 (fun _ => true) true t v d ps) :
    ∃ n : Int, DenV ρ Hh O W (.s (.int k n)) v := by
  obtain ⟨n, rfl, _, _, _⟩ := open_int ht hval hd
  exact ⟨n, DenV_s (.int k n)⟩

theorem den_ints {t e : TypeId} {k : IntKind} {v : Value} {d : DataW H} {ps : List MemPlace} (ht : P.underlying t = some (.slice e)) (he : P.underlying e = some (.int k)) (hc : P.cellsOf e = 1) (hval : Value.okWide P W .any base t v)
    (hd : DataW.Trod enc P W 0 (fun _ => true) true t v d ps) : ∃ zs : List Int, DenV ρ Hh (fun _ => False) W (.s (.ro (.ints k zs))) v := by
  obtain ⟨a, len, cap, rfl⟩ := okWide_slice ht hval
  obtain ⟨fuel, hf⟩ := hd
  rcases open_ints ht he hc hf with ⟨hcs, _⟩ | ⟨a', len', cap', zs, hcs, _, hl, hm, hz, _, hcell, _⟩
  · simp only [Value.cells, List.cons.injEq, and_true] at hcs
    cases hcs
    exact ⟨[], DenV_s (.ro _ none 0 (fun _ _ => undef) 0 0 (Nat.le_refl _) (Nat.zero_le _) (fun h => by simp [Con.n] at h) (fun i j hi hj => by simp [Con.n] at hi) (fun i j hi hj => by simp [Con.n] at hi))⟩
  · simp only [Value.cells, List.cons.injEq, and_true] at hcs
    cases hcs
    simp only [if_true] at hz
    have hn : (Con.ints k (zs.take len)).n = len := by simp [Con.n]; omega
    refine ⟨zs.take len, DenV_s ?_⟩
    rcases Nat.eq_zero_or_pos len with h0 | h0
    · subst h0
      exact .ro (.ints k (zs.take 0)) (some a') cap (fun _ _ => undef) 0 0 (Nat.zero_le _) hm (fun h => by simp [Con.n] at h) (fun i j hi hj => by simp [Con.n] at hi) (fun i j hi hj => by simp [Con.n] at hi)
    · obtain ⟨b, o, rfl, hc⟩ := ints_at hcell (by omega)
      have key := DenS.ro (O := fun _ => False) (w := W) (.ints k (zs.take len)) (some ⟨b, o, none⟩) cap (fun j _ => .int k (zs.getD j 0)) b o (by omega) hm (fun _ => ⟨rfl, fun h => h, ?_⟩) (fun j l hj hl' => ?_) (fun j l hj hl' => ?_)
      · rw [hn] at key
        exact key
      · have h1 := hc 0 (by omega)
        rcases Nat.lt_or_ge b W.heap.size with h2 | h2
        · exact h2
        · simp [World.cell?, Array.getElem?_eq_none h2] at h1
      · rw [hn] at hj
        simp only [Con.size] at hl' ⊢
        obtain rfl : l = 0 := by omega
        rw [Nat.mul_one, Nat.add_zero]
        exact hc j (by omega)
      · rw [hn] at hj
        show DenS _ _ (.int k ((zs.take len).getD j 0)) _
        rw [show (zs.take len).getD j 0 = zs.getD j 0 from by simp [List.getD, hj]]
        exact .int k _
end
end Go.Sx

/-! What a row's reading of an argument says: a value of plain data. -/
namespace Go.Sx
open Go Go.RowKit Go.ChangeShapes Go.WideShapes Go.ChangeAt

def layFs (P : Program) (rec : TypeId → Option (List CK)) : List Field → Nat → Option (List CK)
  | [], _ => some []
  | f :: fs, off => match rec f.type with
    | some cs => bif f.offset.beq off && (P.cellsOf f.type).beq (CL.wide cs) then (layFs P rec fs (off + CL.wide cs)).map (cs ++ ·) else none
    | none => none

/-- A type's parts, its places checked. -/
def layR (P : Program) : Nat → TypeId → Option (List CK)
  | 0, _ => none
  | d + 1, t =>
    match P.underlying t with
    | some (.int k) => some [.int k]
    | some .bool => some [.bool]
    | some .string => some [.str]
    | some (.slice e) => (match P.underlying e with
      | some (.int k) => bif (P.cellsOf e).beq 1 then some [.ints k] else none
      | some .string => bif (P.cellsOf e).beq 1 then some [.strs] else none
      | some .bool => bif (P.cellsOf e).beq 1 then some [.bools] else none
      | _ => (layR P d e).bind fun cs => bif (P.cellsOf e).beq (CL.wide cs) && (1 : Nat).ble (CL.wide cs) then some [.rows cs] else none)
    | some (.struct fs) => (layFs P (layR P d) fs.toList 0).bind fun cs => bif (P.cellsOf t).beq (CL.wide cs) then some cs else none
    | some (.array n e) => (match P.underlying e with
      | some (.int k) => bif (P.cellsOf e).beq 1 && (P.cellsOf t).beq n then some [.arr k n] else none
      | _ => none)
    | _ => none

mutual
def CK.wf : (c : CK) → c.V → Prop
  | .int k, n => (Lit.int k n).wf = true
  | .bool, _ => True
  | .str, s => ByteArray.size s ≤ maxLen
  | .ints k, zs => ∀ n ∈ (show List Int from zs), (Lit.int k n).wf = true
  | .strs, ss => ∀ s ∈ (show List ByteArray from ss), s.size ≤ maxLen
  | .bools, _ => True
  | .rows cs, xs => ∀ x ∈ (show List (CL cs) from xs), CL.wf cs x
  | .arr k n, ws => List.length (α := Int) ws = n ∧ ∀ m ∈ (show List Int from ws), (Lit.int k m).wf = true
def CL.wf : (cs : List CK) → CL cs → Prop
  | [], _ => True
  | c :: cs, x => c.wf x.1 ∧ CL.wf cs x.2
end

def CL.app : (azs : List CK) → {bs : List CK} → CL azs → CL bs → CL (azs ++ bs)
  | [], _, _, y => y
  | _ :: azs, _, x, y => (x.1, CL.app azs x.2 y)

theorem CL.wide_app : ∀ (azs bs : List CK), CL.wide (azs ++ bs) = CL.wide azs + CL.wide bs
  | [], bs => by simp [CL.wide]
  | a :: azs, bs => by simp only [List.cons_append, CL.wide, CL.wide_app azs bs]; omega

theorem blt_tt {i n : Nat} (h : i < n) : i.blt n = true := by simpa [Nat.blt, Nat.lt_iff_add_one_le] using h
theorem blt_ff {i n : Nat} (h : n ≤ i) : i.blt n = false := by
  cases hb : i.blt n
  · rfl
  · have : i < n := by simpa [Nat.blt, Nat.lt_iff_add_one_le] using hb
    omega

theorem CL.cell_app1 : ∀ (azs : List CK) {bs : List CK} (x : CL azs) (y : CL bs) {j : Nat}, j < CL.wide azs → CL.cell (azs ++ bs) (CL.app azs x y) j = CL.cell azs x j
  | [], _, _, _, j, h => by simp [CL.wide] at h
  | a :: azs, bs, x, y, j, h => by
    simp only [List.cons_append, CL.cell, CL.app]
    rcases Nat.lt_or_ge j a.wide with h1 | h1
    · rw [blt_tt h1]; rfl
    · rw [blt_ff h1]
      simp only [cond_false]
      exact CL.cell_app1 azs x.2 y (by simp only [CL.wide] at h; omega)
theorem CL.cell_app2 : ∀ (azs : List CK) {bs : List CK} (x : CL azs) (y : CL bs) {j : Nat}, CL.wide azs ≤ j → CL.cell (azs ++ bs) (CL.app azs x y) j = CL.cell bs y (j - CL.wide azs)
  | [], _, _, _, j, h => by simp [CL.wide, CL.app]
  | a :: azs, bs, x, y, j, h => by
    simp only [CL.wide] at h
    simp only [List.cons_append, CL.cell, CL.app]
    rw [blt_ff (by omega)]
    simp only [cond_false, CL.wide]
    rw [CL.cell_app2 azs x.2 y (by omega)]
    congr 1
    omega
theorem CL.wf_app : ∀ (azs : List CK) {bs : List CK} (x : CL azs) (y : CL bs), CL.wf azs x → CL.wf bs y → CL.wf (azs ++ bs) (CL.app azs x y)
  | [], _, _, _, _, h => h
  | a :: azs, bs, x, y, h1, h2 => by
    simp only [CL.wf] at h1
    simp only [List.cons_append, CL.wf, CL.app]
    exact ⟨h1.1, CL.wf_app azs x.2 y h1.2 h2⟩

theorem mapD {α β : Type} (f : α → β) (xs : List α) (d : β) (da : α) {i : Nat} (hi : i < xs.length) : (xs.map f).getD i d = f (xs.getD i da) := by simp [List.getD, hi]

theorem list_of {α : Type} {p : Nat → α → Prop} : ∀ (n : Nat), (∀ i, i < n → ∃ y, p i y) → ∃ xs : List α, xs.length = n ∧ ∀ i (h : i < xs.length), p i xs[i]
  | 0, _ => ⟨[], rfl, fun i h => by simp at h⟩
  | n + 1, h => by
    obtain ⟨xs, h1, h2⟩ := list_of n (fun i hi => h i (by omega))
    obtain ⟨y, hy⟩ := h n (by omega)
    refine ⟨xs ++ [y], by simp [h1], fun i hi => ?_⟩
    by_cases hlt : i < xs.length
    · rw [List.getElem_append_left hlt]; exact h2 i hlt
    · have : i = n := by simp at hi; omega
      subst this
      rw [List.getElem_append_right (by omega)]
      simpa [h1] using hy

section
variable {H : Type} {enc : TypeId × Value → H} {P : Program} {W : World} {base : Nat} {ρ : Nat → Value} {Hh : AHeap}

abbrev FD (W : World) (cs : List CK) (y : CL cs) (get : Nat → Option Value) : Prop := ∀ j, j < CL.wide cs → ∃ u, get j = some u ∧ DenS (fun _ => False) W (CL.cell cs y j) u

theorem trod_fs {d n : Nat} {cells : List Value} (ih : ∀ {t : TypeId} {cs : List CK} {fuel : Nat} {cells : List Value} {x : DataW H × List MemPlace}, layR P d t = some cs → DataW.trod enc P W 0 (fun _ => true) true fuel t cells = some x →
      cells.length = CL.wide cs ∧ ∃ y : CL cs, CL.wf cs y ∧ FD W cs y fun j => cells[j]?) :
    ∀ (fs : List Field) {off : Nat} {cs : List CK}, layFs P (layR P d) fs off = some cs → (∀ f ∈ fs, ∃ x, DataW.trod enc P W 0 (fun _ => true) true n f.type ((cells.drop f.offset).take (P.cellsOf f.type)) = some x) →
      ∃ y : CL cs, CL.wf cs y ∧ FD W cs y fun j => cells[off + j]?
  | [], off, cs, h, _ => by
    simp only [layFs, Option.some.injEq] at h
    subst h
    exact ⟨(), trivial, fun j hj => by simp [CL.wide] at hj⟩
  | f :: fs, off, cs, h, hx => by
    simp only [layFs] at h
    split at h
    · rename_i c1 hc1
      rw [Bool.cond_eq_ite] at h
      split at h
      · rename_i hb
        simp only [Bool.and_eq_true, Nat.beq_eq] at hb
        obtain ⟨ho, hw⟩ := hb
        obtain ⟨c2, hc2, rfl⟩ := Option.map_eq_some_iff.1 h
        obtain ⟨x, hf⟩ := hx f (by simp)
        obtain ⟨h1, y1, h2, h3⟩ := ih hc1 hf
        obtain ⟨y2, h4, h5⟩ := trod_fs ih fs hc2 (fun g hg => hx g (by simp [hg]))
        refine ⟨CL.app c1 y1 y2, CL.wf_app c1 y1 y2 h2 h4, fun j hj => ?_⟩
        rw [CL.wide_app] at hj
        rcases Nat.lt_or_ge j (CL.wide c1) with h6 | h6
        · obtain ⟨u, h7, h8⟩ := h3 j h6
          refine ⟨u, ?_, by rw [CL.cell_app1 c1 y1 y2 h6]; exact h8⟩
          dsimp only at h7 ⊢
          rw [List.getElem?_take, if_pos (by omega), List.getElem?_drop, ho] at h7
          exact h7
        · obtain ⟨u, h7, h8⟩ := h5 (j - CL.wide c1) (by omega)
          refine ⟨u, ?_, by rw [CL.cell_app2 c1 y1 y2 h6]; exact h8⟩
          dsimp only at h7 ⊢
          rw [show off + j = off + CL.wide c1 + (j - CL.wide c1) from by omega]
          exact h7
      · cases h
    · cases h

/-- A slice's elements. -/
theorem trod_row {t e : TypeId} {cs : List CK} {fuel : Nat} {cells : List Value} {x : DataW H × List MemPlace} (ht : P.underlying t = some (.slice e)) (hw : P.cellsOf e = CL.wide cs) (h1 : 1 ≤ CL.wide cs)
    (ih : ∀ {fuel : Nat} {cells : List Value} {x : DataW H × List MemPlace}, DataW.trod enc P W 0 (fun _ => true) true fuel e cells = some x → cells.length = CL.wide cs ∧ ∃ y : CL cs, CL.wf cs y ∧ FD W cs y fun j => cells[j]?)
    (h : DataW.trod enc P W 0 (fun _ => true) true fuel t cells = some x) :
    ∃ (v : Value) (xs : List (CL cs)), cells = [v] ∧ (∀ y ∈ xs, CL.wf cs y) ∧ DenS (fun _ => False) W (.ro (.typ cs xs)) v := by
  rcases DataW.trod_slice ht h with ⟨rfl, _⟩ | ⟨a, len, cap, elems, rest, n, _, rfl, _, _, hl, hm, hlen, hel, _, _⟩
  · exact ⟨_, [], rfl, by simp, .ro (.typ cs []) none 0 (fun _ _ => undef) 0 0 (Nat.le_refl _) (Nat.zero_le _) (fun h => by simp [Con.n] at h) (fun i j hi hj => by simp [Con.n] at hi) (fun i j hi hj => by simp [Con.n] at hi)⟩
  · have each : ∀ i, i < len → ∃ y : CL cs, CL.wf cs y ∧ FD W cs y fun j => W.cell? ((a.add (i * CL.wide cs)).add j) := by
      intro i hi
      have h2 := hel i hi
      rw [List.getElem?_eq_getElem (by omega), hw] at h2
      obtain ⟨cl, h3, h4⟩ := Option.bind_eq_some_iff.1 h2
      obtain ⟨_, h5, h6⟩ := World.cells?_some h3
      obtain ⟨_, y, h7, h8⟩ := ih h4
      refine ⟨y, h7, fun j hj => ?_⟩
      obtain ⟨u, h9, h10⟩ := h8 j hj
      exact ⟨u, by dsimp only; rw [h6 j (by omega)]; exact h9, h10⟩
    obtain ⟨xs, hx1, hx2⟩ := list_of len each
    refine ⟨_, xs, rfl, fun y hy => ?_, ?_⟩
    · obtain ⟨i, hi, rfl⟩ := List.getElem_of_mem hy
      exact (hx2 i hi).1
    · have hn : (Con.typ cs xs).n = len := hx1
      rcases Nat.eq_zero_or_pos len with h0 | h0
      · have key := DenS.ro (O := fun _ => False) (w := W) (.typ cs xs) (some a) cap (fun _ _ => undef) 0 0 (by omega) hm (fun h => by omega) (fun i j hi hj => by omega) (fun i j hi hj => by omega)
        rw [hn] at key
        exact key
      · have hspot : a.spot = none := by
          obtain ⟨u, h9, _⟩ := (hx2 0 (by omega)).2 0 (by omega)
          simpa [Addr.add] using World.cell?_spot h9
        obtain ⟨b, off, spot⟩ := a
        simp only at hspot
        subst hspot
        have hc : ∀ i j, i < len → j < CL.wide cs → ∃ u, W.cell? ⟨b, off + i * CL.wide cs + j, none⟩ = some u ∧ DenS (fun _ => False) W (CL.cell cs (xs.getD i (CL.d cs)) j) u := by
          intro i j hi hj
          obtain ⟨u, h9, h10⟩ := (hx2 i (by omega)).2 j hj
          dsimp only at h9
          rw [add_zero_spot, add_zero_spot] at h9
          exact ⟨u, h9, by simpa [List.getD, hx1, hi] using h10⟩
        have key := DenS.ro (O := fun _ => False) (w := W) (.typ cs xs) (some ⟨b, off, none⟩) cap (fun i j => (W.cell? ⟨b, off + i * CL.wide cs + j, none⟩).getD undef) b off (by omega) hm (fun _ => ⟨rfl, fun h => h, ?_⟩) (fun i j hi hj => ?_) (fun i j hi hj => ?_)
        · rw [hn] at key
          exact key
        · obtain ⟨u, h9, _⟩ := hc 0 0 h0 (by omega)
          rcases Nat.lt_or_ge b W.heap.size with h2 | h2
          · exact h2
          · simp [World.cell?, Array.getElem?_eq_none h2] at h9
        · obtain ⟨u, h9, _⟩ := hc i j (by omega) hj
          show W.cell? ⟨b, off + i * CL.wide cs + j, none⟩ = _
          rw [h9]; rfl
        · obtain ⟨u, h9, h10⟩ := hc i j (by omega) hj
          rw [h9]
          exact h10

theorem trod_cl : ∀ (d : Nat) {t : TypeId} {cs : List CK} {fuel : Nat} {cells : List Value} {x : DataW H × List MemPlace}, layR P d t = some cs → DataW.trod enc P W 0 (fun _ => true) true fuel t cells = some x →
    cells.length = CL.wide cs ∧ ∃ y : CL cs, CL.wf cs y ∧ FD W cs y fun j => cells[j]?
  | 0, t, cs, fuel, cells, x, h, _ => by simp [layR] at h
  | d + 1, t, cs, fuel, cells, x, h, hd => by
    simp only [layR] at h
    have one : ∀ {c : CK} {v : Value} (y : c.V), c.wide = 1 → CK.wf c y → DenS (fun _ => False) W (c.cell y 0) v → ([v] : List Value).length = CL.wide [c] ∧ ∃ y : CL [c], CL.wf [c] y ∧ FD W [c] y fun j => ([v] : List Value)[j]? := by
      intro c v y hw hy hv
      refine ⟨by simp [CL.wide, hw], (y, ()), ⟨hy, trivial⟩, fun j hj => ?_⟩
      simp only [CL.wide, hw] at hj
      obtain rfl : j = 0 := by omega
      refine ⟨v, rfl, ?_⟩
      simp only [CL.cell, hw]
      exact hv
    split at h
    · rename_i k ht
      simp only [Option.some.injEq] at h
      subst h
      obtain ⟨n, rfl, _, hw⟩ := DataW.trod_int ht hd
      exact one (c := .int k) n rfl hw (.int k n)
    · rename_i ht
      simp only [Option.some.injEq] at h
      subst h
      obtain ⟨b, rfl, _⟩ := DataW.trod_bool ht hd
      exact one (c := .bool) b rfl trivial (.bool b)
    · rename_i ht
      simp only [Option.some.injEq] at h
      subst h
      obtain ⟨s, rfl, _, hs⟩ := DataW.trod_string ht hd
      exact one (c := .str) s rfl hs (.str s)
    · rename_i e ht
      split at h
      · rename_i k he
        rw [Bool.cond_eq_ite] at h
        split at h
        · rename_i hw
          have hw : P.cellsOf e = 1 := by simpa using hw
          simp only [Option.some.injEq] at h
          subst h
          obtain ⟨v, xs, rfl, h1, h2⟩ := trod_row (cs := [.int k]) ht hw (Nat.le_refl _) (fun {fuel cells x} hx => by
            obtain ⟨n, rfl, _, hwf⟩ := DataW.trod_int he hx
            exact one (c := .int k) n rfl hwf (.int k n)) hd
          refine one (c := .ints k) (xs.map fun y : CL [.int k] => (show Int from y.1)) rfl (fun n hn => ?_) (den_ro_congr (c := .typ [.int k] xs) ?_ rfl ?_ h2)
          · obtain ⟨y, hy, rfl⟩ := List.mem_map.1 hn
            exact (h1 y hy).1
          · exact List.length_map _
          · intro i j hi hj
            have hj : j < 1 := hj
            obtain rfl : j = 0 := by omega
            have hi : i < xs.length := hi
            exact congrArg (SV.int k) (mapD (fun y : CL [.int k] => (show Int from y.1)) xs 0 (CL.d [.int k]) hi)
        · cases h
      · rename_i he
        rw [Bool.cond_eq_ite] at h
        split at h
        · rename_i hw
          have hw : P.cellsOf e = 1 := by simpa using hw
          simp only [Option.some.injEq] at h
          subst h
          obtain ⟨v, xs, rfl, h1, h2⟩ := trod_row (cs := [.str]) ht hw (Nat.le_refl _) (fun {fuel cells x} hx => by
            obtain ⟨n, rfl, _, hwf⟩ := DataW.trod_string he hx
            exact one (c := .str) n rfl hwf (.str n)) hd
          refine one (c := .strs) (xs.map fun y : CL [.str] => (show ByteArray from y.1)) rfl (fun n hn => ?_) (den_ro_congr (c := .typ [.str] xs) ?_ rfl ?_ h2)
          · obtain ⟨y, hy, rfl⟩ := List.mem_map.1 hn
            exact (h1 y hy).1
          · exact List.length_map _
          · intro i j hi hj
            have hj : j < 1 := hj
            obtain rfl : j = 0 := by omega
            have hi : i < xs.length := hi
            exact congrArg (SV.str) (mapD (fun y : CL [.str] => (show ByteArray from y.1)) xs ByteArray.empty (CL.d [.str]) hi)
        · cases h
      · rename_i he
        rw [Bool.cond_eq_ite] at h
        split at h
        · rename_i hw
          have hw : P.cellsOf e = 1 := by simpa using hw
          simp only [Option.some.injEq] at h
          subst h
          obtain ⟨v, xs, rfl, h1, h2⟩ := trod_row (cs := [.bool]) ht hw (Nat.le_refl _) (fun {fuel cells x} hx => by
            obtain ⟨n, rfl, _⟩ := DataW.trod_bool he hx
            exact one (c := .bool) n rfl trivial (.bool n)) hd
          refine one (c := .bools) (xs.map fun y : CL [.bool] => (show Bool from y.1)) rfl trivial (den_ro_congr (c := .typ [.bool] xs) ?_ rfl ?_ h2)
          · exact List.length_map _
          · intro i j hi hj
            have hj : j < 1 := hj
            obtain rfl : j = 0 := by omega
            have hi : i < xs.length := hi
            exact congrArg (SV.bool) (mapD (fun y : CL [.bool] => (show Bool from y.1)) xs false (CL.d [.bool]) hi)
        · cases h
      · obtain ⟨cs', h1, h2⟩ := Option.bind_eq_some_iff.1 h
        rw [Bool.cond_eq_ite] at h2
        split at h2
        · rename_i hb
          simp only [Bool.and_eq_true, Nat.beq_eq] at hb
          obtain ⟨hw, hw1⟩ := hb
          have hw1 := Nat.le_of_ble_eq_true hw1
          simp only [Option.some.injEq] at h2
          subst h2
          obtain ⟨v, xs, rfl, h3, h4⟩ := trod_row (cs := cs') ht hw hw1 (fun hx => trod_cl d h1 hx) hd
          exact one (c := .rows cs') xs rfl h3 h4
        · cases h2
    · rename_i fs ht
      obtain ⟨cs', h1, h2⟩ := Option.bind_eq_some_iff.1 h
      rw [Bool.cond_eq_ite] at h2
      split at h2
      · rename_i hw
        have hw : P.cellsOf t = CL.wide cs' := by simpa using hw
        simp only [Option.some.injEq] at h2
        subst h2
        obtain ⟨xs, n, _, _, h3, h4, h5⟩ := DataW.trod_struct ht hd
        obtain ⟨y, h6, h7⟩ := trod_fs (enc := enc) (n := n) (cells := cells) (fun h1 h2 => trod_cl d h1 h2) fs.toList h1 (fun f hf => by
          obtain ⟨i, hi, rfl⟩ := List.getElem_of_mem hf
          have hi' : i < fs.size := by simpa using hi
          have := h5 i fs[i] (Array.getElem?_eq_getElem hi')
          rw [List.getElem?_eq_getElem (by omega)] at this
          exact ⟨_, by simpa using this⟩)
        refine ⟨by omega, y, h6, fun j hj => ?_⟩
        have := h7 j hj
        simpa using this
      · cases h2
    · rename_i n e ht
      split at h
      · rename_i k he
        rw [Bool.cond_eq_ite] at h
        split at h
        · rename_i hb
          simp only [Bool.and_eq_true, Nat.beq_eq] at hb
          obtain ⟨hw, hwt⟩ := hb
          simp only [Option.some.injEq] at h
          subst h
          obtain ⟨xs, m, _, _, h1, h2, h3⟩ := DataW.trod_array ht hd
          have each : ∀ i, i < n → ∃ z : Int, (Lit.int k z).wf = true ∧ cells[i]? = some (.int k z) := by
            intro i hi
            have h4 := h3 i hi
            rw [List.getElem?_eq_getElem (by omega), hw] at h4
            obtain ⟨z, h5, _, h6⟩ := DataW.trod_int he h4
            refine ⟨z, h6, ?_⟩
            have h7 : ((cells.drop (i * 1)).take 1)[0]? = some (.int k z) := by rw [h5]; rfl
            rw [List.getElem?_take, if_pos (by omega), List.getElem?_drop] at h7
            simpa using h7
          obtain ⟨zs, hz1, hz2⟩ := list_of n each
          refine ⟨by simp [CL.wide, CK.wide]; omega, (zs, ()), ⟨⟨hz1, fun z hz => ?_⟩, trivial⟩, fun j hj => ?_⟩
          · obtain ⟨i, hi, rfl⟩ := List.getElem_of_mem (show z ∈ zs from hz)
            exact (hz2 i hi).1
          · simp only [CL.wide, CK.wide, Nat.add_zero] at hj
            refine ⟨.int k zs[j], (hz2 j (by omega)).2, ?_⟩
            simp only [CL.cell, CK.wide]
            rw [blt_tt hj]
            show DenS _ _ (.int k (zs.getD j 0)) _
            rw [show zs.getD j 0 = zs[j] from by simp [List.getD, hz1, hj]]
            exact .int k _
        · cases h
      · cases h
    · cases h

/-! ### values of an argument's type -/
def RK.ck : RK → CK
  | .ints k => .ints k
  | .strs => .strs
  | .bools => .bools
  | .typ cs => .rows cs
def B.ck : B → CK
  | .int k => .int k
  | .bool => .bool
  | .str => .str
  | .row r _ => r.ck
  | .rrow r _ => r.ck
  | .arr k n => .arr k n
  | .fn => .bool
def B.noFn : B → Bool
  | .fn => false
  | _ => true
def RK.of : (r : RK) → r.ck.V → r.V
  | .ints _, y => y
  | .strs, y => y
  | .bools, y => y
  | .typ _, y => y
def B.of : (b : B) → b.ck.V → b.V
  | .int _, y => y
  | .bool, y => y
  | .str, y => y
  | .row r _, y => r.of y
  | .rrow r _, y => r.of y
  | .arr _ _, y => y
  | .fn, _ => (0 : Nat)
def RK.wf : (r : RK) → r.V → Prop
  | .ints k, x => ∀ n ∈ x, (Lit.int k n).wf = true
  | .strs, x => ∀ s ∈ x, ByteArray.size s ≤ maxLen
  | .bools, _ => True
  | .typ cs, x => ∀ y ∈ x, CL.wf cs y
def B.wf : (b : B) → b.V → Prop
  | .int k, n => (Lit.int k n).wf = true
  | .str, s => ByteArray.size s ≤ maxLen
  | .row r _, x => r.wf x
  | .rrow r _, x => r.wf x
  | .arr k n, ws => List.length (α := Int) ws = n ∧ ∀ m ∈ (show List Int from ws), (Lit.int k m).wf = true
  | _, _ => True
def BL.wf : (bs : List B) → BL bs → Prop
  | [], _ => True
  | b :: bs, (x, y) => b.wf x ∧ BL.wf bs y
def Ty.wf : (t : Ty) → t.V → Prop
  | .b q, x => q.wf x
  | .st bs, x => BL.wf bs x
def AL.wf : (ts : List Ty) → AL ts → Prop
  | [], _ => True
  | t :: ts, (x, y) => t.wf x ∧ AL.wf ts y
def BL.of : (bs : List B) → CL (bs.map B.ck) → BL bs
  | [], _ => ()
  | b :: bs, y => (b.of y.1, BL.of bs y.2)

theorem B.of_wf {b : B} {y : b.ck.V} (h : CK.wf b.ck y) : b.wf (b.of y) := by
  cases b with
  | int k => exact h
  | bool => trivial
  | str => exact h
  | row r e => cases r <;> exact h
  | rrow r e => cases r <;> exact h
  | arr k n => exact h
  | fn => trivial

theorem B.of_den {b : B} (hb : b.noFn = true) {y : b.ck.V} (hy : CK.wf b.ck y) {cells : List Value} (hl : cells.length = b.ck.wide) (h : ∀ j, j < b.ck.wide → ∃ u, cells[j]? = some u ∧ DenS (fun _ => False) W (b.ck.cell y j) u) :
    DenC ρ Hh (fun _ => False) W (b.av (b.of y)) cells := by
  have one : b.ck.wide = 1 → ∃ u, cells = [u] ∧ DenS (fun _ => False) W (b.ck.cell y 0) u := by
    intro h1
    obtain ⟨u, h2, h3⟩ := h 0 (by omega)
    rw [h1] at hl
    match cells, hl with
    | [v], _ => simp only [List.getElem?_cons_zero, Option.some.injEq] at h2; subst h2; exact ⟨v, rfl, h3⟩
  cases b with
  | int k => obtain ⟨u, rfl, h2⟩ := one rfl; show DenC _ _ _ _ (.s (.int k y)) _; unfold DenC; exact ⟨u, rfl, h2⟩
  | bool => obtain ⟨u, rfl, h2⟩ := one rfl; show DenC _ _ _ _ (.s (.bool y)) _; unfold DenC; exact ⟨u, rfl, h2⟩
  | str => obtain ⟨u, rfl, h2⟩ := one rfl; show DenC _ _ _ _ (.s (.str y)) _; unfold DenC; exact ⟨u, rfl, h2⟩
  | row r e =>
    obtain ⟨u, rfl, h2⟩ := one (by cases r <;> rfl)
    show DenC _ _ _ _ (.s (.ro (r.con (r.of y)))) _
    unfold DenC
    exact ⟨u, rfl, by cases r <;> exact h2⟩
  | rrow r e =>
    obtain ⟨u, rfl, h2⟩ := one (by cases r <;> rfl)
    show DenC _ _ _ _ (.s (.ro (r.con (r.of y)))) _
    unfold DenC
    exact ⟨u, rfl, by cases r <;> exact h2⟩
  | arr k n =>
    show DenC _ _ _ _ (.ints k n y) _
    unfold DenC
    have key : ∀ ys : List Int, ys.length = n → (∀ j, j < n → ∃ u, cells[j]? = some u ∧ DenS (fun _ => False) W (.int k (ys.getD j 0)) u) → cells.length = n → cells = ys.map (Value.int k) := by
      intro ys h1 h2 h3
      refine List.ext_getElem (by rw [h3, List.length_map, h1]) fun j h4 h5 => ?_
      obtain ⟨u, h6, h7⟩ := h2 j (by omega)
      cases h7
      rw [List.getElem?_eq_getElem h4, Option.some.injEq] at h6
      rw [h6, List.getElem_map]
      congr 1
      simp [List.getD, show j < ys.length by omega]
    exact ⟨hy.1, key y hy.1 h hl⟩
  | fn => cases hb

theorem BL.of_den : ∀ {bs : List B}, bs.all B.noFn = true → ∀ {y : CL (bs.map B.ck)}, CL.wf (bs.map B.ck) y → ∀ {cells : List Value}, cells.length = CL.wide (bs.map B.ck) → (FD W (bs.map B.ck) y fun j => cells[j]?) →
    BL.wf bs (BL.of bs y) ∧ DenSegs ρ Hh (fun _ => False) W (BL.av bs (BL.of bs y)) cells
  | [], _, y, _, cells, hl, _ => ⟨trivial, DenSegs_nil.2 (List.eq_nil_of_length_eq_zero hl)⟩
  | b :: bs, hb, y, hy, cells, hl, h => by
    simp only [List.all_cons, Bool.and_eq_true] at hb
    simp only [List.map_cons, CL.wide] at hl
    have hy : CK.wf b.ck y.1 ∧ CL.wf (bs.map B.ck) y.2 := hy
    have h : ∀ j, j < b.ck.wide + CL.wide (bs.map B.ck) → ∃ u, cells[j]? = some u ∧ DenS (fun _ => False) W (bif j.blt b.ck.wide then b.ck.cell y.1 j else CL.cell (bs.map B.ck) y.2 (j - b.ck.wide)) u := h
    obtain ⟨h1, h2⟩ := BL.of_den hb.2 (y := y.2) hy.2 (cells := cells.drop b.ck.wide) (by rw [List.length_drop]; omega) (fun j hj => by
      obtain ⟨u, h3, h4⟩ := h (b.ck.wide + j) (by omega)
      rw [blt_ff (by omega), cond_false, Nat.add_sub_cancel_left] at h4
      exact ⟨u, by dsimp only; rw [List.getElem?_drop]; exact h3, h4⟩)
    refine ⟨⟨B.of_wf hy.1, h1⟩, DenSegs_cons.2 ⟨cells.take b.ck.wide, cells.drop b.ck.wide, (List.take_append_drop _ _).symm, B.of_den hb.1 hy.1 (by rw [List.length_take]; omega) (fun j hj => ?_), h2⟩⟩
    obtain ⟨u, h3, h4⟩ := h j (by omega)
    rw [blt_tt hj, cond_true] at h4
    exact ⟨u, by rw [List.getElem?_take, if_pos hj]; exact h3, h4⟩

def Ty.lay (P : Program) (t : TypeId) : Ty → Bool
  | .b q => q.noFn && (layR P 12 t).any (fun cs => (CL.eq cs [q.ck]).isSome) && (match P.underlying t, q with
    | some (.array _ _), .arr _ _ => true
    | some (.struct _), _ => false
    | some (.array _ _), _ => false
    | _, .arr _ _ => false
    | _, _ => true)
  | .st bs => bs.all B.noFn && (layR P 12 t).any (fun cs => (CL.eq cs (bs.map B.ck)).isSome) && (match P.underlying t with
    | some (.struct _) => true
    | _ => false)

theorem lay_eq {d : Nat} {t : TypeId} {cs' : List CK} (h : (layR P d t).any (fun cs => (CL.eq cs cs').isSome) = true) : layR P d t = some cs' := by
  cases hl : layR P d t with
  | none => simp [hl] at h
  | some cs =>
    rw [hl, Option.any_some] at h
    obtain ⟨e, _⟩ := Option.isSome_iff_exists.1 h
    rw [e.down]

theorem den_ty {t : TypeId} {ty : Ty} {v : Value} {d : DataW H} {ps : List MemPlace} (hl : ty.lay P t = true) (hval : Value.okWide P W .any base t v) (hd : DataW.Trod enc P W 0 (fun _ => true) true t v d ps) :
    ∃ x : ty.V, ty.wf x ∧ DenV ρ Hh (fun _ => False) W (ty.av x) v := by
  obtain ⟨fuel, hd⟩ := hd
  cases ty with
  | st bs =>
    simp only [Ty.lay, Bool.and_eq_true] at hl
    obtain ⟨⟨h1, h2⟩, h3⟩ := hl
    split at h3
    · rename_i fs ht
      simp only [Value.okWide, ht] at hval
      obtain ⟨cs, rfl, _, _⟩ := hval
      obtain ⟨h4, y, h5, h6⟩ := trod_cl 12 (lay_eq h2) hd
      obtain ⟨h7, h8⟩ := BL.of_den (ρ := ρ) (Hh := Hh) h1 h5 h4 h6
      refine ⟨BL.of bs y, h7, ?_⟩
      show DenV _ _ _ _ (.agg _) _
      unfold DenV
      exact ⟨cs.toList, by simp, h8⟩
    · cases h3
  | b q =>
    simp only [Ty.lay, Bool.and_eq_true] at hl
    obtain ⟨⟨h1, h2⟩, h3⟩ := hl
    obtain ⟨h4, y, h5, h6⟩ := trod_cl 12 (lay_eq h2) hd
    have h4 : v.cells.toList.length = q.ck.wide := by simpa [CL.wide] using h4
    have h5 : CK.wf q.ck y.1 := h5.1
    have key := B.of_den (ρ := ρ) (Hh := Hh) h1 h5 h4 (fun j hj => by
      obtain ⟨u, h7, h8⟩ := h6 j (by simp only [CL.wide]; omega)
      simp only [CL.cell] at h8
      rw [blt_tt hj, cond_true] at h8
      exact ⟨u, h7, h8⟩)
    refine ⟨q.of y.1, B.of_wf h5, ?_⟩
    show DenV _ _ _ _ (q.av _) _
    have single : (∀ cs, v ≠ .agg cs) → (∀ k n ws, q.av (q.of y.1) ≠ .ints k n ws) → DenV ρ Hh (fun _ => False) W (q.av (q.of y.1)) v := by
      intro hna hni
      have hc : v.cells.toList = [v] := by cases v <;> first | rfl | exact absurd rfl (hna _)
      rw [hc] at key
      obtain ⟨u, hu, _, hden⟩ := DenC_single key (wide_other hni) hni
      cases hu
      exact hden
    by_cases harr : ∃ k n, q = .arr k n
    · obtain ⟨k, n, rfl⟩ := harr
      obtain ⟨n', e', ht⟩ : ∃ n' e', P.underlying t = some (.array n' e') := by
        cases hu : P.underlying t with
        | none => simp [hu] at h3
        | some td => cases td <;> simp [hu] at h3 ⊢
      simp only [Value.okWide, ht] at hval
      obtain ⟨cs, rfl, _, _⟩ := hval
      have key : DenC ρ Hh (fun _ => False) W (.ints k n y.1) cs.toList := key
      unfold DenC at key
      show DenV _ _ _ _ (.ints k n y.1) _
      unfold DenV
      exact ⟨key.1, by rw [← key.2]⟩
    · have hns : (∀ fs, P.underlying t ≠ some (.struct fs)) ∧ ∀ n e, P.underlying t ≠ some (.array n e) := by
        cases hu : P.underlying t with
        | none => simp
        | some td => cases td <;> cases q <;> simp_all
      refine single (fun cs hv => ?_) (fun k n ws he => ?_)
      · subst hv
        unfold Value.okWide at hval
        split at hval
        · rename_i fs ht; exact hns.1 fs ht
        · rename_i n e ht; exact hns.2 n e ht
        · simp only [Cell.okWide, Cell.ok] at hval
          split at hval <;> simp_all
      · cases q <;> simp [B.av] at he
        exact harr ⟨_, _, rfl⟩

/-- A contract that says 'true', under what the reading gives: the call's end. -/
theorem calls_true_pre {Z : Glob} {f : FuncId} {ts : List Ty} {pre : AL ts → List Prop} (h : FnOk P Z f ts [.b .bool] pre (fun _ => (true, ()))) (hz : Z.ok W) {x : AL ts} {vs : List Value} (hp : Needs (pre x))
    (hd : DenL (fun _ => undef) (fun _ => none) (fun _ => False) W (AL.av ts x) vs) : Calls P f vs.toArray W fun e W' => e = .returned (.bool true) ∧ Same W W' := by
  have e0 : Hot (fun _ => undef) (fun _ => none) (fun _ => False) = fun _ => False := by
    funext b
    refine propext ⟨fun h => ?_, False.elim⟩
    rcases h with ⟨id, o, ho, _⟩ | h
    · cases ho
    · exact h
  refine (h x (AL.okL hd) hp (fun _ => False) W vs (fun _ h => h.elim) hz (by rw [e0]; exact hd)).mono ?_
  rintro e W' ⟨v, rfl, ρ', _, h2, _, h4⟩
  have h5 : DenV ρ' (lk []) (Hot ρ' (lk []) fun _ => False) W' (.s (.bool true)) v := h2
  have h6 := DenS_of_V (by simp) h5
  cases h6
  exact ⟨rfl, h4.os, h4.output, fun b hb => h4.heap b hb (fun ⟨id, o, ho, _⟩ => by cases ho)⟩
end
end Go.Sx

/-! The last facts of a row whose program is a cut: its head word is read once. -/
namespace Go.Sx
open Go

theorem make_cut (P : Program) (r : List (List Char)) (h : behindMainWord (wordsSigns P.initOrder.toList) = [(Char.ofNat 99), (Char.ofNat 117), (Char.ofNat 116)] :: r) : P.make = some .cut := by
  unfold Program.make; rw [h]; kernel_rfl
theorem lifts_cut (P : Program) (r : List (List Char)) (h : behindMainWord (wordsSigns P.initOrder.toList) = [(Char.ofNat 99), (Char.ofNat 117), (Char.ofNat 116)] :: r) (hs : stripLifts liftWords ([(Char.ofNat 99), (Char.ofNat 117), (Char.ofNat 116)] :: r) = ([], [(Char.ofNat 99), (Char.ofNat 117), (Char.ofNat 116)] :: r)) : P.liftsFinal = false := by
  unfold Program.liftsFinal Program.headLifts; rw [h]; dsimp only; rw [hs]; kernel_rfl
theorem enter_cut (P : Program) (r : List (List Char)) (h : behindMainWord (wordsSigns P.initOrder.toList) = [(Char.ofNat 99), (Char.ofNat 117), (Char.ofNat 116)] :: r) (hs : stripLifts liftWords ([(Char.ofNat 99), (Char.ofNat 117), (Char.ofNat 116)] :: r) = ([], [(Char.ofNat 99), (Char.ofNat 117), (Char.ofNat 116)] :: r))
    (h1 : P.laysLater = false) (h2 : P.bearsReflect = false) (h3 : P.doorFits [] = true) : P.mayEnter = true := by
  unfold Program.mayEnter; rw [h]; dsimp only; rw [hs, h1, h2]; dsimp only; rw [h3]; kernel_rfl

def joinedRest (P : Program) (f : FuncId) (fn : Func) (s : ChangeSpec) (c : OpenClaim) : {b : Bool // P.mayEnter = true → P.liftsFinal = false → P.make = some .cut → joinedFacts P f fn s c = b} := by
  refine ⟨?b, fun h1 h2 h3 => ?h⟩
  case h =>
    unfold joinedFacts
    rw [h1, h2, h3]

theorem joined_cut {P : Program} {f : FuncId} {fn : Func} {s : ChangeSpec} {c : OpenClaim} (r : List (List Char)) (h : behindMainWord (wordsSigns P.initOrder.toList) = [(Char.ofNat 99), (Char.ofNat 117), (Char.ofNat 116)] :: r) (hs : stripLifts liftWords ([(Char.ofNat 99), (Char.ofNat 117), (Char.ofNat 116)] :: r) = ([], [(Char.ofNat 99), (Char.ofNat 117), (Char.ofNat 116)] :: r))
    (h1 : P.laysLater = false) (h2 : P.bearsReflect = false) (h3 : P.doorFits [] = true) (hr : (joinedRest P f fn s c).1 = true) : joinedFacts P f fn s c = true :=
  ((joinedRest P f fn s c).2 (enter_cut P r h hs h1 h2 h3) (lifts_cut P r h hs) (make_cut P r h)).trans hr
end Go.Sx

/- The head of the program's text, read once. -/
/-! The head. -/
namespace Go.Proofs.Ytjmdfmafnenjnaa.Hd
set_option maxRecDepth 100000 in
def ioL : List Char := [(Char.ofNat 104), (Char.ofNat 97), (Char.ofNat 114), (Char.ofNat 110), (Char.ofNat 101), (Char.ofNat 115), (Char.ofNat 115), (Char.ofNat 32), (Char.ofNat 49), (Char.ofNat 56), (Char.ofNat 57), (Char.ofNat 48), (Char.ofNat 101), (Char.ofNat 50), (Char.ofNat 56), (Char.ofNat 99), (Char.ofNat 49), (Char.ofNat 100), (Char.ofNat 101), (Char.ofNat 50), (Char.ofNat 99), (Char.ofNat 50), (Char.ofNat 101), (Char.ofNat 51), (Char.ofNat 101), (Char.ofNat 51), (Char.ofNat 101), (Char.ofNat 55), (Char.ofNat 97), (Char.ofNat 100), (Char.ofNat 55), (Char.ofNat 54), (Char.ofNat 57), (Char.ofNat 57), (Char.ofNat 51), (Char.ofNat 102), (Char.ofNat 102), (Char.ofNat 55), (Char.ofNat 48), (Char.ofNat 49), (Char.ofNat 55), (Char.ofNat 51), (Char.ofNat 54), (Char.ofNat 50), (Char.ofNat 100), (Char.ofNat 52), (Char.ofNat 102), (Char.ofNat 97), (Char.ofNat 51), (Char.ofNat 49), (Char.ofNat 55), (Char.ofNat 54), (Char.ofNat 50), (Char.ofNat 53), (Char.ofNat 54), (Char.ofNat 51), (Char.ofNat 53), (Char.ofNat 50), (Char.ofNat 55), (Char.ofNat 55), (Char.ofNat 57), (Char.ofNat 48), (Char.ofNat 52), (Char.ofNat 100), (Char.ofNat 53), (Char.ofNat 100), (Char.ofNat 50), (Char.ofNat 97), (Char.ofNat 49), (Char.ofNat 55), (Char.ofNat 49), (Char.ofNat 49), (Char.ofNat 32), (Char.ofNat 99), (Char.ofNat 117), (Char.ofNat 116), (Char.ofNat 32), (Char.ofNat 97), (Char.ofNat 116), (Char.ofNat 32), (Char.ofNat 99), (Char.ofNat 97), (Char.ofNat 108), (Char.ofNat 108), (Char.ofNat 98), (Char.ofNat 111), (Char.ofNat 97), (Char.ofNat 114), (Char.ofNat 100), (Char.ofNat 47), (Char.ofNat 99), (Char.ofNat 97), (Char.ofNat 108), (Char.ofNat 108), (Char.ofNat 98), (Char.ofNat 111), (Char.ofNat 97), (Char.ofNat 114), (Char.ofNat 100), (Char.ofNat 108), (Char.ofNat 97), (Char.ofNat 119), (Char.ofNat 48), (Char.ofNat 54), (Char.ofNat 46), (Char.ofNat 76), (Char.ofNat 101), (Char.ofNat 97), (Char.ofNat 102), (Char.ofNat 80), (Char.ofNat 108), (Char.ofNat 97), (Char.ofNat 99), (Char.ofNat 101), (Char.ofNat 32), (Char.ofNat 99), (Char.ofNat 97), (Char.ofNat 108), (Char.ofNat 108), (Char.ofNat 98), (Char.ofNat 111), (Char.ofNat 97), (Char.ofNat 114), (Char.ofNat 100), (Char.ofNat 47), (Char.ofNat 99), (Char.ofNat 97), (Char.ofNat 108), (Char.ofNat 108), (Char.ofNat 98), (Char.ofNat 111), (Char.ofNat 97), (Char.ofNat 114), (Char.ofNat 100), (Char.ofNat 108), (Char.ofNat 97), (Char.ofNat 119), (Char.ofNat 48), (Char.ofNat 52), (Char.ofNat 46), (Char.ofNat 80), (Char.ofNat 97), (Char.ofNat 103), (Char.ofNat 101), (Char.ofNat 82), (Char.ofNat 111), (Char.ofNat 111), (Char.ofNat 116), (Char.ofNat 115), (Char.ofNat 32), (Char.ofNat 99), (Char.ofNat 97), (Char.ofNat 108), (Char.ofNat 108), (Char.ofNat 98), (Char.ofNat 111), (Char.ofNat 97), (Char.ofNat 114), (Char.ofNat 100), (Char.ofNat 47), (Char.ofNat 99), (Char.ofNat 97), (Char.ofNat 108), (Char.ofNat 108), (Char.ofNat 98), (Char.ofNat 111), (Char.ofNat 97), (Char.ofNat 114), (Char.ofNat 100), (Char.ofNat 108), (Char.ofNat 97), (Char.ofNat 119), (Char.ofNat 48), (Char.ofNat 54), (Char.ofNat 46), (Char.ofNat 76), (Char.ofNat 101), (Char.ofNat 97), (Char.ofNat 102), (Char.ofNat 66), (Char.ofNat 97), (Char.ofNat 99), (Char.ofNat 107), (Char.ofNat 32), (Char.ofNat 99), (Char.ofNat 97), (Char.ofNat 108), (Char.ofNat 108), (Char.ofNat 98), (Char.ofNat 111), (Char.ofNat 97), (Char.ofNat 114), (Char.ofNat 100), (Char.ofNat 47), (Char.ofNat 99), (Char.ofNat 97), (Char.ofNat 108), (Char.ofNat 108), (Char.ofNat 98), (Char.ofNat 111), (Char.ofNat 97), (Char.ofNat 114), (Char.ofNat 100), (Char.ofNat 108), (Char.ofNat 97), (Char.ofNat 119), (Char.ofNat 48), (Char.ofNat 52), (Char.ofNat 46), (Char.ofNat 80), (Char.ofNat 97), (Char.ofNat 103), (Char.ofNat 101), (Char.ofNat 78), (Char.ofNat 97), (Char.ofNat 109), (Char.ofNat 101), (Char.ofNat 115), (Char.ofNat 32), (Char.ofNat 99), (Char.ofNat 97), (Char.ofNat 108), (Char.ofNat 108), (Char.ofNat 98), (Char.ofNat 111), (Char.ofNat 97), (Char.ofNat 114), (Char.ofNat 100), (Char.ofNat 47), (Char.ofNat 99), (Char.ofNat 97), (Char.ofNat 108), (Char.ofNat 108), (Char.ofNat 98), (Char.ofNat 111), (Char.ofNat 97), (Char.ofNat 114), (Char.ofNat 100), (Char.ofNat 108), (Char.ofNat 97), (Char.ofNat 119), (Char.ofNat 48), (Char.ofNat 54), (Char.ofNat 46), (Char.ofNat 76), (Char.ofNat 101), (Char.ofNat 97), (Char.ofNat 102), (Char.ofNat 78), (Char.ofNat 97), (Char.ofNat 109), (Char.ofNat 101), (Char.ofNat 115), (Char.ofNat 32), (Char.ofNat 99), (Char.ofNat 97), (Char.ofNat 108), (Char.ofNat 108), (Char.ofNat 98), (Char.ofNat 111), (Char.ofNat 97), (Char.ofNat 114), (Char.ofNat 100), (Char.ofNat 47), (Char.ofNat 99), (Char.ofNat 97), (Char.ofNat 108), (Char.ofNat 108), (Char.ofNat 98), (Char.ofNat 111), (Char.ofNat 97), (Char.ofNat 114), (Char.ofNat 100), (Char.ofNat 108), (Char.ofNat 97), (Char.ofNat 119), (Char.ofNat 48), (Char.ofNat 54), (Char.ofNat 46), (Char.ofNat 76), (Char.ofNat 101), (Char.ofNat 97), (Char.ofNat 102), (Char.ofNat 84), (Char.ofNat 101), (Char.ofNat 108), (Char.ofNat 108), (Char.ofNat 115), (Char.ofNat 32), (Char.ofNat 99), (Char.ofNat 97), (Char.ofNat 108), (Char.ofNat 108), (Char.ofNat 98), (Char.ofNat 111), (Char.ofNat 97), (Char.ofNat 114), (Char.ofNat 100), (Char.ofNat 47), (Char.ofNat 99), (Char.ofNat 97), (Char.ofNat 108), (Char.ofNat 108), (Char.ofNat 98), (Char.ofNat 111), (Char.ofNat 97), (Char.ofNat 114), (Char.ofNat 100), (Char.ofNat 108), (Char.ofNat 97), (Char.ofNat 119), (Char.ofNat 48), (Char.ofNat 54), (Char.ofNat 46), (Char.ofNat 76), (Char.ofNat 101), (Char.ofNat 97), (Char.ofNat 102), (Char.ofNat 75), (Char.ofNat 101), (Char.ofNat 121), (Char.ofNat 115), (Char.ofNat 32), (Char.ofNat 99), (Char.ofNat 97), (Char.ofNat 108), (Char.ofNat 108), (Char.ofNat 98), (Char.ofNat 111), (Char.ofNat 97), (Char.ofNat 114), (Char.ofNat 100), (Char.ofNat 47), (Char.ofNat 99), (Char.ofNat 97), (Char.ofNat 108), (Char.ofNat 108), (Char.ofNat 98), (Char.ofNat 111), (Char.ofNat 97), (Char.ofNat 114), (Char.ofNat 100), (Char.ofNat 108), (Char.ofNat 97), (Char.ofNat 119), (Char.ofNat 48), (Char.ofNat 54), (Char.ofNat 46), (Char.ofNat 76), (Char.ofNat 101), (Char.ofNat 97), (Char.ofNat 102), (Char.ofNat 83), (Char.ofNat 112), (Char.ofNat 108), (Char.ofNat 105), (Char.ofNat 116), (Char.ofNat 115), (Char.ofNat 32), (Char.ofNat 99), (Char.ofNat 97), (Char.ofNat 108), (Char.ofNat 108), (Char.ofNat 98), (Char.ofNat 111), (Char.ofNat 97), (Char.ofNat 114), (Char.ofNat 100), (Char.ofNat 47), (Char.ofNat 99), (Char.ofNat 97), (Char.ofNat 108), (Char.ofNat 108), (Char.ofNat 98), (Char.ofNat 111), (Char.ofNat 97), (Char.ofNat 114), (Char.ofNat 100), (Char.ofNat 108), (Char.ofNat 97), (Char.ofNat 119), (Char.ofNat 48), (Char.ofNat 54), (Char.ofNat 46), (Char.ofNat 76), (Char.ofNat 101), (Char.ofNat 97), (Char.ofNat 102), (Char.ofNat 80), (Char.ofNat 117), (Char.ofNat 116), (Char.ofNat 115), (Char.ofNat 32), (Char.ofNat 99), (Char.ofNat 97), (Char.ofNat 108), (Char.ofNat 108), (Char.ofNat 98), (Char.ofNat 111), (Char.ofNat 97), (Char.ofNat 114), (Char.ofNat 100), (Char.ofNat 47), (Char.ofNat 99), (Char.ofNat 97), (Char.ofNat 108), (Char.ofNat 108), (Char.ofNat 98), (Char.ofNat 111), (Char.ofNat 97), (Char.ofNat 114), (Char.ofNat 100), (Char.ofNat 108), (Char.ofNat 97), (Char.ofNat 119), (Char.ofNat 48), (Char.ofNat 51), (Char.ofNat 46), (Char.ofNat 68), (Char.ofNat 105), (Char.ofNat 115), (Char.ofNat 107), (Char.ofNat 82), (Char.ofNat 101), (Char.ofNat 97), (Char.ofNat 100), (Char.ofNat 115), (Char.ofNat 32), (Char.ofNat 99), (Char.ofNat 97), (Char.ofNat 108), (Char.ofNat 108), (Char.ofNat 98), (Char.ofNat 111), (Char.ofNat 97), (Char.ofNat 114), (Char.ofNat 100), (Char.ofNat 47), (Char.ofNat 99), (Char.ofNat 97), (Char.ofNat 108), (Char.ofNat 108), (Char.ofNat 98), (Char.ofNat 111), (Char.ofNat 97), (Char.ofNat 114), (Char.ofNat 100), (Char.ofNat 108), (Char.ofNat 97), (Char.ofNat 119), (Char.ofNat 48), (Char.ofNat 51), (Char.ofNat 46), (Char.ofNat 68), (Char.ofNat 105), (Char.ofNat 115), (Char.ofNat 107), (Char.ofNat 67), (Char.ofNat 114), (Char.ofNat 97), (Char.ofNat 115), (Char.ofNat 104), (Char.ofNat 32), (Char.ofNat 99), (Char.ofNat 97), (Char.ofNat 108), (Char.ofNat 108), (Char.ofNat 98), (Char.ofNat 111), (Char.ofNat 97), (Char.ofNat 114), (Char.ofNat 100), (Char.ofNat 47), (Char.ofNat 99), (Char.ofNat 97), (Char.ofNat 108), (Char.ofNat 108), (Char.ofNat 98), (Char.ofNat 111), (Char.ofNat 97), (Char.ofNat 114), (Char.ofNat 100), (Char.ofNat 108), (Char.ofNat 97), (Char.ofNat 119), (Char.ofNat 48), (Char.ofNat 51), (Char.ofNat 46), (Char.ofNat 68), (Char.ofNat 105), (Char.ofNat 115), (Char.ofNat 107), (Char.ofNat 70), (Char.ofNat 108), (Char.ofNat 117), (Char.ofNat 115), (Char.ofNat 104), (Char.ofNat 101), (Char.ofNat 100), (Char.ofNat 32), (Char.ofNat 99), (Char.ofNat 97), (Char.ofNat 108), (Char.ofNat 108), (Char.ofNat 98), (Char.ofNat 111), (Char.ofNat 97), (Char.ofNat 114), (Char.ofNat 100), (Char.ofNat 47), (Char.ofNat 99), (Char.ofNat 97), (Char.ofNat 108), (Char.ofNat 108), (Char.ofNat 98), (Char.ofNat 111), (Char.ofNat 97), (Char.ofNat 114), (Char.ofNat 100), (Char.ofNat 108), (Char.ofNat 97), (Char.ofNat 119), (Char.ofNat 48), (Char.ofNat 51), (Char.ofNat 46), (Char.ofNat 68), (Char.ofNat 105), (Char.ofNat 115), (Char.ofNat 107), (Char.ofNat 80), (Char.ofNat 108), (Char.ofNat 97), (Char.ofNat 121), (Char.ofNat 115), (Char.ofNat 32), (Char.ofNat 99), (Char.ofNat 97), (Char.ofNat 108), (Char.ofNat 108), (Char.ofNat 98), (Char.ofNat 111), (Char.ofNat 97), (Char.ofNat 114), (Char.ofNat 100), (Char.ofNat 47), (Char.ofNat 99), (Char.ofNat 97), (Char.ofNat 108), (Char.ofNat 108), (Char.ofNat 98), (Char.ofNat 111), (Char.ofNat 97), (Char.ofNat 114), (Char.ofNat 100), (Char.ofNat 108), (Char.ofNat 97), (Char.ofNat 119), (Char.ofNat 48), (Char.ofNat 51), (Char.ofNat 46), (Char.ofNat 68), (Char.ofNat 105), (Char.ofNat 115), (Char.ofNat 107), (Char.ofNat 68), (Char.ofNat 101), (Char.ofNat 97), (Char.ofNat 100), (Char.ofNat 32), (Char.ofNat 99), (Char.ofNat 97), (Char.ofNat 108), (Char.ofNat 108), (Char.ofNat 98), (Char.ofNat 111), (Char.ofNat 97), (Char.ofNat 114), (Char.ofNat 100), (Char.ofNat 47), (Char.ofNat 99), (Char.ofNat 97), (Char.ofNat 108), (Char.ofNat 108), (Char.ofNat 98), (Char.ofNat 111), (Char.ofNat 97), (Char.ofNat 114), (Char.ofNat 100), (Char.ofNat 108), (Char.ofNat 97), (Char.ofNat 119), (Char.ofNat 48), (Char.ofNat 51), (Char.ofNat 46), (Char.ofNat 68), (Char.ofNat 105), (Char.ofNat 115), (Char.ofNat 107), (Char.ofNat 78), (Char.ofNat 97), (Char.ofNat 109), (Char.ofNat 101), (Char.ofNat 115), (Char.ofNat 32), (Char.ofNat 99), (Char.ofNat 97), (Char.ofNat 108), (Char.ofNat 108), (Char.ofNat 98), (Char.ofNat 111), (Char.ofNat 97), (Char.ofNat 114), (Char.ofNat 100), (Char.ofNat 47), (Char.ofNat 99), (Char.ofNat 97), (Char.ofNat 108), (Char.ofNat 108), (Char.ofNat 98), (Char.ofNat 111), (Char.ofNat 97), (Char.ofNat 114), (Char.ofNat 100), (Char.ofNat 108), (Char.ofNat 97), (Char.ofNat 119), (Char.ofNat 48), (Char.ofNat 52), (Char.ofNat 46), (Char.ofNat 80), (Char.ofNat 97), (Char.ofNat 103), (Char.ofNat 101), (Char.ofNat 66), (Char.ofNat 97), (Char.ofNat 99), (Char.ofNat 107), (Char.ofNat 32), (Char.ofNat 99), (Char.ofNat 97), (Char.ofNat 108), (Char.ofNat 108), (Char.ofNat 98), (Char.ofNat 111), (Char.ofNat 97), (Char.ofNat 114), (Char.ofNat 100), (Char.ofNat 47), (Char.ofNat 99), (Char.ofNat 97), (Char.ofNat 108), (Char.ofNat 108), (Char.ofNat 98), (Char.ofNat 111), (Char.ofNat 97), (Char.ofNat 114), (Char.ofNat 100), (Char.ofNat 108), (Char.ofNat 97), (Char.ofNat 119), (Char.ofNat 48), (Char.ofNat 52), (Char.ofNat 46), (Char.ofNat 80), (Char.ofNat 97), (Char.ofNat 103), (Char.ofNat 101), (Char.ofNat 84), (Char.ofNat 111), (Char.ofNat 114), (Char.ofNat 110), (Char.ofNat 32), (Char.ofNat 99), (Char.ofNat 97), (Char.ofNat 108), (Char.ofNat 108), (Char.ofNat 98), (Char.ofNat 111), (Char.ofNat 97), (Char.ofNat 114), (Char.ofNat 100), (Char.ofNat 47), (Char.ofNat 99), (Char.ofNat 97), (Char.ofNat 108), (Char.ofNat 108), (Char.ofNat 98), (Char.ofNat 111), (Char.ofNat 97), (Char.ofNat 114), (Char.ofNat 100), (Char.ofNat 108), (Char.ofNat 97), (Char.ofNat 119), (Char.ofNat 48), (Char.ofNat 52), (Char.ofNat 46), (Char.ofNat 80), (Char.ofNat 97), (Char.ofNat 103), (Char.ofNat 101), (Char.ofNat 77), (Char.ofNat 97), (Char.ofNat 114), (Char.ofNat 107), (Char.ofNat 101), (Char.ofNat 100), (Char.ofNat 32), (Char.ofNat 99), (Char.ofNat 97), (Char.ofNat 108), (Char.ofNat 108), (Char.ofNat 98), (Char.ofNat 111), (Char.ofNat 97), (Char.ofNat 114), (Char.ofNat 100), (Char.ofNat 47), (Char.ofNat 99), (Char.ofNat 97), (Char.ofNat 108), (Char.ofNat 108), (Char.ofNat 98), (Char.ofNat 111), (Char.ofNat 97), (Char.ofNat 114), (Char.ofNat 100), (Char.ofNat 108), (Char.ofNat 97), (Char.ofNat 119), (Char.ofNat 48), (Char.ofNat 52), (Char.ofNat 46), (Char.ofNat 80), (Char.ofNat 97), (Char.ofNat 103), (Char.ofNat 101), (Char.ofNat 80), (Char.ofNat 108), (Char.ofNat 97), (Char.ofNat 121), (Char.ofNat 115)]
set_option maxRecDepth 100000 in
theorem ioE : Try.prog.initOrder = String.ofList ioL := by kernel_rfl
theorem ioT : Try.prog.initOrder.toList = ioL := by rw [ioE]; exact String.toList_ofList
def restL : List (List Char) := (wordsSigns ioL).drop 3
theorem hb : behindMainWord (wordsSigns Try.prog.initOrder.toList) = [(Char.ofNat 99), (Char.ofNat 117), (Char.ofNat 116)] :: restL := by rw [ioT]; kernel_rfl
theorem a1 : Try.prog.laysLater = false := by kernel_rfl
theorem a2 : Try.prog.bearsReflect = false := by kernel_rfl
theorem a3 : stripLifts liftWords ([(Char.ofNat 99), (Char.ofNat 117), (Char.ofNat 116)] :: restL) = ([], [(Char.ofNat 99), (Char.ofNat 117), (Char.ofNat 116)] :: restL) := by kernel_rfl
theorem a5 : Try.prog.doorFits [] = true := by kernel_rfl
theorem own : ownKnob Try.prog.godebug = none := by kernel_rfl
theorem laidOut : laidOutB Try.prog = true := by kernel_rfl
end Go.Proofs.Ytjmdfmafnenjnaa.Hd

/-! Contracts of functions that are handed own objects: what they find in them, and what they leave. -/
namespace Go.Sx
open Go

/-- By plain data: the arguments over objects 0, 1, .., what these bear, what is owed, what they bear behind the call (new ones behind them), and the answer. -/
structure Spec (X : Type) where
  args : X → List AV
  heap : X → List AObj
  pre : X → List Prop
  outH : X → List AObj
  out : X → AV

def FnS (P : Program) (Z : Glob) (f : FuncId) {X : Type} (S : Spec X) : Prop :=
  ∀ x, Needs (S.pre x) → ∀ (ρ : Nat → Value) (G : Nat → Prop) (w : World) (vs : List Value), ZAt Z ρ (lk (S.heap x)) w → Sat ρ (lk (S.heap x)) G w →
    DenL ρ (lk (S.heap x)) (Hot ρ (lk (S.heap x)) G) w (S.args x) vs →
    Calls P f vs.toArray w fun e w' => ∃ v, e = .returned v ∧ Good ρ (lk (S.heap x)) G w (lk (S.outH x)) (S.out x) v w'

/-- The run's end, seen by a Norm. -/
def EndS {X : Type} (S : Spec X) (x : X) (L : List AObj) (r : AV) : Prop :=
  ∃ N : Norm, (S.heap x).length ≤ N.m ∧ N.run ⟨[r], L, [], {}⟩ = some ⟨[S.out x], S.outH x, [], {}⟩

def RM.bind {α β : Type} : RM α → (α → RM β) → RM β
  | .ret a, k => k a
  | .look id f, k => .look id fun o => (f o).bind k
  | .fail w, _ => .fail w

def lookAll : List Nat → (List AObj → RM Res) → RM Res
  | [], k => k []
  | i :: is, k => .look i fun o => match o with
    | some o => lookAll is fun os => k (o :: os)
    | none => .fail "no object"

/-- The callee's numbers, seen by the caller. -/
def back (σ : List Nat) (base n : Nat) (j : Nat) : Option Nat := bif j.blt σ.length then σ[j]? else bif j.blt n then some (base + (j - σ.length)) else none

/-- The summary: M tells the data and the objects; that it is right is owed. -/
def sumS {X : Type} (S : Spec X) (M : List AV → RM (X × List Nat)) : Nat → List AV → RM Res := fun base args =>
  (M args).bind fun (x, σ) => bif nodupB σ then lookAll σ fun os =>
    (match allM (rnO (back σ base (S.outH x).length)) (S.outH x), rn (back σ base (S.outH x).length) 20 (S.out x) with
     | some L', some r => bif σ.length.ble L'.length then
        .ret ⟨(allM (rn (idx σ) 20) args = some (S.args x)) :: (allM (rnO (idx σ)) os = some (S.heap x)) :: S.pre x, σ.zip L', L'.drop σ.length, fun _ => r⟩ else .fail "sum: objects are gone"
     | _, _ => .fail "sum: names")
   else .fail "sum: one object twice"

section
variable {ρ ρ' : Nat → Value} {H H' : AHeap} {G O O' : Nat → Prop} {w w' : World} {P : Program} {Z : Glob} {X : Type} {S : Spec X}

theorem RM.bind_eval {α β : Type} : ∀ {m : RM α} {k : α → RM β} {q : β}, (m.bind k).eval H = some q → ∃ a, m.eval H = some a ∧ (k a).eval H = some q
  | .ret a, k, q, h => ⟨a, rfl, h⟩
  | .look id f, k, q, h => by
    simp only [RM.bind, RM.eval] at h ⊢
    exact RM.bind_eval h
  | .fail w, k, q, h => by simp [RM.bind, RM.eval] at h

theorem lookAll_eval : ∀ {is : List Nat} {k : List AObj → RM Res} {q : Res}, (lookAll is k).eval H = some q → ∃ os : List AObj, (k os).eval H = some q ∧ os.length = is.length ∧ ∀ (j id : Nat), is[j]? = some id → H id = os[j]? ∧ os[j]?.isSome = true
  | [], k, q, h => ⟨[], h, rfl, fun j id hj => by simp at hj⟩
  | i :: is, k, q, h => by
    simp only [lookAll, RM.eval] at h
    split at h
    · rename_i o ho
      obtain ⟨os, h1, h2, h3⟩ := lookAll_eval h
      refine ⟨o :: os, h1, by simp [h2], fun j id hj => ?_⟩
      cases j with
      | zero => simp only [List.getElem?_cons_zero, Option.some.injEq] at hj; subst hj; exact ⟨by simpa using ho, rfl⟩
      | succ j => simpa using h3 j id (by simpa using hj)
    · simp [RM.eval] at h

theorem fnS_of_safe {f : FuncId} {fn : Func} (hf : P.funcs[f]? = some fn) (hb : fn.body.isSome = true) (hn : ∀ x, (S.args x).length ≤ fn.ntmps)
    (h : ∀ x, Needs (S.pre x) → ∀ X : Ctx, X.H = lk (S.heap x) → ZCtx Z X → Safe P f X (EndS S x) (start fn (S.args x) (S.heap x))) : FnS P Z f S := by
  intro x hpre ρ G w vs hz hs hd
  obtain ⟨c, hb⟩ := Option.isSome_iff_exists.1 hb
  have hlenV : vs.length = (S.args x).length := by
    have : ∀ {azs : List AV} {vs : List Value}, DenL ρ (lk (S.heap x)) (Hot ρ (lk (S.heap x)) G) w azs vs → vs.length = azs.length := by
      intro azs
      induction azs with
      | nil => intro vs h; rw [DenL_nil.1 h]; rfl
      | cons a azs ih => intro vs h; obtain ⟨v, rest, rfl, _, h2⟩ := DenL_cons.1 h; simp [ih h2]
    exact this hd
  refine (calls_of_goes (R := Post ⟨ρ, lk (S.heap x), G, w, []⟩ (EndS S x)) hf hb ?_).mono ?_
  · have := (h x hpre ⟨ρ, lk (S.heap x), G, w, []⟩ rfl hz).goes rfl rfl (ρ := ρ) (a := { tmps := vs.toArray ++ Array.replicate (fn.ntmps - vs.toArray.size) undef, defers := [] }) (w := w)
    simp only [start, hb, Option.getD_some] at this
    refine this ⟨hs, ?_, fun t => ?_, rfl, Step.refl _ _ _ _, ⟨rfl, rfl, rfl, fun _ _ _ => rfl⟩, fun x hx => by cases hx⟩
    · simp [hlenV]
    · have e1 : ∀ (azs : List AV) (vs : List Value), DenL ρ (lk (S.heap x)) (Hot ρ (lk (S.heap x)) G) w azs vs → ∀ t, DenV ρ (lk (S.heap x)) (Hot ρ (lk (S.heap x)) G) w (azs.getD t (.tup [])) (vs.getD t undef) := by
        intro azs
        induction azs with
        | nil => intro vs h t; rw [DenL_nil.1 h]; simp only [List.getD, List.getElem?_nil, Option.getD_none]; exact den_undef
        | cons a azs ih =>
          intro vs h t
          obtain ⟨v, rest, rfl, h1, h2⟩ := DenL_cons.1 h
          cases t with
          | zero => simpa using h1
          | succ t => simpa using ih rest h2 t
      have h1 := e1 _ _ hd t
      simp only [List.getD_eq_getElem?_getD, List.getElem?_append, List.getElem?_replicate, Array.getD_eq_getD_getElem?, Array.getElem?_append, List.getElem?_toArray, Array.getElem?_replicate, List.size_toArray] at h1 ⊢
      rw [hlenV]
      split
      · rename_i ht
        have hv : vs[t]? = some vs[t] := List.getElem?_eq_getElem (by omega)
        have ha : (S.args x)[t]? = some (S.args x)[t] := List.getElem?_eq_getElem ht
        rw [hv, ha] at h1 ⊢
        exact h1
      · split
        · exact den_undef
        · unfold DenV; trivial
  · rintro e w' ⟨v, rfl, L, r, ⟨N, hm, hN⟩, ρ1, g1, g2, g3, g4⟩
    refine ⟨v, rfl, ?_⟩
    have r0 : Rep ⟨ρ, lk (S.heap x), G, w, []⟩ ρ1 ⟨[r], L⟩ { tmps := #[v], defers := [] } w' := by
      refine ⟨g1, rfl, fun t => ?_, rfl, g3, g4, fun x hx => by cases hx⟩
      cases t with
      | zero => exact g2
      | succ t => simp only [List.getD, Array.getD]; simp; unfold DenV; trivial
    have h0 : ∀ id, N.m ≤ id → (⟨ρ, lk (S.heap x), G, w, []⟩ : Ctx).H id = none := fun id hid => by simp [lk]; omega
    unfold Norm.run at hN
    split at hN
    · rename_i t1 L1 h1
      simp only [] at hN
      split at hN
      · rename_i t2 L2 h2
        simp only [Option.some.injEq, Cfg.mk.injEq, and_true] at hN
        obtain ⟨rfl, rfl⟩ := hN
        obtain ⟨ρ1, r1⟩ := Rep.compact h0 h1 (Rep.keepOnly N.keep r0)
        obtain ⟨ρ2, r2⟩ := Rep.nilSlots N.nils r1
        obtain ⟨ρ3, r3⟩ := Rep.nilCells N.cells r2
        obtain ⟨ρ4, r4⟩ := Rep.compact h0 h2 r3
        exact ⟨ρ4, r4.sat, (by have h := r4.den 0; exact h), r4.from_, r4.frm⟩
      · cases hN
    · cases hN

theorem find_zip : ∀ {σ : List Nat} {L : List AObj} {j : Nat}, σ.Nodup → σ.length ≤ L.length →
    (∀ (i : Nat), σ[i]? = some j → findUp (σ.zip L) j = L[i]?) ∧ (j ∉ σ → findUp (σ.zip L) j = none)
  | [], L, j, hn, hl => ⟨fun i h => by simp at h, fun _ => rfl⟩
  | x :: xs, [], j, hn, hl => by simp at hl
  | x :: xs, l :: ls, j, hn, hl => by
    obtain ⟨h1, h2⟩ := find_zip (σ := xs) (L := ls) (j := j) (List.nodup_cons.1 hn).2 (by simpa using hl)
    constructor
    · intro i hi
      simp only [List.zip_cons_cons, findUp]
      cases i with
      | zero =>
        simp only [List.getElem?_cons_zero, Option.some.injEq] at hi
        subst hi
        rw [h2 (List.nodup_cons.1 hn).1]
        simp
      | succ i =>
        simp only [List.getElem?_cons_succ] at hi ⊢
        rw [h1 i hi]
        have hlt : i < xs.length := (List.getElem?_eq_some_iff.1 hi).1
        simp only [List.length_cons] at hl
        rw [List.getElem?_eq_getElem (show i < ls.length by omega)]
    · intro hj
      simp only [List.mem_cons, not_or] at hj
      simp only [List.zip_cons_cons, findUp]
      rw [h2 hj.2]
      simp [hj.1]

theorem FnS.sum {f : FuncId} (h : FnS P Z f S) (M : List AV → RM (X × List Nat)) : SOk1 P Z f (sumS S M) := by
  intro base args H q hq hn ρ G w vs hfresh hz hs hd
  unfold sumS at hq
  obtain ⟨⟨x, σ⟩, _, hq⟩ := RM.bind_eval hq
  simp only [Bool.cond_eq_ite] at hq
  split at hq
  · rename_i hnd
    have hnd := nodupB_spec hnd
    obtain ⟨os, hq, hlen, hos⟩ := lookAll_eval hq
    split at hq
    · rename_i L' r hL' hr
      split at hq
      · rename_i hle
        have hle := Nat.le_of_ble_eq_true hle
        simp only [RM.eval, Option.some.injEq] at hq
        subst hq
        obtain ⟨hargs, hheap, hpre⟩ := hn
        simp only [] at hfresh ⊢
        -- the view
        have hin : ∀ {j : Nat} {o' : AObj}, (S.heap x)[j]? = some o' → ∃ (id : Nat) (o : AObj), σ[j]? = some id ∧ H id = some o ∧ rnO (idx σ) o = some o' := by
          intro j o' ho'
          have hl := allM_length hheap
          have hj : j < os.length := by rw [← hl]; exact (List.getElem?_eq_some_iff.1 ho').1
          obtain ⟨b, g1, g2⟩ := allM_get hheap j os[j] (List.getElem?_eq_getElem hj)
          rw [ho'] at g2
          cases g2
          have hj2 : j < σ.length := by omega
          have := (hos j σ[j] (List.getElem?_eq_getElem hj2)).1
          exact ⟨σ[j], os[j], List.getElem?_eq_getElem hj2, by rw [this, List.getElem?_eq_getElem hj], g1⟩
        have hout : ∀ {j id : Nat}, σ[j]? = some id → ∃ o o', H id = some o ∧ rnO (idx σ) o = some o' ∧ (S.heap x)[j]? = some o' := by
          intro j id hj
          obtain ⟨g1, g2⟩ := hos j id hj
          obtain ⟨o, ho⟩ := Option.isSome_iff_exists.1 g2
          obtain ⟨b, g3, g4⟩ := allM_get hheap j o ho
          exact ⟨o, b, g1.trans ho, g3, g4⟩
        have hpull : ∀ {j id : Nat}, σ[j]? = some id → pull σ ρ j = ρ id := fun h1 => by simp [pull, List.getD, h1]
        have hown : ∀ {b : Nat}, Own (pull σ ρ) (lk (S.heap x)) b → ∃ (j id : Nat) (o : AObj), σ[j]? = some id ∧ H id = some o ∧ o.alive = true ∧ blk (ρ id) = some b := by
          rintro b ⟨j, o', ho', ha, hb⟩
          obtain ⟨id, o, h1, h2, h3⟩ := hin ho'
          rw [hpull h1] at hb
          exact ⟨j, id, o, h1, h2, by rw [← (rnO_alive h3).1]; exact ha, hb⟩
        let G' : Nat → Prop := fun b => Hot ρ H G b ∧ ¬ Own (pull σ ρ) (lk (S.heap x)) b
        have E : Emb (idx σ) ρ H (Hot ρ H G) (pull σ ρ) (lk (S.heap x)) (Hot (pull σ ρ) (lk (S.heap x)) G') := by
          refine ⟨fun i j hij => ?_, fun b hb => ?_⟩
          · have h1 := idx_spec hij
            refine ⟨hpull h1, fun o ho => ?_⟩
            obtain ⟨o1, o', h2, h3, h4⟩ := hout h1
            rw [ho] at h2
            cases h2
            exact ⟨o', h4, (rnO_alive h3).2⟩
          · rcases hb with hb | hb
            · obtain ⟨j, id, o, h1, h2, h3, h4⟩ := hown hb
              exact .inl ⟨id, o, h2, h3, h4⟩
            · exact hb.1
        have hsat : Sat (pull σ ρ) (lk (S.heap x)) G' w := by
          refine ⟨fun j o' ho' => ?_, fun i j oi oj b hi hj ai aj bi bj => ?_, fun b hb hG => hG.2 hb, fun b hb => hot_lt hs hb.1⟩
          · obtain ⟨id, o, h1, h2, h3⟩ := hin ho'
            rw [hpull h1]
            exact rnO_sat E h3 (hs.obj id o h2)
          · obtain ⟨id, o, h1, h2, h3⟩ := hin hi
            obtain ⟨id', o', h1', h2', h3'⟩ := hin hj
            rw [hpull h1] at bi
            rw [hpull h1'] at bj
            have := hs.inj id id' o o' b h2 h2' (by rw [← (rnO_alive h3).1]; exact ai) (by rw [← (rnO_alive h3').1]; exact aj) bi bj
            subst this
            obtain ⟨hi1, hi2⟩ := List.getElem?_eq_some_iff.1 h1
            obtain ⟨hj1, hj2⟩ := List.getElem?_eq_some_iff.1 h1'
            exact (List.getElem_inj hnd).1 (hi2.trans hj2.symm)
        have hz' : ZAt Z (pull σ ρ) (lk (S.heap x)) w := ⟨hz.1, fun b hb ho => by
          obtain ⟨j, id, o, h1, h2, h3, h4⟩ := hown ho
          exact hz.2 b hb ⟨id, o, h2, h3, h4⟩⟩
        have hd' := rnL_den E hargs hd
        refine (h x hpre (pull σ ρ) G' w vs hz' hsat hd').mono ?_
        rintro e w' ⟨v, he, ρ1, g1, g2, g3, g4⟩
        refine ⟨v, he, ?_⟩
        -- back again
        have hlenL := allM_length hL'
        generalize hn0 : (S.outH x).length = n0 at *
        have hnew : ∀ {j : Nat}, σ.length ≤ j → j < n0 → H (base + (j - σ.length)) = none := by
          intro j h1 h2
          exact hfresh (j - σ.length) (by simp; omega)
        have hnin : ∀ {id : Nat} {o : AObj}, H id = some o → ¬ (base ≤ id ∧ id < base + (L'.length - σ.length)) := by
          intro id o ho hc
          have := hnew (j := σ.length + (id - base)) (by omega) (by omega)
          rw [show base + (σ.length + (id - base) - σ.length) = id from by omega, ho] at this
          cases this
        let ρ2 : Nat → Value := fun id => if base ≤ id ∧ id < base + (L'.length - σ.length) then ρ1 (σ.length + (id - base)) else ρ id
        let H2 := resH H (σ.zip L') base (L'.drop σ.length)
        have hL1 : ∀ {j : Nat} {o2 : AObj}, L'[j]? = some o2 → ∃ o, (S.outH x)[j]? = some o ∧ rnO (back σ base n0) o = some o2 := by
          intro j o2 h1
          have hj : j < (S.outH x).length := by have := (List.getElem?_eq_some_iff.1 h1).1; omega
          obtain ⟨b, h2, h3⟩ := allM_get hL' j (S.outH x)[j] (List.getElem?_eq_getElem hj)
          rw [h1] at h3
          cases h3
          exact ⟨_, List.getElem?_eq_getElem hj, h2⟩
        have hρσ : ∀ {j id : Nat}, σ[j]? = some id → ρ2 id = ρ id ∧ ρ1 j = ρ id := by
          intro j id hj
          obtain ⟨o, o', h1, h2, h3⟩ := hout hj
          refine ⟨?_, ?_⟩
          · simp only [ρ2]; rw [if_neg (hnin h1)]
          · rw [g3.rho j o' h3, hpull hj]
        have hH2a : ∀ {j id : Nat}, σ[j]? = some id → H2 id = L'[j]? := by
          intro j id hj
          have hlt : j < σ.length := (List.getElem?_eq_some_iff.1 hj).1
          have := (find_zip (σ := σ) (L := L') (j := id) hnd hle).1 j hj
          simp only [H2, resH, this]
          rw [List.getElem?_eq_getElem (show j < L'.length by omega)]
        have hni : ∀ {id : Nat}, (base ≤ id ∧ id < base + (L'.length - σ.length)) → id ∉ σ := by
          intro id hc hm
          obtain ⟨i, hi⟩ := List.getElem?_of_mem hm
          obtain ⟨o, _, h3, _⟩ := hout hi
          exact hnin h3 hc
        have hH2b : ∀ {id : Nat}, (base ≤ id ∧ id < base + (L'.length - σ.length)) → H2 id = L'[σ.length + (id - base)]? := by
          intro id hc
          simp only [H2, resH, (find_zip (σ := σ) (L := L') hnd hle).2 (hni hc)]
          rw [if_pos (by simp only [List.length_drop]; exact hc)]
          simp only [List.getElem?_drop]
        have hH2c : ∀ {id : Nat}, id ∉ σ → ¬ (base ≤ id ∧ id < base + (L'.length - σ.length)) → H2 id = H id := by
          intro id h1 h2
          simp only [H2, resH, (find_zip (σ := σ) (L := L') hnd hle).2 h1]
          rw [if_neg (by simp only [List.length_drop]; exact h2)]
        have cls : ∀ {id : Nat} {o2 : AObj}, H2 id = some o2 → (∃ (j : Nat) (o : AObj), (S.outH x)[j]? = some o ∧ rnO (back σ base n0) o = some o2 ∧ ρ2 id = ρ1 j ∧ back σ base n0 j = some id) ∨ (id ∉ σ ∧ H id = some o2 ∧ ρ2 id = ρ id) := by
          intro id o2 ho
          by_cases hm : id ∈ σ
          · obtain ⟨j, hj⟩ := List.getElem?_of_mem hm
            rw [hH2a hj] at ho
            obtain ⟨o, h1, h2⟩ := hL1 ho
            obtain ⟨h3, h4⟩ := hρσ hj
            exact .inl ⟨j, o, h1, h2, by rw [h3, h4], by simp only [back, blt_t (List.getElem?_eq_some_iff.1 hj).1, cond_true]; exact hj⟩
          · by_cases hc : base ≤ id ∧ id < base + (L'.length - σ.length)
            · rw [hH2b hc] at ho
              obtain ⟨o, h1, h2⟩ := hL1 ho
              refine .inl ⟨_, o, h1, h2, by simp only [ρ2]; rw [if_pos hc], ?_⟩
              simp only [back, blt_f (show σ.length ≤ σ.length + (id - base) by omega), cond_false, blt_t (show σ.length + (id - base) < n0 by omega), cond_true]
              congr 1; omega
            · rw [hH2c hm hc] at ho
              exact .inr ⟨hm, ho, by simp only [ρ2]; rw [if_neg hc]⟩
        have view_not : ∀ {id b : Nat} {o : AObj}, id ∉ σ → H id = some o → o.alive = true → blk (ρ id) = some b → ¬ Own (pull σ ρ) (lk (S.heap x)) b := by
          intro id b o hm ho ha hb hv
          obtain ⟨j, id', o', h1, h2, h3, h4⟩ := hown hv
          have := hs.inj id id' o o' b ho h2 ha h3 hb h4
          subst this
          exact hm (List.mem_of_getElem? h1)
        have g_in : ∀ {b : Nat}, G b → G' b := fun {b} hb => ⟨.inr hb, fun hv => by
          obtain ⟨j, id', o', h1, h2, h3, h4⟩ := hown hv
          exact hs.apart b ⟨id', o', h2, h3, h4⟩ hb⟩
        have own2 : ∀ {b : Nat}, Own ρ2 H2 b → Own ρ1 (lk (S.outH x)) b ∨ (Own ρ H b ∧ G' b) := by
          rintro b ⟨id, o2, ho, ha, hb⟩
          rcases cls ho with ⟨j, o, h1, h2, h3, _⟩ | ⟨h1, h2, h3⟩
          · exact .inl ⟨j, o, h1, by rw [← (rnO_alive h2).1]; exact ha, by rw [← h3]; exact hb⟩
          · rw [h3] at hb
            exact .inr ⟨⟨id, o2, h2, ha, hb⟩, .inl ⟨id, o2, h2, ha, hb⟩, view_not h1 h2 ha hb⟩
        have E2 : Emb (back σ base n0) ρ1 (lk (S.outH x)) (Hot ρ1 (lk (S.outH x)) G') ρ2 H2 (Hot ρ2 H2 G) := by
          refine ⟨fun i j hij => ?_, fun b hb => ?_⟩
          · simp only [back, Bool.cond_eq_ite] at hij
            split at hij
            · rename_i hlt
              obtain ⟨h3, h4⟩ := hρσ hij
              refine ⟨by rw [h3, h4], fun o ho => ?_⟩
              obtain ⟨b, h5, h6⟩ := allM_get hL' i o ho
              exact ⟨b, by rw [hH2a hij]; exact h6, (rnO_alive h5).2⟩
            · rename_i hge
              split at hij
              · rename_i hlt
                have hlt : i < n0 := Nat.le_of_ble_eq_true hlt
                have hge : σ.length ≤ i := by
                  rcases Nat.lt_or_ge i σ.length with h5 | h5
                  · exact absurd (blt_t h5) hge
                  · exact h5
                simp only [Option.some.injEq] at hij
                have hc : base ≤ j ∧ j < base + (L'.length - σ.length) := by omega
                have hi : σ.length + (j - base) = i := by omega
                refine ⟨by simp only [ρ2]; rw [if_pos hc, hi], fun o ho => ?_⟩
                obtain ⟨b, h5, h6⟩ := allM_get hL' i o ho
                exact ⟨b, by rw [hH2b hc, hi]; exact h6, (rnO_alive h5).2⟩
              · cases hij
          · rcases hb with hb | hb
            · exact (own2 hb).imp (fun h => h) (fun h => h.2)
            · exact .inr (g_in hb)
        have st : Step ρ H (Hot ρ H G) w ρ2 H2 (Hot ρ2 H2 G) w' := by
          refine ⟨fun id o ho => by simp only [ρ2]; rw [if_neg (hnin ho)], fun id o ho => ?_, fun b hb => ?_, fun b hb hO => g3.heap b hb (fun hv => hO (E.hot b hv)), g3.size⟩
          · by_cases hm : id ∈ σ
            · obtain ⟨j, hj⟩ := List.getElem?_of_mem hm
              obtain ⟨o1, o', h1, h2, h3⟩ := hout hj
              rw [ho] at h1
              cases h1
              obtain ⟨o'', h4, h5⟩ := g3.keep j o' h3
              obtain ⟨o3, h6, h7⟩ := allM_get hL' j o'' h4
              refine ⟨o3, by rw [hH2a hj]; exact h7, fun c' e' hc => ?_⟩
              obtain ⟨c, e1, h8, h9, h10⟩ := h5 c' e' ((rnO_alive h6).2 c' e' hc)
              exact ⟨c, e1, (rnO_alive h2).2 c e1 h8, h9, h10⟩
            · exact ⟨o, by rw [hH2c hm (hnin ho)]; exact ho, fun c' e' hc => ⟨c', e', hc, rfl, rfl⟩⟩
          · rcases g3.hot b (E2.hot b hb) with h5 | h5
            · exact .inl (E.hot b h5)
            · exact .inr h5
        refine ⟨ρ2, ⟨fun id o2 ho => ?_, fun i j oi oj b hi hj ai aj bi bj => ?_, fun b hb hG => ?_, fun b hb => Nat.lt_of_lt_of_le (hs.low b hb) g3.size⟩, (rn_den E2 20).1 _ _ _ hr g2, st, ⟨g4.os, g4.tape, g4.output, fun b hb hO => g4.heap b hb (fun hv => ?_)⟩⟩
        · rcases cls ho with ⟨j, o, h1, h2, h3, _⟩ | ⟨h1, h2, h3⟩
          · rw [h3]
            exact rnO_sat E2 h2 (g1.obj j o h1)
          · rw [h3]
            refine (hs.obj id o2 h2).step st (fun b ha hb => ?_)
            exact g4.heap b (own_lt hs ⟨id, o2, h2, ha, hb⟩) (view_not h1 h2 ha hb)
        · have mixed : ∀ {b : Nat}, Own ρ1 (lk (S.outH x)) b → ∀ {id : Nat} {o : AObj}, id ∉ σ → H id = some o → o.alive = true → blk (ρ id) = some b → False := by
            intro b h1 id o h2 h3 h4 h5
            have hG : G' b := ⟨.inl ⟨id, o, h3, h4, h5⟩, view_not h2 h3 h4 h5⟩
            exact g1.apart b h1 hG
          rcases cls hi with ⟨j1, o1, p1, p2, p3, p4⟩ | ⟨p1, p2, p3⟩
          · rw [p3] at bi
            have a1 : o1.alive = true := by rw [← (rnO_alive p2).1]; exact ai
            rcases cls hj with ⟨j2, o2, q1, q2, q3, q4⟩ | ⟨q1, q2, q3⟩
            · rw [q3] at bj
              have := g1.inj j1 j2 o1 o2 b p1 q1 a1 (by rw [← (rnO_alive q2).1]; exact aj) bi bj
              subst this
              rw [p4] at q4
              exact Option.some.inj q4
            · rw [q3] at bj
              exact (mixed ⟨j1, o1, p1, a1, bi⟩ q1 q2 aj bj).elim
          · rw [p3] at bi
            rcases cls hj with ⟨j2, o2, q1, q2, q3, q4⟩ | ⟨q1, q2, q3⟩
            · rw [q3] at bj
              exact (mixed ⟨j2, o2, q1, by rw [← (rnO_alive q2).1]; exact aj, bj⟩ p1 p2 ai bi).elim
            · rw [q3] at bj
              exact hs.inj i j oi oj b p2 q2 ai aj bi bj
        · rcases own2 hb with h5 | h5
          · exact g1.apart b h5 (g_in hG)
          · exact hs.apart b h5.1 hG
        · obtain ⟨j, id, o, h1, h2, h3, h4⟩ := hown hv
          exact hO ⟨id, o, h2, h3, h4⟩
      · simp [RM.eval] at hq
    · simp [RM.eval] at hq
  · simp [RM.eval] at hq
end
end Go.Sx

/-! What all texts share: ends, orders of texts, bytes. -/
namespace Lf
open Go Go.Sx

section
variable {L : List AObj}
theorem ends_b {b : Bool} : Ends [.b .bool] (b, ()) L (.s (.bool b)) := rfl
theorem ends_bl {b : Bool} : Ends [.b .bool] (b, ()) L (.s (.blit b)) := rfl
theorem ends_i {n : Int} : Ends [.b (.int .i64)] (n, ()) L (.s (.int .i64 n)) := rfl
theorem ends_il {n : Int} : Ends [.b (.int .i64)] (n, ()) L (.s (.ilit .i64 n)) := rfl
theorem ends_s {s : ByteArray} : Ends [.b .str] (s, ()) L (.s (.str s)) := rfl
theorem ends_si {s : ByteArray} {n : Int} : Ends [.b .str, .b (.int .i64)] (s, n, ()) L (.tup [.s (.str s), .s (.ilit .i64 n)]) := rfl
theorem ends_is {b : Bool} {b' : Bool} (h : b = b') : Ends [.b .bool] (b, ()) L (.s (.bool b')) := by subst h; rfl
theorem ends_isl {b : Bool} {b' : Bool} (h : b = b') : Ends [.b .bool] (b, ()) L (.s (.blit b')) := by subst h; rfl
theorem ends_ii {b b' : Int} (h : b = b') : Ends [.b (.int .i64)] (b, ()) L (.s (.int .i64 b')) := by subst h; rfl
theorem ends_iil {b b' : Int} (h : b = b') : Ends [.b (.int .i64)] (b, ()) L (.s (.ilit .i64 b')) := by subst h; rfl
end

theorem all_no {p : Nat → Bool} {n i : Nat} (hi : i < n) (h : p i = false) : (List.range n).all p = false := by
  rw [List.all_eq_false]
  exact ⟨i, List.mem_range.2 hi, by simp [h]⟩
theorem all_yes {p : Nat → Bool} {n : Nat} (h : ∀ i, i < n → p i = true) : (List.range n).all p = true := by
  rw [List.all_eq_true]
  exact fun i hi => h i (List.mem_range.1 hi)
theorem all_range {p : Nat → Bool} {n : Nat} : (List.range n).all p = true ↔ ∀ i, i < n → p i = true := by
  simp [List.all_eq_true]
theorem any_range {p : Nat → Bool} {n : Nat} : (List.range n).any p = true ↔ ∃ i, i < n ∧ p i = true := by
  simp [List.any_eq_true]
theorem any_yes {p : Nat → Bool} {n i : Nat} (hi : i < n) (h : p i = true) : (List.range n).any p = true := any_range.2 ⟨i, hi, h⟩
theorem any_no {p : Nat → Bool} {n : Nat} (h : ∀ i, i < n → p i = false) : (List.range n).any p = false := by
  rw [List.any_eq_false]
  exact fun i hi => by simp [h i (List.mem_range.1 hi)]

theorem getD_lt {α : Type} {l : List α} {i : Nat} {d : α} (h : i < l.length) : l.getD i d = l[i] := by simp [List.getD, h]

/-! ### the order of texts -/
theorem ba_ext {a b : ByteArray} (h : a.data.toList = b.data.toList) : a = b := by
  cases a; cases b
  simp only [ByteArray.mk.injEq]
  exact Array.toList_inj.1 h

theorem less_irrefl : ∀ (x : List UInt8), Op.bytesLess x x = false
  | [] => rfl
  | a :: x => by simp [Op.bytesLess, less_irrefl x]

theorem less_trans : ∀ {x y z : List UInt8}, Op.bytesLess x y = true → Op.bytesLess y z = true → Op.bytesLess x z = true
  | _, [], _, h, _ => by simp [Op.bytesLess] at h
  | _, _ :: _, [], _, h => by simp [Op.bytesLess] at h
  | [], b :: y, c :: z, _, _ => rfl
  | a :: x, b :: y, c :: z, h1, h2 => by
    simp only [Op.bytesLess, Bool.or_eq_true, decide_eq_true_eq, Bool.and_eq_true, beq_iff_eq] at *
    rcases h1 with h1 | ⟨rfl, h1⟩
    · rcases h2 with h2 | ⟨rfl, h2⟩
      · exact .inl (UInt8.lt_trans h1 h2)
      · exact .inl h1
    · rcases h2 with h2 | ⟨rfl, h2⟩
      · exact .inl h2
      · exact .inr ⟨rfl, less_trans h1 h2⟩

theorem less_total : ∀ (x y : List UInt8), Op.bytesLess x y = true ∨ x = y ∨ Op.bytesLess y x = true
  | [], [] => .inr (.inl rfl)
  | [], _ :: _ => .inl rfl
  | _ :: _, [] => .inr (.inr rfl)
  | a :: x, b :: y => by
    simp only [Op.bytesLess, Bool.or_eq_true, decide_eq_true_eq, Bool.and_eq_true, beq_iff_eq, List.cons.injEq]
    rcases UInt8.lt_or_lt_of_ne (a := a) (b := b) |> fun h => (Decidable.em (a = b)).imp id h with rfl | h | h
    · rcases less_total x y with h | rfl | h
      · exact .inl (.inr ⟨rfl, h⟩)
      · exact .inr (.inl ⟨rfl, rfl⟩)
      · exact .inr (.inr (.inr ⟨rfl, h⟩))
    · exact .inl (.inl h)
    · exact .inr (.inr (.inl h))

theorem compare_less : ∀ (x y : List UInt8), (Lib.compareBytes x y < 0 ↔ Op.bytesLess x y = true) ∧ (Lib.compareBytes x y = 0 ↔ x = y) ∧ (-1 ≤ Lib.compareBytes x y ∧ Lib.compareBytes x y ≤ 1)
  | [], [] => by simp [Lib.compareBytes, Op.bytesLess]
  | [], _ :: _ => by simp [Lib.compareBytes, Op.bytesLess]
  | _ :: _, [] => by simp [Lib.compareBytes, Op.bytesLess]
  | a :: x, b :: y => by
    obtain ⟨h1, h2, h3⟩ := compare_less x y
    simp only [Lib.compareBytes, Op.bytesLess, List.cons.injEq]
    by_cases h : a < b
    · rw [if_pos h]
      have : a ≠ b := fun e => by subst e; exact absurd h (UInt8.lt_irrefl a)
      simp [h, this]
    · rw [if_neg h]
      by_cases h' : b < a
      · rw [if_pos h']
        have : a ≠ b := fun e => by subst e; exact absurd h' (UInt8.lt_irrefl a)
        simp [h, this]
      · rw [if_neg h']
        have : a = b := UInt8.toNat_inj.1 (by rw [UInt8.lt_iff_toNat_lt] at h h'; omega)
        subst this
        simp [h, h1, h2, h3]

def cmpS (a b : ByteArray) : Int := Lib.compareBytes a.data.toList b.data.toList
theorem cmpS_lt (a b : ByteArray) : cmpS a b < 0 ↔ slt a b = true := (compare_less _ _).1
theorem cmpS_eq (a b : ByteArray) : cmpS a b = 0 ↔ a = b := by
  rw [show a = b ↔ a.data.toList = b.data.toList from ⟨fun h => by rw [h], ba_ext⟩]
  exact (compare_less _ _).2.1
theorem cmpS_range (a b : ByteArray) : -1 ≤ cmpS a b ∧ cmpS a b ≤ 1 := (compare_less _ _).2.2

theorem slt_irrefl (a : ByteArray) : slt a a = false := less_irrefl _
theorem slt_trans {a b c : ByteArray} (h1 : slt a b = true) (h2 : slt b c = true) : slt a c = true := less_trans h1 h2
theorem slt_total (a b : ByteArray) : slt a b = true ∨ a = b ∨ slt b a = true := by
  rcases less_total a.data.toList b.data.toList with h | h | h
  · exact .inl h
  · exact .inr (.inl (ba_ext h))
  · exact .inr (.inr h)
theorem slt_asymm {a b : ByteArray} (h : slt a b = true) : slt b a = false := by
  cases h2 : slt b a
  · rfl
  · have := slt_trans h h2
    rw [slt_irrefl] at this
    cases this
theorem slt_ne {a b : ByteArray} (h : slt a b = true) : a ≠ b := fun e => by subst e; rw [slt_irrefl] at h; cases h
theorem slt_of_not {a b : ByteArray} (h : slt a b = false) (h2 : a ≠ b) : slt b a = true := by
  rcases slt_total a b with h3 | h3 | h3
  · rw [h] at h3; cases h3
  · exact absurd h3 h2
  · exact h3
theorem slt_empty (a : ByteArray) : slt a ByteArray.empty = false := by
  unfold slt
  cases h : a.data.toList <;> rfl
theorem slt_of_slt_not {a b c : ByteArray} (h1 : slt a b = true) (h2 : slt c b = false) : slt a c = true := by
  rcases slt_total b c with h3 | rfl | h3
  · exact slt_trans h1 h3
  · exact h1
  · rw [h2] at h3; cases h3

theorem size_zero {a : ByteArray} (h : a.size = 0) : a = ByteArray.empty := by
  apply ba_ext
  have : a.data.toList.length = 0 := by rw [Array.length_toList]; exact h
  rw [List.eq_nil_of_length_eq_zero this]
  rfl
theorem empty_lit : ({ data := #[] } : ByteArray) = ByteArray.empty := rfl
end Lf
