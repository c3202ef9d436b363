import Derived.Test.YtjmdfmafnenjnaaSxDrawn
/-! The executor tells the truth. -/
namespace Go.Sx
open Go

section
variable {ρ ρ' : Nat → Value} {H H' : AHeap} {G O O' : Nat → Prop} {w w' : World} {P : Program} {S : SummB} {Z : Glob} {X : Ctx} {s : St} {a : Act} {K : List AObj → AV → Prop} {C : Cfg → Prop}

theorem load_asAddr {t : TypeId} {va v : Value} {w' : World} (h : (Instr.loadAt t va).run P w = .ok v w') : (do loadVar t (← asAddr va) : Sem Value).run P w = .ok v w' := by
  cases va with
  | pointer o =>
    cases o with
    | none => simp [Instr.loadAt, Instr.sureAddr] at h
    | some x => simpa [Instr.loadAt, Instr.sureAddr, asAddr] using h
  | _ => simp [Instr.loadAt, Instr.sureAddr] at h

theorem resultOf_ok (h : Rep X ρ s a w) : ∀ (rs : List ResultVar) {vs : List AV}, resultOf P s rs = some vs →
    ∃ us : List Value, (rs.mapM (m := Sem) fun | .tmp t => pure (a.tmps.getD t undef) | .cell x t => do loadVar t (← asAddr (a.tmps.getD x undef))).run P w = .ok us w ∧ DenL ρ s.look (Hot ρ s.look X.G) w vs us
  | [], vs, hv => by
    simp only [resultOf, Option.some.injEq] at hv
    subst hv
    exact ⟨[], by simp, DenL_nil.2 rfl⟩
  | .tmp t :: rs, vs, hv => by
    simp only [resultOf, Option.map_eq_some_iff] at hv
    obtain ⟨vs', h1, rfl⟩ := hv
    obtain ⟨us, h2, h3⟩ := resultOf_ok h rs h1
    refine ⟨a.tmps.getD t undef :: us, ?_, DenL_cons.2 ⟨_, _, rfl, h.den t, h3⟩⟩
    simp only [List.mapM_cons, Sem.run_bind, Sem.run_pure, Result.andThen_ok, h2]
  | .cell t T :: rs, vs, hv => by
    simp only [resultOf] at hv
    split at hv
    · rename_i r vs' hr hrs
      split at hv
      · rename_i e1 e2 e3
        simp only [Option.some.injEq] at hv
        subst hv
        obtain ⟨us, h2, h3⟩ := resultOf_ok h rs hrs
        obtain ⟨_, _, v, h4, h5⟩ := loadR_ok hr (by rw [e1]; trivial) h.sat (h.den t)
        refine ⟨v :: us, ?_, DenL_cons.2 ⟨_, _, rfl, h5 0, h3⟩⟩
        have h6 := load_asAddr h4
        simp only [List.mapM_cons]
        rw [Sem.run_bind, h6]
        simp only [Result.andThen_ok, Sem.run_bind, h2, Sem.run_pure]
      · cases hv
    · cases hv

theorem results_ok {fn : Func} (h : Rep X ρ s a w) {vs : List AV} (hv : resultOf P s fn.results.toList = some vs) : ∃ v, (results fn a.tmps).run P w = .ok v w ∧ DenV ρ s.look (Hot ρ s.look X.G) w (oneOf vs) v := by
  obtain ⟨us, h1, h2⟩ := resultOf_ok h _ hv
  have key : (results fn a.tmps).run P w = .ok (if h : us.toArray.size = 1 then us.toArray[0] else .tuple us.toArray) w := by
    unfold results
    rw [Array.mapM_eq_mapM_toList]
    simp only [Sem.run_bind, Sem.run_map]
    erw [h1]
    rfl
  refine ⟨_, key, ?_⟩
  unfold oneOf
  split
  · rename_i x
    obtain ⟨v, rest, rfl, h3, h4⟩ := DenL_cons.1 h2
    obtain rfl := DenL_nil.1 h4
    simpa using h3
  · rename_i hne
    have : ¬ us.toArray.size = 1 := by
      intro h0
      cases us with
      | nil => simp at h0
      | cons u us =>
        cases us with
        | nil =>
          cases vs with
          | nil => have := DenL_nil.1 h2; cases this
          | cons y ys =>
            obtain ⟨v, rest, e, h3, h4⟩ := DenL_cons.1 h2
            cases e
            cases ys with
            | nil => exact hne y rfl
            | cons z zs =>
              obtain ⟨v', rest', e', _⟩ := DenL_cons.1 h4
              cases e'
        | cons _ _ => simp at h0
    rw [dif_neg this]
    unfold DenV
    exact ⟨us, rfl, h2⟩

theorem exec_ok {f : FuncId} {fn : Func} {stop : Nat → Bool} (hS : SOk P S Z) (hzc : ZCtx Z X) (hm : P.follows .mixedOrders = true) (hf : P.funcs[f]? = some fn) : ∀ (n : Nat) (fst : Bool) (c : Cfg), (exec P S fn stop n fst c).Holds K (Safe P f X K) → Safe P f X K c
  | 0, _, c, h => h
  | n + 1, fst, ⟨tmps, L, todo⟩, h => by
    intro ρ a w hr
    have hback : ∀ k, todo = k → (k = [] ∨ ∃ k', k = .code .ret :: k') → (match resultOf P ⟨tmps, L⟩ fn.results.toList with | some vs => Tree.ret L (oneOf vs) | none => .stuck "results").Holds K (Safe P f X K) →
        Goes P { (default : Frame) with fn := f, kind := .normal } (Post X K) a todo w := by
      intro k hk hk' h
      split at h
      · rename_i vs hv
        obtain ⟨v, h1, h2⟩ := results_ok hr hv
        exact Goes.ret (hk ▸ hk') rfl hf hr.defers h1 ⟨v, rfl, L, oneOf vs, h, ρ, hr.sat, h2, hr.from_, hr.frm⟩
      · exact h.elim
    unfold exec at h
    simp only [] at h
    split at h
    · exact hback [] rfl (.inl rfl) h
    · rename_i k
      exact hback _ rfl (.inr ⟨k, rfl⟩) h
    · exact Goes.step (fun _ => step_skip) (exec_ok hS hzc hm hf n _ _ h ρ a w hr)
    · exact Goes.step (fun _ => step_label) (exec_ok hS hzc hm hf n _ _ h ρ a w hr)
    · exact Goes.step (fun _ => step_inBlock) (exec_ok hS hzc hm hf n _ _ h ρ a w hr)
    · exact Goes.step (fun _ => step_lone_go (by simp [stepG, stepG.exec, Frame.at])) (exec_ok hS hzc hm hf n _ _ h ρ a w hr)
    · exact Goes.step (fun _ => step_seq) (exec_ok hS hzc hm hf n _ _ h ρ a w hr)
    · exact Goes.step (fun _ => step_block) (exec_ok hS hzc hm hf n _ _ h ρ a w hr)
    · exact Goes.step (fun _ => step_lone_go (by simp [stepG, stepG.exec, Frame.at])) (exec_ok hS hzc hm hf n _ _ h ρ a w hr)
    · split at h
      · rename_i k' hk'
        exact Goes.step (fun _ => step_exit hk') (exec_ok hS hzc hm hf n _ _ h ρ a w hr)
      · exact h.elim
    · rename_i t x y k
      split at h
      · rename_i b hb
        have hev : a.eval (.tmp t) = .bool b := by
          have h1 := blit_get hr hb
          show a.tmps.getD t undef = _
          rw [Array.getD_eq_getD_getElem?, h1]
          rfl
        refine Goes.step (fun _ => step_cond hev) ?_
        have := exec_ok hS hzc hm hf n _ _ h ρ a w hr
        cases b <;> exact this
      · rename_i b hb
        have hr' : Rep X ρ ⟨tmps.set t (.s (.blit b)), L⟩ a w := hr.refine hb bool_refine
        have hlt : t < tmps.length := by
          rcases Nat.lt_or_ge t tmps.length with h3 | h3
          · exact h3
          · rw [List.getD, List.getElem?_eq_none h3] at hb
            simp at hb
        have hev : a.eval (.tmp t) = .bool b := by
          have h1 := blit_get hr' (d := t) (b := b) (by simp [List.getD, hlt])
          show a.tmps.getD t undef = _
          rw [Array.getD_eq_getD_getElem?, h1]
          rfl
        refine Goes.step (fun _ => step_cond hev) ?_
        obtain ⟨h1, h2⟩ := h
        cases b
        · exact exec_ok hS hzc hm hf n _ _ (h2 rfl) ρ a w hr'
        · exact exec_ok hS hzc hm hf n _ _ (h1 rfl) ρ a w hr'
      · rename_i n0 eq hb
        have hlt : t < tmps.length := by
          rcases Nat.lt_or_ge t tmps.length with h3 | h3
          · exact h3
          · rw [List.getD, List.getElem?_eq_none h3] at hb
            simp at hb
        have hd0 := hr.den t
        rw [show (St.tmps ⟨tmps, L⟩).getD t (.s .junk) = _ from hb] at hd0
        obtain ⟨b, hbv, hb0⟩ : ∃ b, a.tmps.getD t undef = .bool b ∧ (b = eq → n0 = 0) := by
          have h2 := DenS_of_V (by simp) hd0
          generalize a.tmps.getD t undef = u at h2
          cases h2
          exact ⟨_, rfl, by assumption⟩
        have hr' : Rep X ρ ⟨tmps.set t (.s (.blit b)), L⟩ a w := hr.refine1 hb (by rw [hbv]; exact DenV_s (.blit b))
        refine Goes.step (fun _ => step_cond hbv) ?_
        obtain ⟨h1, h2⟩ := h
        cases b
        · exact exec_ok hS hzc hm hf n _ _ (h2 (by cases eq <;> first | exact hb0 rfl | trivial)) ρ a w hr'
        · exact exec_ok hS hzc hm hf n _ _ (h1 (by cases eq <;> first | exact hb0 rfl | trivial)) ρ a w hr'
      · exact h.elim
    · rename_i id ops draw k
      rw [Bool.cond_eq_ite] at h
      split at h
      · exact h ρ a w hr
      cases draw
      · simp only [cond_false] at h
        refine Goes.code (wp_mono (wp_region ?_) (fun e a' w' hq => hq))
        have h1 := runOps_ok hS hzc ops.toList 0 ⟨tmps, L⟩ [] (by simp) h ρ a w hr
        rw [← List.range_eq_range', Array.length_toList] at h1
        refine wpOps_mono (fun e a' w' hq => ?_) _ _ _ h1
        obtain ⟨rfl, ρ', s', tr', hr', hh⟩ := hq
        exact ⟨rfl, exec_ok hS hzc hm hf n _ _ hh ρ' a' w' hr'⟩
      · simp only [cond_true] at h
        rw [Bool.cond_eq_ite] at h
        split at h
        · rename_i hso
          simp only [Bool.and_eq_true] at hso
          refine Goes.code (wp_mono (wp_region_any hm ?_) (fun e a' w' hq => hq))
          refine runOps_drawn hS hzc hso.1 hso.2 h (fun s' tr' hh => ?_) (fun ρ' s' tr' a' w' hh hr' => ?_) hr.drew
          · rw [Bool.cond_eq_ite] at hh
            split at hh
            · rename_i hc; exact hc
            · exact hh.elim
          · rw [Bool.cond_eq_ite] at hh
            split at hh
            · exact exec_ok hS hzc hm hf n _ _ hh ρ' a' w' hr'
            · exact hh.elim
        · exact h.elim
    · exact Goes.step (fun _ => step_loop) (h ρ a w hr)
    · exact Goes.step (fun _ => step_inLoop) (h ρ a w hr)
    · exact h ρ a w hr
end
end Go.Sx
