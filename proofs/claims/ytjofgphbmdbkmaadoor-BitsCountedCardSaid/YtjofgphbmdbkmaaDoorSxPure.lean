import Derived.Test.YtjofgphbmdbkmaaDoorSxExec
/-! What the executor's plain operations answer is what the model's run gives. -/
namespace Go.Sx
open Go

def Needs : List Prop → Prop
  | [] => True
  | p :: ps => p ∧ Needs ps

theorem kindEq_eq {k k' : IntKind} (h : kindEq k k' = true) : k = k' := by
  cases k <;> cases k' <;> first | rfl | (simp [kindEq] at h)

theorem isI64_eq {k : IntKind} (h : isI64 k = true) : k = .i64 := by
  cases k <;> first | rfl | (simp [isI64] at h)

theorem wrap_i64_in {n : Int} (h : inI64 n) : IntKind.i64.wrap n = n := by
  obtain ⟨h1, h2⟩ := h
  rw [IntKind.wrap_i64]
  omega

section
variable {ρ : Nat → Value} {H : AHeap} {O : Nat → Prop} {w : World} {P : Program}

theorem DenV_s {x : SV} {v : Value} (h : DenS O w x v) : DenV ρ H O w (.s x) v := by
  cases x <;> unfold DenV <;> first | trivial | exact h

theorem DenS_of_V {x : SV} {v : Value} (hx : x ≠ .junk) (h : DenV ρ H O w (.s x) v) : DenS O w x v := by
  cases x <;> unfold DenV at h <;> first | exact (hx rfl).elim | exact h

theorem num_den {x : AV} {v : Value} {k : IntKind} {l : Bool} {n : Int} (h : x.num? = some (k, l, n)) (hd : DenV ρ H O w x v) : v = .int k n := by
  cases x with
  | s x =>
    cases x <;> simp only [AV.num?, Option.some.injEq, Prod.mk.injEq, reduceCtorEq] at h
    all_goals
      obtain ⟨rfl, -, rfl⟩ := h
      have := DenS_of_V (by simp) hd
      cases this
      rfl
  | _ => simp [AV.num?] at h

theorem truth_den {x : AV} {v : Value} {l b : Bool} (h : x.truth? = some (l, b)) (hd : DenV ρ H O w x v) : v = .bool b := by
  cases x with
  | s x =>
    cases x <;> simp only [AV.truth?, Option.some.injEq, Prod.mk.injEq, reduceCtorEq] at h
    all_goals
      obtain ⟨-, rfl⟩ := h
      have := DenS_of_V (by simp) hd
      cases this
      rfl
  | _ => simp [AV.truth?] at h

theorem str_den {s : ByteArray} {v : Value} (hd : DenV ρ H O w (.s (.str s)) v) : v = .string s := by
  have := DenS_of_V (by simp) hd
  cases this
  rfl

theorem mkInt_den (l : Bool) (k : IntKind) (n : Int) : DenV ρ H O w (mkInt l k n) (.int k n) := by
  unfold mkInt
  cases l
  · exact DenV_s (.int k n)
  · exact DenV_s (.ilit k n)

theorem mkBool_den (l : Bool) (b : Bool) : DenV ρ H O w (mkBool l b) (.bool b) := by
  unfold mkBool
  cases l
  · exact DenV_s (.bool b)
  · exact DenV_s (.blit b)

theorem arith_den {l : Bool} {k : IntKind} {n : Int} (h : Needs (arithR l k n).1) : DenV ρ H O w (arithR l k n).2 (.int k (k.wrap n)) := by
  unfold arithR at *
  cases l
  · cases hk : isI64 k
    · exact DenV_s (.int _ _)
    · simp only [hk, cond_true, cond_false, Needs, and_true] at h ⊢
      obtain rfl := isI64_eq hk
      rw [wrap_i64_in h]
      exact DenV_s (.int _ _)
  · exact DenV_s (.ilit _ _)

theorem eqGuard_int (op : BinOp) (t : TypeId) (x y : Operand) (k k' : IntKind) (a b : Int) : (eqGuard op t x y (.int k a) (.int k' b)).run P w = .ok () w := by
  cases op <;> simp [eqGuard]
theorem eqGuard_str (op : BinOp) (t : TypeId) (x y : Operand) (a b : ByteArray) : (eqGuard op t x y (.string a) (.string b)).run P w = .ok () w := by
  cases op <;> simp [eqGuard]
theorem eqGuard_bool (op : BinOp) (t : TypeId) (x y : Operand) (a b : Bool) : (eqGuard op t x y (.bool a) (.bool b)).run P w = .ok () w := by
  cases op <;> simp [eqGuard]
theorem eqGuard_ptr (op : BinOp) (t : TypeId) (x y : Operand) (a b : Option Addr) : (eqGuard op t x y (.pointer a) (.pointer b)).run P w = .ok () w := by
  cases op <;> simp [eqGuard]


theorem quo_den {l : Bool} {k : IntKind} {x y : Int} {q : List Prop × AV}
    (h : (bif l then ([y ≠ 0], AV.s (.ilit k (k.wrap (x.tdiv y)))) else bif isI64 k then ([y ≠ 0, inI64 (x.tdiv y)], .s (.int k (x.tdiv y))) else ([y ≠ 0], .s (.int k (k.wrap (x.tdiv y))))) = q)
    (hn : Needs q.1) : y ≠ 0 ∧ DenV ρ H O w q.2 (.int k (k.wrap (x.tdiv y))) := by
  subst h
  cases l
  · cases hk : isI64 k
    · simp only [hk, cond_false, Needs, and_true] at hn ⊢
      exact ⟨hn, DenV_s (.int _ _)⟩
    · simp only [hk, cond_true, cond_false, Needs, and_true] at hn ⊢
      obtain rfl := isI64_eq hk
      rw [wrap_i64_in hn.2]
      exact ⟨hn.1, DenV_s (.int _ _)⟩
  · simp only [cond_true, Needs, and_true] at hn ⊢
    exact ⟨hn, DenV_s (.ilit _ _)⟩

theorem intBin_ok {op : BinOp} {t : TypeId} {k : IntKind} {lx ly : Bool} {x y : Int} {q : List Prop × AV} (h : intBin op k lx ly x y = some q) (hn : Needs q.1) :
    ∃ v, (binOp op t (.int k x) (.int k y)).run P w = .ok v w ∧ DenV ρ H O w q.2 v := by
  cases op <;> simp only [intBin, Option.some.injEq, reduceCtorEq] at h
  case add => subst h; exact ⟨_, by simp [binOp, Op.intArith], arith_den hn⟩
  case sub => subst h; exact ⟨_, by simp [binOp, Op.intArith], arith_den hn⟩
  case mul => subst h; exact ⟨_, by simp [binOp, Op.intArith], arith_den hn⟩
  case quo =>
    obtain ⟨h0, hd⟩ := quo_den (ρ := ρ) (H := H) (O := O) (w := w) h hn
    exact ⟨_, by simp [binOp, Op.intDiv, h0], hd⟩
  case rem =>
    subst h
    have h0 : y ≠ 0 := by simpa [Needs] using hn
    exact ⟨_, by simp [binOp, Op.intDiv, h0], mkInt_den _ _ _⟩
  case and => subst h; exact ⟨.int k (bitop .and k x y), by simp [binOp, Op.intBits, bitop], mkInt_den _ _ _⟩
  case or => subst h; exact ⟨.int k (bitop .or k x y), by simp [binOp, Op.intBits, bitop], mkInt_den _ _ _⟩
  case xor => subst h; exact ⟨.int k (bitop .xor k x y), by simp [binOp, Op.intBits, bitop], mkInt_den _ _ _⟩
  case andNot => subst h; exact ⟨.int k (bitop .andNot k x y), by simp [binOp, Op.intBits, bitop], mkInt_den _ _ _⟩
  all_goals subst h; exact ⟨_, by simp [binOp, Op.intCmp], mkBool_den _ _⟩

theorem shiftR_ok {op : BinOp} {t : TypeId} {k k' : IntKind} {l : Bool} {x y : Int} {q : List Prop × AV} (h : shiftR op k l x y = some q) (hn : Needs q.1) :
    ∃ v, (binOp op t (.int k x) (.int k' y)).run P w = .ok v w ∧ DenV ρ H O w q.2 v := by
  cases op <;> simp only [shiftR, Option.some.injEq, reduceCtorEq] at h
  all_goals
    subst h
    have h0 : 0 ≤ y := by simpa [Needs] using hn
    exact ⟨_, by simp [binOp, Op.shift, Int.not_lt.2 h0], mkInt_den _ _ _⟩

theorem str_eq (a b : ByteArray) : (a.toList == b.toList) = decide (a = b) := by
  rw [ByteArray.toList_eq, ByteArray.toList_eq, Bool.eq_iff_iff]
  simp only [beq_iff_eq, decide_eq_true_eq]
  constructor
  · intro h
    cases a; cases b
    simp only [ByteArray.mk.injEq] at *
    exact Array.toList_inj.1 h
  · rintro rfl; rfl

theorem strBin_ok {op : BinOp} {t : TypeId} {x y : ByteArray} {q : List Prop × AV} (h : strBin op x y = some q) (hn : Needs q.1) :
    ∃ v, (binOp op t (.string x) (.string y)).run P w = .ok v w ∧ DenV ρ H O w q.2 v := by
  cases op <;> simp only [strBin, Option.some.injEq, reduceCtorEq] at h
  case add =>
    subst h
    have h0 : x.size + y.size ≤ 4611686018427387904 := by simpa [Needs] using hn
    exact ⟨.string (x ++ y), by simp [binOp, Op.stringOp]; omega, DenV_s (.str _)⟩
  all_goals subst h; exact ⟨_, by simp only [binOp, Op.stringOp, str_eq]; rfl, by first | exact DenV_s (.bool _) | (simp only [slt, ByteArray.toList_eq]; exact DenV_s (.bool _))⟩

theorem eqR_bool {t : TypeId} {x y : AV} {vx vy : Value} {q : Bool × Bool} (ht : P.underlying t = some .bool) (h : eqR P t x y = some q)
    (hx : DenV ρ H O w x vx) (hy : DenV ρ H O w y vy) : ∃ a b, vx = .bool a ∧ vy = .bool b ∧ q.2 = (a == b) := by
  unfold eqR at h
  simp only [ht] at h
  split at h
  · rename_i lx a ly b h1 h2
    simp only [Option.some.injEq] at h
    subst h
    exact ⟨a, b, truth_den h1 hx, truth_den h2 hy, rfl⟩
  · cases h

theorem array_loop (d : Nat) {e : TypeId} {k : IntKind} {i : TypeInfo} (he : P.underlying e = some (.int k)) (hs : i.size = 1)
    (ws ws' : List Int) (w : World) (n : Nat) (h1 : ws.length = n) (h2 : ws'.length = n) : ∀ (m s : Nat), s + m = n → 
    (forIn (m := Sem) (List.range' s m 1) ((none, ()) : Option Bool × Unit) fun j _ => do
      if (!(← Op.equalIn (d + 1) e (← part e (ws.map (Value.int k)).toArray (j * i.size)) (← part e (ws'.map (Value.int k)).toArray (j * i.size)))) = true then
        pure (ForInStep.done (some false, ())) else pure (ForInStep.yield (none, ()))).run P w = .ok (if ws.drop s = ws'.drop s then (none, ()) else (some false, ())) w := by
  intro m
  induction m with
  | zero =>
    intro s hs'
    have e1 : ws.drop s = [] := List.drop_eq_nil_of_le (by omega)
    have e2 : ws'.drop s = [] := List.drop_eq_nil_of_le (by omega)
    simp [e1, e2]
  | succ m ih =>
    intro s hs'
    have hi1 : s < ws.length := by omega
    have hi2 : s < ws'.length := by omega
    have p1 : ∀ w, (part e (ws.map (Value.int k)).toArray (s * i.size)).run P w = .ok (.int k ws[s]) w := by
      intro w
      simp [part, isAgg, run_underlying he, hs, hi1]
    have p2 : ∀ w, (part e (ws'.map (Value.int k)).toArray (s * i.size)).run P w = .ok (.int k ws'[s]) w := by
      intro w
      simp [part, isAgg, run_underlying he, hs, hi2]
    rw [List.range'_succ, List.forIn_cons]
    simp only [Sem.run_bind, p1, p2, Result.andThen_ok, run_equalIn_int _ _ _ _ _ _ _ he]
    rw [List.drop_eq_getElem_cons hi1, List.drop_eq_getElem_cons hi2]
    by_cases hq : ws[s] = ws'[s]
    · simp only [hq, beq_self_eq_true, Bool.not_true, Bool.false_eq_true, if_false, Sem.run_pure, Result.andThen_ok, List.cons.injEq, true_and]
      exact ih (s + 1) (by omega)
    · have : (ws[s] == ws'[s]) = false := by simpa using hq
      have hne : ¬ (ws[s] :: ws.drop (s + 1) = ws'[s] :: ws'.drop (s + 1)) := fun e => hq (List.cons.inj e).1
      rw [if_neg hne]
      simp only [this, Bool.not_false, if_true, Sem.run_pure, Result.andThen_ok]
theorem array_eq_ok (d : Nat) {t e : TypeId} {n : Nat} {k : IntKind} {i : TypeInfo} (ht : P.underlying t = some (.array n e)) (he : P.underlying e = some (.int k)) (hi : P.info? e = some i) (hs : i.size = 1)
    (ws ws' : List Int) (h1 : ws.length = n) (h2 : ws'.length = n) (w : World) :
    (Op.equalIn (d + 2) t (.agg (ws.map (Value.int k)).toArray) (.agg (ws'.map (Value.int k)).toArray)).run P w = .ok (decide (ws = ws')) w := by
  have key := array_loop (P := P) d he hs ws ws' w n h1 h2 n 0 (by omega)
  unfold Op.equalIn
  simp only [Sem.run_bind, run_underlying ht, Result.andThen_ok, sizeOf, typeInfo, run_program, hi, Sem.run_pure]
  rw [Std.Legacy.Range.forIn_eq_forIn_range']
  simp only [Std.Legacy.Range.size, Nat.sub_zero, Nat.add_sub_cancel, Nat.div_one]
  rw [key]
  by_cases hq : ws = ws' <;> simp [hq]

theorem ptr_eq1 (d : Nat) {t e : TypeId} (ht : P.underlying t = some (.pointer e)) (b : Option Addr) : (Op.equalIn (d + 1) t (.pointer none) (.pointer b)).run P w = .ok b.isNone w := by
  unfold Op.equalIn
  simp [run_underlying ht]
theorem ptr_eq2 (d : Nat) {t e : TypeId} (ht : P.underlying t = some (.pointer e)) (a : Addr) : (Op.equalIn (d + 1) t (.pointer (some a)) (.pointer none)).run P w = .ok false w := by
  unfold Op.equalIn
  simp [run_underlying ht]

theorem eqR_ok {t : TypeId} {x y : AV} {vx vy : Value} {q : Bool × Bool} (h : eqR P t x y = some q) (hx : DenV ρ H O w x vx) (hy : DenV ρ H O w y vy) :
    (Op.equal t vx vy).run P w = .ok q.2 w ∧ (∀ op a b, (eqGuard op t a b vx vy).run P w = .ok () w) ∧
    (∀ op, op = .eql ∨ op = .neq → (binOp op t vx vy).run P w = ((do let b ← Op.equal t vx vy; pure (.bool (if op = .eql then b else !b))) : Sem Value).run P w) := by
  have key : ∀ vx vy : Value, (∀ k a, vx ≠ .int k a) → (∀ s, vx ≠ .string s) → (∀ k a, vx ≠ .float k a) → (∀ k a b, vx ≠ .complex k a b) →
      ∀ op, op = .eql ∨ op = .neq → (binOp op t vx vy).run P w = ((do let b ← Op.equal t vx vy; pure (.bool (if op = .eql then b else !b))) : Sem Value).run P w := by
    intro vx vy h1 h2 h3 h4 op hop
    rcases hop with rfl | rfl <;> cases vx <;> cases vy <;> first
      | rfl
      | (exact (h1 _ _ rfl).elim)
      | (exact (h2 _ rfl).elim)
      | (exact (h3 _ _ rfl).elim)
      | (exact (h4 _ _ _ rfl).elim)
  unfold eqR at h
  split at h
  · rename_i ht
    split at h
    · rename_i lx a ly b h1 h2
      simp only [Option.some.injEq] at h
      subst h
      obtain rfl := truth_den h1 hx
      obtain rfl := truth_den h2 hy
      exact ⟨run_equal_bool w t a b ht, fun op c d => eqGuard_bool op t c d a b, key _ _ (by simp) (by simp) (by simp) (by simp)⟩
    · cases h
  · rename_i n e k m ws k' m' ws' ht
    split at h
    · rename_i k'' he
      simp only [Bool.cond_eq_ite] at h
      split at h
      · rename_i hc
        simp only [Bool.and_eq_true, beq_iff_eq, Bool.not_eq_true'] at hc
        obtain ⟨⟨⟨⟨⟨e1, e2⟩, e3⟩, e4⟩, e5⟩, e6⟩ := hc
        obtain rfl := kindEq_eq e1
        obtain rfl := kindEq_eq e2
        subst e3; subst e4
        simp only [Option.some.injEq] at h
        subst h
        unfold DenV at hx hy
        obtain ⟨l1, rfl⟩ := hx
        obtain ⟨l2, rfl⟩ := hy
        obtain ⟨i, hi, hs⟩ : ∃ i, P.info? e = some i ∧ i.size = 1 := by
          cases hi : P.info? e with
          | none => simp [hi] at e5
          | some i => exact ⟨i, rfl, by simpa [hi] using e5⟩
        exact ⟨array_eq_ok 9998 ht he hi hs ws ws' l1 l2 w, fun op c d => run_eqGuard_agg w op t c d _ _ e6, key _ _ (by simp) (by simp) (by simp) (by simp)⟩
      · cases h
    · cases h
  · rename_i e ht
    simp only [Option.some.injEq] at h
    subst h
    have h1 := DenS_of_V (by simp) hx
    have h2 := DenS_of_V (by simp) hy
    cases h1; cases h2
    exact ⟨ptr_eq1 9999 ht none, fun op c d => eqGuard_ptr op t c d _ _, key _ _ (by simp) (by simp) (by simp) (by simp)⟩
  · rename_i e id off ht
    simp only [Option.some.injEq] at h
    subst h
    have h1 := DenS_of_V (by simp) hx
    cases h1
    unfold DenV Den1 at hy
    obtain ⟨b, _, rfl, _⟩ := hy
    exact ⟨ptr_eq1 9999 ht _, fun op c d => eqGuard_ptr op t c d _ _, key _ _ (by simp) (by simp) (by simp) (by simp)⟩
  · rename_i e id off ht
    simp only [Option.some.injEq] at h
    subst h
    have h1 := DenS_of_V (by simp) hy
    cases h1
    unfold DenV Den1 at hx
    obtain ⟨b, _, rfl, _⟩ := hx
    exact ⟨ptr_eq2 9999 ht _, fun op c d => eqGuard_ptr op t c d _ _, key _ _ (by simp) (by simp) (by simp) (by simp)⟩
  · cases h

theorem binR_ok {op : BinOp} {t : TypeId} {x y : AV} {ox oy : Operand} {vx vy : Value} {q : List Prop × AV} (h : binR P op t x y = some q) (hn : Needs q.1)
    (hx : DenV ρ H O w x vx) (hy : DenV ρ H O w y vy) :
    ∃ v, (do eqGuard op t ox oy vx vy; binOp op t vx vy : Sem Value).run P w = .ok v w ∧ DenV ρ H O w q.2 v := by
  unfold binR at h
  split at h
  · rename_i a b
    obtain rfl := str_den hx
    obtain rfl := str_den hy
    obtain ⟨v, h1, h2⟩ := strBin_ok (P := P) (t := t) (ρ := ρ) (H := H) (O := O) (w := w) h hn
    exact ⟨v, by simp [eqGuard_str, h1], h2⟩
  · split at h
    · rename_i k lx a k' ly b h1 h2
      obtain rfl := num_den h1 hx
      obtain rfl := num_den h2 hy
      split at h
      · obtain ⟨v, h3, h4⟩ := shiftR_ok (P := P) (t := t) (k' := k') (ρ := ρ) (H := H) (O := O) (w := w) h hn
        exact ⟨v, by simp [eqGuard_int, h3], h4⟩
      · obtain ⟨v, h3, h4⟩ := shiftR_ok (P := P) (t := t) (k' := k') (ρ := ρ) (H := H) (O := O) (w := w) h hn
        exact ⟨v, by simp [eqGuard_int, h3], h4⟩
      · rw [Bool.cond_eq_ite] at h
        split at h
        · rename_i hk
          obtain rfl := kindEq_eq hk
          obtain ⟨v, h3, h4⟩ := intBin_ok (P := P) (t := t) (ρ := ρ) (H := H) (O := O) (w := w) h hn
          exact ⟨v, by simp [eqGuard_int, h3], h4⟩
        · cases h
    · split at h
      · simp only [Option.map_eq_some_iff] at h
        obtain ⟨⟨l, b⟩, h1, rfl⟩ := h
        obtain ⟨h2, h3, h4⟩ := eqR_ok h1 hx hy
        exact ⟨.bool b, by simp [h3, h4 .eql (.inl rfl), h2], mkBool_den _ _⟩
      · simp only [Option.map_eq_some_iff] at h
        obtain ⟨⟨l, b⟩, h1, rfl⟩ := h
        obtain ⟨h2, h3, h4⟩ := eqR_ok h1 hx hy
        exact ⟨.bool (!b), by simp [h3, h4 .neq (.inr rfl), h2], mkBool_den _ _⟩
      · cases h

theorem unR_ok {op : UnOp} {x : AV} {vx : Value} {q : List Prop × AV} (h : unR op x = some q) (hn : Needs q.1) (hx : DenV ρ H O w x vx) :
    ∃ v, (Op.unary op vx).run P w = .ok v w ∧ DenV ρ H O w q.2 v := by
  unfold unR at h
  split at h <;> simp only [Option.some.injEq, reduceCtorEq] at h <;> subst h
  · have h1 := DenS_of_V (by simp) hx
    cases h1
    exact ⟨_, by simp only [Op.unary, Sem.run_pure], DenV_s (.bool _)⟩
  · have h1 := DenS_of_V (by simp) hx
    cases h1
    exact ⟨_, by simp only [Op.unary, Sem.run_pure], DenV_s (.blit _)⟩
  · have h1 := DenS_of_V (by simp) hx
    cases h1
    exact ⟨_, by simp only [Op.unary, Op.intArith, Sem.run_pure], arith_den hn⟩
  · have h1 := DenS_of_V (by simp) hx
    cases h1
    exact ⟨_, by simp only [Op.unary, Op.intArith, Sem.run_pure], arith_den hn⟩

theorem pickR_ok {c a b : AV} {vc va vb : Value} {q : List Prop × AV} (h : pickR c a b = some q) (hc : DenV ρ H O w c vc) (ha : DenV ρ H O w a va) (hb : DenV ρ H O w b vb) :
    ∃ t, vc = .bool t ∧ DenV ρ H O w q.2 (if t then va else vb) := by
  unfold pickR at h
  split at h
  · simp only [Option.some.injEq] at h
    subst h
    have h1 := DenS_of_V (by simp) hc
    cases h1
    exact ⟨true, rfl, ha⟩
  · simp only [Option.some.injEq] at h
    subst h
    have h1 := DenS_of_V (by simp) hc
    cases h1
    exact ⟨false, rfl, hb⟩
  · rename_i t
    have h1 := DenS_of_V (by simp) hc
    cases h1
    refine ⟨t, rfl, ?_⟩
    split at h
    · rename_i la x lb y h2 h3
      simp only [Option.some.injEq] at h
      subst h
      obtain rfl := truth_den h2 ha
      obtain rfl := truth_den h3 hb
      cases t
      · exact DenV_s (.bool _)
      · exact DenV_s (.bool _)
    · split at h
      · rename_i k la x k' lb y h2 h3
        rw [Bool.cond_eq_ite] at h
        split at h
        · rename_i hk
          obtain rfl := kindEq_eq hk
          simp only [Option.some.injEq] at h
          subst h
          obtain rfl := num_den h2 ha
          obtain rfl := num_den h3 hb
          cases t
          · exact DenV_s (.int _ _)
          · exact DenV_s (.int _ _)
        · cases h
      · cases h
  · cases h
end
end Go.Sx
