import Derived.Test.YtjmdfmafnenjnaaSxExec
/-! What the executor's plain operations answer is what the model's run gives. -/
namespace Go.Sx
open Go

def Needs : List Prop → Prop
  | [] => True
  | p :: ps => p ∧ Needs ps

theorem kindEq_eq {k k' : IntKind} (h : kindEq k k' = true) : k = k' := by
  cases k <;> cases k' <;> first | rfl | (simp [kindEq] at h)

theorem isI64_eq {k : IntKind} (h : isI64 k = true) : k = .i64 := by
  cases k <;> first | rfl | (simp [isI64] at h)

theorem wrap_i64_in {n : Int} (h : inI64 n) : IntKind.i64.wrap n = n := by
  obtain ⟨h1, h2⟩ := h
  rw [IntKind.wrap_i64]
  omega

section
variable {ρ : Nat → Value} {H : AHeap} {O : Nat → Prop} {w : World} {P : Program}

theorem DenV_s {x : SV} {v : Value} (h : DenS O w x v) : DenV ρ H O w (.s x) v := by
  cases x <;> unfold DenV <;> first | trivial | exact h

theorem DenS_of_V {x : SV} {v : Value} (hx : x ≠ .junk) (h : DenV ρ H O w (.s x) v) : DenS O w x v := by
  cases x <;> unfold DenV at h <;> first | exact (hx rfl).elim | exact h

theorem num_den {x : AV} {v : Value} {k : IntKind} {l : Bool} {n : Int} (h : x.num? = some (k, l, n)) (hd : DenV ρ H O w x v) : v = .int k n := by
  cases x with
  | s x =>
    cases x <;> simp only [AV.num?, Option.some.injEq, Prod.mk.injEq, reduceCtorEq] at h
    all_goals
      obtain ⟨rfl, -, rfl⟩ := h
      have := DenS_of_V (by simp) hd
      cases this
      rfl
  | _ => simp [AV.num?] at h

theorem truth_den {x : AV} {v : Value} {l b : Bool} (h : x.truth? = some (l, b)) (hd : DenV ρ H O w x v) : v = .bool b := by
  cases x with
  | s x =>
    cases x <;> simp only [AV.truth?, Option.some.injEq, Prod.mk.injEq, reduceCtorEq] at h
    all_goals
      obtain ⟨-, rfl⟩ := h
      have := DenS_of_V (by simp) hd
      cases this
      rfl
  | _ => simp [AV.truth?] at h

theorem str_den {s : ByteArray} {v : Value} (hd : DenV ρ H O w (.s (.str s)) v) : v = .string s := by
  have := DenS_of_V (by simp) hd
  cases this
  rfl

theorem mkInt_den (l : Bool) (k : IntKind) (n : Int) : DenV ρ H O w (mkInt l k n) (.int k n) := by
  unfold mkInt
  cases l
  · exact DenV_s (.int k n)
  · exact DenV_s (.ilit k n)

theorem mkBool_den (l : Bool) (b : Bool) : DenV ρ H O w (mkBool l b) (.bool b) := by
  unfold mkBool
  cases l
  · exact DenV_s (.bool b)
  · exact DenV_s (.blit b)

theorem arith_den {l : Bool} {k : IntKind} {n : Int} (h : Needs (arithR l k n).1) : DenV ρ H O w (arithR l k n).2 (.int k (k.wrap n)) := by
  unfold arithR at *
  cases l
  · cases hk : isI64 k
    · exact DenV_s (.int _ _)
    · simp only [hk, cond_true, cond_false, Needs, and_true] at h ⊢
      obtain rfl := isI64_eq hk
      rw [wrap_i64_in h]
      exact DenV_s (.int _ _)
  · exact DenV_s (.ilit _ _)

theorem eqGuard_int (op : BinOp) (t : TypeId) (x y : Operand) (k k' : IntKind) (a b : Int) : (eqGuard op t x y (.int k a) (.int k' b)).run P w = .ok () w := by
  cases op <;> simp [eqGuard]
theorem eqGuard_str (op : BinOp) (t : TypeId) (x y : Operand) (a b : ByteArray) : (eqGuard op t x y (.string a) (.string b)).run P w = .ok () w := by
  cases op <;> simp [eqGuard]
theorem eqGuard_bool (op : BinOp) (t : TypeId) (x y : Operand) (a b : Bool) : (eqGuard op t x y (.bool a) (.bool b)).run P w = .ok () w := by
  cases op <;> simp [eqGuard]
theorem eqGuard_ptr (op : BinOp) (t : TypeId) (x y : Operand) (a b : Option Addr) : (eqGuard op t x y (.pointer a) (.pointer b)).run P w = .ok () w := by
  cases op <;> simp [eqGuard]


theorem quo_den {l : Bool} {k : IntKind} {x y : Int} {q : List Prop × AV}
    (h : (bif l then ([y ≠ 0], AV.s (.ilit k (k.wrap (x.tdiv y)))) else bif isI64 k then ([y ≠ 0, inI64 (x.tdiv y)], .s (.int k (x.tdiv y))) else ([y ≠ 0], .s (.int k (k.wrap (x.tdiv y))))) = q)
    (hn : Needs q.1) : y ≠ 0 ∧ DenV ρ H O w q.2 (.int k (k.wrap (x.tdiv y))) := by
  subst h
  cases l
  · cases hk : isI64 k
    · simp only [hk, cond_false, Needs, and_true] at hn ⊢
      exact ⟨hn, DenV_s (.int _ _)⟩
    · simp only [hk, cond_true, cond_false, Needs, and_true] at hn ⊢
      obtain rfl := isI64_eq hk
      rw [wrap_i64_in hn.2]
      exact ⟨hn.1, DenV_s (.int _ _)⟩
  · simp only [cond_true, Needs, and_true] at hn ⊢
    exact ⟨hn, DenV_s (.ilit _ _)⟩

theorem intBin_ok {op : BinOp} {t : TypeId} {k : IntKind} {lx ly : Bool} {x y : Int} {q : List Prop × AV} (h : intBin op k lx ly x y = some q) (hn : Needs q.1) :
    ∃ v, (binOp op t (.int k x) (.int k y)).run P w = .ok v w ∧ DenV ρ H O w q.2 v := by
  cases op <;> simp only [intBin, Option.some.injEq, reduceCtorEq] at h
  case add => subst h; exact ⟨_, by simp [binOp, Op.intArith], arith_den hn⟩
  case sub => subst h; exact ⟨_, by simp [binOp, Op.intArith], arith_den hn⟩
  case mul => subst h; exact ⟨_, by simp [binOp, Op.intArith], arith_den hn⟩
  case quo =>
    obtain ⟨h0, hd⟩ := quo_den (ρ := ρ) (H := H) (O := O) (w := w) h hn
    exact ⟨_, by simp [binOp, Op.intDiv, h0], hd⟩
  case rem =>
    subst h
    have h0 : y ≠ 0 := by simpa [Needs] using hn
    exact ⟨_, by simp [binOp, Op.intDiv, h0], mkInt_den _ _ _⟩
  case and => subst h; exact ⟨.int k (bitop .and k x y), by simp [binOp, Op.intBits, bitop], mkInt_den _ _ _⟩
  case or => subst h; exact ⟨.int k (bitop .or k x y), by simp [binOp, Op.intBits, bitop], mkInt_den _ _ _⟩
  case xor => subst h; exact ⟨.int k (bitop .xor k x y), by simp [binOp, Op.intBits, bitop], mkInt_den _ _ _⟩
  case andNot => subst h; exact ⟨.int k (bitop .andNot k x y), by simp [binOp, Op.intBits, bitop], mkInt_den _ _ _⟩
  all_goals subst h; exact ⟨_, by simp [binOp, Op.intCmp], mkBool_den _ _⟩

theorem shiftR_ok {op : BinOp} {t : TypeId} {k k' : IntKind} {l : Bool} {x y : Int} {q : List Prop × AV} (h : shiftR op k l x y = some q) (hn : Needs q.1) :
    ∃ v, (binOp op t (.int k x) (.int k' y)).run P w = .ok v w ∧ DenV ρ H O w q.2 v := by
  cases op <;> simp only [shiftR, Option.some.injEq, reduceCtorEq] at h
  all_goals
    subst h
    have h0 : 0 ≤ y := by simpa [Needs] using hn
    exact ⟨_, by simp [binOp, Op.shift, Int.not_lt.2 h0], mkInt_den _ _ _⟩

theorem str_eq (a b : ByteArray) : (a.toList == b.toList) = decide (a = b) := by
  rw [ByteArray.toList_eq, ByteArray.toList_eq, Bool.eq_iff_iff]
  simp only [beq_iff_eq, decide_eq_true_eq]
  constructor
  · intro h
    cases a; cases b
    simp only [ByteArray.mk.injEq] at *
    exact Array.toList_inj.1 h
  · rintro rfl; rfl

theorem strBin_ok {op : BinOp} {t : TypeId} {x y : ByteArray} {q : List Prop × AV} (h : strBin op x y = some q) (hn : Needs q.1) :
    ∃ v, (binOp op t (.string x) (.string y)).run P w = .ok v w ∧ DenV ρ H O w q.2 v := by
  cases op <;> simp only [strBin, Option.some.injEq, reduceCtorEq] at h
  case add =>
    subst h
    have h0 : x.size + y.size ≤ 4611686018427387904 := by simpa [Needs] using hn
    exact ⟨.string (x ++ y), by simp [binOp, Op.stringOp]; omega, DenV_s (.str _)⟩
  all_goals subst h; exact ⟨_, by simp only [binOp, Op.stringOp, str_eq]; rfl, by first | exact DenV_s (.bool _) | (simp only [slt, ByteArray.toList_eq]; exact DenV_s (.bool _))⟩

theorem unR_ok {op : UnOp} {x : AV} {vx : Value} {q : List Prop × AV} (h : unR op x = some q) (hn : Needs q.1) (hx : DenV ρ H O w x vx) :
    ∃ v, (Op.unary op vx).run P w = .ok v w ∧ DenV ρ H O w q.2 v := by
  unfold unR at h
  split at h <;> simp only [Option.some.injEq, reduceCtorEq] at h <;> subst h
  · have h1 := DenS_of_V (by simp) hx
    cases h1
    exact ⟨_, by simp only [Op.unary, Sem.run_pure], DenV_s (.bool _)⟩
  · have h1 := DenS_of_V (by simp) hx
    cases h1
    exact ⟨_, by simp only [Op.unary, Sem.run_pure], DenV_s (.blit _)⟩
  · have h1 := DenS_of_V (by simp) hx
    cases h1
    exact ⟨_, by simp only [Op.unary, Op.intArith, Sem.run_pure], arith_den hn⟩
  · have h1 := DenS_of_V (by simp) hx
    cases h1
    exact ⟨_, by simp only [Op.unary, Op.intArith, Sem.run_pure], arith_den hn⟩

theorem pickR_ok {c a b : AV} {vc va vb : Value} {q : List Prop × AV} (h : pickR c a b = some q) (hc : DenV ρ H O w c vc) (ha : DenV ρ H O w a va) (hb : DenV ρ H O w b vb) :
    ∃ t, vc = .bool t ∧ DenV ρ H O w q.2 (if t then va else vb) := by
  unfold pickR at h
  split at h
  · simp only [Option.some.injEq] at h
    subst h
    have h1 := DenS_of_V (by simp) hc
    cases h1
    exact ⟨true, rfl, ha⟩
  · simp only [Option.some.injEq] at h
    subst h
    have h1 := DenS_of_V (by simp) hc
    cases h1
    exact ⟨false, rfl, hb⟩
  · rename_i t
    have h1 := DenS_of_V (by simp) hc
    cases h1
    refine ⟨t, rfl, ?_⟩
    split at h
    · rename_i la x lb y h2 h3
      simp only [Option.some.injEq] at h
      subst h
      obtain rfl := truth_den h2 ha
      obtain rfl := truth_den h3 hb
      cases t
      · exact DenV_s (.bool _)
      · exact DenV_s (.bool _)
    · split at h
      · rename_i k la x k' lb y h2 h3
        rw [Bool.cond_eq_ite] at h
        split at h
        · rename_i hk
          obtain rfl := kindEq_eq hk
          simp only [Option.some.injEq] at h
          subst h
          obtain rfl := num_den h2 ha
          obtain rfl := num_den h3 hb
          cases t
          · exact DenV_s (.int _ _)
          · exact DenV_s (.int _ _)
        · cases h
      · cases h
  · cases h
end
end Go.Sx
