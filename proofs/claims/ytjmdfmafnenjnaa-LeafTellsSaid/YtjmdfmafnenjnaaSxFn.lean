import Derived.Test.YtjmdfmafnenjnaaSxOut
/-! A function's contract, and its summary for those who call it. -/
namespace Go.Sx
open Go

def B.out (base : Nat) : (b : B) → b.V → AV × List AObj
  | .row r e, x => (.vec base, [.vec (r.con x) e])
  | .int k, x => (.s (.int k x), [])
  | .bool, x => (.s (.bool x), [])
  | .str, x => (.s (.str x), [])
  | .arr k n, x => (.ints k n x, [])
  | .fn, f => (.s (.fn0 f), [])
  | .rrow r _, x => (.s (.ro (r.con x)), [])

def BL.out (base : Nat) : (bs : List B) → BL bs → List AV × List AObj
  | [], _ => ([], [])
  | b :: bs, (x, y) => let p := b.out base x; let q := BL.out (base + p.2.length) bs y; (p.1 :: q.1, p.2 ++ q.2)

def Ty.out (base : Nat) : (t : Ty) → t.V → AV × List AObj
  | .b x, v => x.out base v
  | .st bs, v => let q := BL.out base bs v; (.agg q.1, q.2)

def AL.out (base : Nat) : (ts : List Ty) → AL ts → List AV × List AObj
  | [], _ => ([], [])
  | t :: ts, (x, y) => let p := t.out base x; let q := AL.out (base + p.2.length) ts y; (p.1 :: q.1, p.2 ++ q.2)

/-- What a function hands back. -/
def AL.res (rs : List Ty) (y : AL rs) : List AObj × AV := let q := AL.out 0 rs y; (q.2, oneOf q.1)

def B.flat : B → Bool
  | .row r _ => r.flat
  | .rrow _ _ => false
  | _ => true
def Ty.flat : Ty → Bool
  | .b x => x.flat
  | .st bs => bs.all B.flat
/-- Rows that are new bear plain cells; others stand still. -/
def B.flatR : B → Bool
  | .row r _ => r.flat
  | _ => true
def Ty.flatR : Ty → Bool
  | .b x => x.flatR
  | .st bs => bs.all B.flatR

def B.ces : B → List (Bool × Con × TypeId)
  | .row r e => [(false, r.con [], e)]
  | .rrow r e => [(true, r.con [], e)]
  | _ => []
def Ty.ces : Ty → List (Bool × Con × TypeId)
  | .b x => x.ces
  | .st bs => bs.flatMap B.ces

/-- What a function does: plain values in, plain values out. -/
def FnOk (P : Program) (Z : Glob) (f : FuncId) (ts rs : List Ty) (pre : AL ts → List Prop) (F : AL ts → AL rs) : Prop :=
  ∀ (x : AL ts), AL.ok ts x → Needs (pre x) → ∀ (G : Nat → Prop) (w : World) (vs : List Value), (∀ b, G b → b < w.heap.size) → Z.ok w → DenL (fun _ => undef) (fun _ => none) (Hot (fun _ => undef) (fun _ => none) G) w (AL.av ts x) vs →
    Calls P f vs.toArray w fun e w' => ∃ v, e = .returned v ∧ Good (fun _ => undef) (fun _ => none) G w (lk (AL.res rs (F x)).1) (AL.res rs (F x)).2 v w'

/-- The run's end, as it is owed. -/
def Ends (rs : List Ty) (y : AL rs) (L : List AObj) (r : AV) : Prop := canR (rs.flatMap Ty.ces) L r = some (AL.res rs y)

/-! ### calls -/
def frz1 (a : AV) (k : AV → RM Res) : RM Res :=
  match a with
  | .vec id => .look id fun
    | some (.vec c _) => k (.s (.ro c))
    | _ => .fail "frz"
  | a => k a

def frzL : List AV → (List AV → RM Res) → RM Res
  | [], k => k []
  | a :: as, k => frz1 a fun a' => frzL as fun as' => k (a' :: as')

def frzV (a : AV) (k : AV → RM Res) : RM Res :=
  match a with
  | .agg segs => frzL segs fun s => k (.agg s)
  | a => frz1 a k

def frzA : List AV → (List AV → RM Res) → RM Res
  | [], k => k []
  | a :: as, k => frzV a fun a' => frzA as fun as' => k (a' :: as')

/-- The summary of a contract. -/
def sumOf (ts rs : List Ty) (pre : AL ts → List Prop) (F : AL ts → AL rs) : Nat → List AV → RM Res := fun _ args =>
  frzA args fun args => match allM (rn (fun _ => none) 20) args with
    | some args => (match AL.rd ts args with
      | some x => bif rs.all Ty.flat then .ret ⟨pre x, [], (AL.res rs (F x)).1, fun base => oneOf (AL.out base rs (F x)).1⟩ else .fail "sum: not flat"
      | none => .fail "sum: arguments")
    | none => .fail "sum: names"

section
variable {g : Nat → Option Nat} {ρ ρ' : Nat → Value} {H H' : AHeap} {G O O' : Nat → Prop} {w w' : World} {P : Program} {S : SummB} {Z : Glob} {X : Ctx} {s : St} {a : Act} {K : List AObj → AV → Prop} {C : Cfg → Prop} {L : List AObj}

theorem AL.av_length : ∀ {ts : List Ty} (x : AL ts), (AL.av ts x).length = ts.length
  | [], _ => rfl
  | _ :: _, (_, y) => congrArg (· + 1) (AL.av_length y)

theorem fnOk_of_safe {f : FuncId} {fn : Func} {ts rs : List Ty} {pre : AL ts → List Prop} {F : AL ts → AL rs} (hf : P.funcs[f]? = some fn) (hb : fn.body.isSome = true) (hn : ts.length.ble fn.ntmps = true)
    (h : ∀ x, AL.ok ts x → Needs (pre x) → ∀ X : Ctx, (∀ id, X.H id = none) → ZCtx Z X → Safe P f X (Ends rs (F x)) (start fn (AL.av ts x) [])) : FnOk P Z f ts rs pre F := by
  intro x hok hpre G w vs hG hz hd
  obtain ⟨c, hb⟩ := Option.isSome_iff_exists.1 hb
  have hn := Nat.le_of_ble_eq_true hn
  have hlenA : (AL.av ts x).length = ts.length := AL.av_length x
  have hlenV : ∀ {as : List AV} {vs : List Value}, DenL (fun _ => undef) (fun _ => none) (Hot (fun _ => undef) (fun _ => none) G) w as vs → vs.length = as.length := by
    intro as
    induction as with
    | nil => intro vs h; rw [DenL_nil.1 h]; rfl
    | cons a as ih => intro vs h; obtain ⟨v, rest, rfl, _, h2⟩ := DenL_cons.1 h; simp [ih h2]
  refine (calls_of_goes (R := Post ⟨fun _ => undef, fun _ => none, G, w⟩ (Ends rs (F x))) hf hb ?_).mono ?_
  · have := h x hok hpre ⟨fun _ => undef, fun _ => none, G, w⟩ (fun _ => rfl) ⟨hz, fun b _ ⟨id, o, ho, _⟩ => by cases ho⟩ (fun _ => undef) { tmps := vs.toArray ++ Array.replicate (fn.ntmps - vs.toArray.size) undef, defers := [] } w
    simp only [start, hb, Option.getD_some] at this
    refine this ⟨⟨fun id o ho => by simp [St.look] at ho, fun i j oi oj b hi => by simp [St.look] at hi, fun b hb' => ?_, hG⟩, ?_, fun t => ?_, rfl, ?_, ?_⟩
    · obtain ⟨id, o, ho, _⟩ := hb'
      simp [St.look] at ho
    · have := hlenV hd
      simp [this]
    · have e1 : ∀ t, DenV (fun _ => undef) (St.look ⟨AL.av ts x ++ List.replicate (fn.ntmps - (AL.av ts x).length) (.tup []), []⟩) (Hot (fun _ => undef) (St.look ⟨AL.av ts x ++ List.replicate (fn.ntmps - (AL.av ts x).length) (.tup []), []⟩) G) w ((AL.av ts x).getD t (.tup [])) (vs.getD t undef) := by
        have e0 : (St.look ⟨AL.av ts x ++ List.replicate (fn.ntmps - (AL.av ts x).length) (.tup []), []⟩) = fun _ => none := by funext i; simp [St.look]
        rw [e0]
        generalize AL.av ts x = as at hd
        clear hlenA e0 this
        induction as generalizing vs with
        | nil => intro t; rw [DenL_nil.1 hd]; simp only [List.getD, List.getElem?_nil, Option.getD_none]; exact den_undef
        | cons a as ih =>
          intro t
          obtain ⟨v, rest, rfl, h1, h2⟩ := DenL_cons.1 hd
          cases t with
          | zero => simpa using h1
          | succ t => simpa using ih rest h2 t
      have h1 := e1 t
      have hl := hlenV hd
      simp only [List.getD_eq_getElem?_getD, List.getElem?_append, List.getElem?_replicate, Array.getD_eq_getD_getElem?, Array.getElem?_append, List.getElem?_toArray, Array.getElem?_replicate, List.size_toArray] at h1 ⊢
      rw [hl]
      split
      · rename_i ht
        have hv : vs[t]? = some vs[t] := List.getElem?_eq_getElem (by omega)
        have ha : (AL.av ts x)[t]? = some (AL.av ts x)[t] := List.getElem?_eq_getElem ht
        rw [hv, ha] at h1 ⊢
        exact h1
      · split
        · exact den_undef
        · simp only [Option.getD_none]
          unfold DenV
          trivial
    · have e0 : (St.look ⟨AL.av ts x ++ List.replicate (fn.ntmps - (AL.av ts x).length) (.tup []), []⟩) = fun _ => none := by funext i; simp [St.look]
      rw [e0]
      exact Step.refl _ _ _ _
    · exact ⟨rfl, rfl, rfl, fun _ _ _ => rfl⟩
  · rintro e w' ⟨v, he, L, r, hk, hg⟩
    refine ⟨v, he, ?_⟩
    exact canR_good hg (fun _ => rfl) hk

theorem RM.frz1_ok {as : AV} {k : AV → RM Res} {q : Res} (h : (frz1 as k).eval H = some q) (hs : Sat ρ H G w) : ∃ a', (k a').eval H = some q ∧ (∀ v, DenV ρ H (Hot ρ H G) w as v → DenV ρ H (fun _ => False) w a' v) ∧ (∀ cs, DenC ρ H (Hot ρ H G) w as cs → DenC ρ H (fun _ => False) w a' cs) := by
  have less : Emb (fun i => some i) ρ H (Hot ρ H G) ρ H (fun _ => False) := ⟨fun i j h => by cases h; exact ⟨rfl, fun o ho => ⟨o, ho, fun c e hc => hc⟩⟩, fun b hb => hb.elim⟩
  have lessV : ∀ (a : AV) (v : Value), DenV ρ H (Hot ρ H G) w a v → DenV ρ H (fun _ => False) w a v := fun a v hd => DenV.step ⟨fun _ _ _ => rfl, fun _ o h => ⟨o, h, fun c' e' e => ⟨c', e', e, rfl, rfl⟩⟩, fun b hb => hb.elim, fun _ _ _ => rfl, Nat.le_refl _⟩ a v hd
  have lessC : ∀ (a : AV) (v : List Value), DenC ρ H (Hot ρ H G) w a v → DenC ρ H (fun _ => False) w a v := fun a v hd => DenC.step ⟨fun _ _ _ => rfl, fun _ o h => ⟨o, h, fun c' e' e => ⟨c', e', e, rfl, rfl⟩⟩, fun b hb => hb.elim, fun _ _ _ => rfl, Nat.le_refl _⟩ a v hd
  unfold frz1 at h
  split at h
  · rename_i id
    simp only [RM.eval] at h
    split at h
    · rename_i c e hc
      have hobj := hs.obj id _ hc
      obtain ⟨r, cap, h0, h1, h2, h3⟩ := hobj
      have key : ∀ v, Den1 ρ H (Hot ρ H G) w (.vec id) v → DenS (fun _ => False) w (.ro c) v := by
        intro v hv
        unfold Den1 at hv
        obtain ⟨_, o, ho, h4⟩ := hv
        rw [hc] at ho
        cases ho
        rw [h4 c e rfl, h0]
        rcases h3 with h3 | ⟨b, f, cells, fr, us, rfl, h5, h6, h7, h8⟩
        · exact .ro c r cap (fun _ _ => undef) 0 0 h1 h2 (fun h => by omega) (fun i j hi hj => by omega) (fun i j hi hj => by omega)
        · refine .ro c _ cap us b f h1 h2 (fun _ => ⟨rfl, fun h => h.elim, (Array.getElem?_eq_some_iff.1 h5).1⟩) (fun i j hi hj => ?_) (fun i j hi hj => (h8 i j hi hj).2.less (fun b hb => hb.elim))
          have := (h8 i j hi hj).1
          simp only [World.cell?, h5]
          simpa using this
      exact ⟨_, h, fun v hv => DenV_s (key v (by unfold DenV at hv; exact hv)), fun cs hv => by unfold DenC at *; obtain ⟨u, rfl, h9⟩ := hv; exact ⟨u, rfl, key u h9⟩⟩
    · simp [RM.eval] at h
  · exact ⟨_, h, lessV _, lessC _⟩

theorem RM.frzL_ok : ∀ {as : List AV} {k : List AV → RM Res} {q : Res}, (frzL as k).eval H = some q → Sat ρ H G w → ∃ as', (k as').eval H = some q ∧ ∀ cs, DenSegs ρ H (Hot ρ H G) w as cs → DenSegs ρ H (fun _ => False) w as' cs
  | [], k, q, h, hs => ⟨[], h, fun cs hd => by rw [DenSegs_nil.1 hd]; exact DenSegs_nil.2 rfl⟩
  | a :: as, k, q, h, hs => by
    obtain ⟨a', h1, h2, h3⟩ := RM.frz1_ok h hs
    obtain ⟨as', h4, h5⟩ := RM.frzL_ok h1 hs
    refine ⟨a' :: as', h4, fun cs hd => ?_⟩
    obtain ⟨c1, c2, rfl, h6, h7⟩ := DenSegs_cons.1 hd
    exact DenSegs_cons.2 ⟨c1, c2, rfl, h3 c1 h6, h5 c2 h7⟩

theorem RM.frzV_ok {as : AV} {k : AV → RM Res} {q : Res} (h : (frzV as k).eval H = some q) (hs : Sat ρ H G w) : ∃ a', (k a').eval H = some q ∧ (∀ v, DenV ρ H (Hot ρ H G) w as v → DenV ρ H (fun _ => False) w a' v) := by
  unfold frzV at h
  split at h
  · obtain ⟨as', h1, h2⟩ := RM.frzL_ok h hs
    refine ⟨_, h1, fun v hd => ?_⟩
    unfold DenV at *
    obtain ⟨cs, h3, h4⟩ := hd
    exact ⟨cs, h3, h2 cs h4⟩
  · obtain ⟨a', h1, h2, _⟩ := RM.frz1_ok h hs
    exact ⟨a', h1, h2⟩

theorem RM.frzA_ok : ∀ {as : List AV} {k : List AV → RM Res} {q : Res}, (frzA as k).eval H = some q → Sat ρ H G w → ∃ as', (k as').eval H = some q ∧ ∀ cs, DenL ρ H (Hot ρ H G) w as cs → DenL ρ H (fun _ => False) w as' cs
  | [], k, q, h, hs => ⟨[], h, fun cs hd => by rw [DenL_nil.1 hd]; exact DenL_nil.2 rfl⟩
  | a :: as, k, q, h, hs => by
    obtain ⟨a', h1, h2⟩ := RM.frzV_ok h hs
    obtain ⟨as', h4, h5⟩ := RM.frzA_ok h1 hs
    refine ⟨a' :: as', h4, fun cs hd => ?_⟩
    obtain ⟨v, rest, rfl, h6, h7⟩ := DenL_cons.1 hd
    exact DenL_cons.2 ⟨v, rest, rfl, h2 v h6, h5 rest h7⟩

theorem CL_flat_den : ∀ {cs : List CK} (_ : cs.all CK.flat = true) {x : CL cs} {j : Nat} {u : Value}, j < CL.wide cs → DenS O w (CL.cell cs x j) u → DenS O' w (CL.cell cs x j) u
  | [], _, x, j, u, hj, h => by simp [CL.wide] at hj
  | c :: cs, hf, x, j, u, hj, h => by
    simp only [List.all_cons, Bool.and_eq_true] at hf
    simp only [CL.cell] at h ⊢
    rcases Nat.lt_or_ge j c.wide with h5 | h5
    · rw [blt_t h5, cond_true] at h ⊢
      cases c <;> simp only [CK.flat, Bool.false_eq_true] at hf
      case int k => exact (by simp only [CK.cell] at h ⊢; cases h; constructor)
      case bool => exact (by simp only [CK.cell] at h ⊢; cases h; constructor)
      case str => exact (by simp only [CK.cell] at h ⊢; cases h; constructor)
      case arr k n => exact (by simp only [CK.cell] at h ⊢; cases h; constructor)
      all_goals exact hf.1.elim
    · rw [blt_f h5, cond_false] at h ⊢
      exact CL_flat_den hf.2 (by simp only [CL.wide] at hj; omega) h

theorem RK.flat_den {r : RK} (hr : r.flat = true) {x : r.V} {i j : Nat} {u : Value} (hj : j < (r.con x).size) (h : DenS O w ((r.con x).cell i j) u) : DenS O' w ((r.con x).cell i j) u := by
  cases r
  case typ cs => exact CL_flat_den hr hj h
  all_goals (simp only [RK.con, Con.cell] at h ⊢; cases h; constructor)

/-- Objects that bear plain rows alone. -/
def Plain (o : AObj) : Prop := ∃ (r : RK) (x : r.V) (e : TypeId), r.flat = true ∧ o = .vec (r.con x) e

theorem B.out_plain {b : B} (hb : b.flatR = true) {x : b.V} {base : Nat} : ∀ o ∈ (b.out base x).2, Plain o := by
  cases b with
  | row r e => intro o ho; simp only [B.out, List.mem_singleton] at ho; exact ⟨r, x, e, hb, ho⟩
  | _ => intro o ho; simp [B.out] at ho

theorem BL.out_plain : ∀ {bs : List B}, bs.all B.flatR = true → ∀ {x : BL bs} {base : Nat}, ∀ o ∈ (BL.out base bs x).2, Plain o
  | [], _, x, base, o, ho => by simp [BL.out] at ho
  | b :: bs, hb, (x, y), base, o, ho => by
    simp only [List.all_cons, Bool.and_eq_true] at hb
    simp only [BL.out, List.mem_append] at ho
    rcases ho with ho | ho
    · exact B.out_plain hb.1 o ho
    · exact BL.out_plain hb.2 o ho

theorem Ty.out_plain {t : Ty} (ht : t.flatR = true) {x : t.V} {base : Nat} : ∀ o ∈ (t.out base x).2, Plain o := by
  cases t with
  | b y => exact B.out_plain ht
  | st bs => exact BL.out_plain ht

theorem AL.out_plain : ∀ {ts : List Ty}, ts.all Ty.flatR = true → ∀ {x : AL ts} {base : Nat}, ∀ o ∈ (AL.out base ts x).2, Plain o
  | [], _, x, base, o, ho => by simp [AL.out] at ho
  | b :: bs, hb, (x, y), base, o, ho => by
    simp only [List.all_cons, Bool.and_eq_true] at hb
    simp only [AL.out, List.mem_append] at ho
    rcases ho with ho | ho
    · exact Ty.out_plain hb.1 o ho
    · exact AL.out_plain hb.2 o ho

/-- From the names from 0 on to those from a base on. -/
structure Shift (base n : Nat) (ρ : Nat → Value) (H : AHeap) (ρ' : Nat → Value) (H' : AHeap) : Prop where
  rho : ∀ i, i < n → ρ' (base + i) = ρ i
  heap : ∀ i, i < n → H' (base + i) = H i

theorem vec_shift {base n k : Nat} (sh : Shift base n ρ H ρ' H') (hk : k < n) {v : Value} (h : Den1 ρ H O w (.vec k) v) : Den1 ρ' H' O' w (.vec (base + k)) v := by
  unfold Den1 at *
  obtain ⟨h0, o, ho, h1⟩ := h
  exact ⟨h0, o, by rw [sh.heap k hk]; exact ho, fun c e hc => by rw [sh.rho k hk]; exact h1 c e hc⟩

theorem B.shiftV {base n k : Nat} (sh : Shift base n ρ H ρ' H') {b : B} (hO : b.flat = true ∨ ∀ i, O' i → O i) {x : b.V} (hk : k + (b.out k x).2.length ≤ n) {v : Value} (h : DenV ρ H O w (b.out k x).1 v) : DenV ρ' H' O' w (b.out (base + k) x).1 v := by
  cases b with
  | row r e =>
    simp only [B.out, List.length_cons, List.length_nil] at hk h ⊢
    unfold DenV at *
    exact vec_shift sh (by omega) h
  | int k => exact DenV_s (by have := DenS_of_V (by simp) h; cases this; constructor)
  | bool => exact DenV_s (by have := DenS_of_V (by simp) h; cases this; constructor)
  | str => exact DenV_s (by have := DenS_of_V (by simp) h; cases this; constructor)
  | fn => exact DenV_s (by have := DenS_of_V (by simp) h; cases this; constructor)
  | rrow r e =>
    rcases hO with hO | hO
    · cases hO
    · exact DenV_s ((DenS_of_V (by simp) h).less hO)
  | arr k n => simp only [B.out] at h ⊢; unfold DenV at *; exact h

theorem B.shiftC {base n k : Nat} (sh : Shift base n ρ H ρ' H') {b : B} (hO : b.flat = true ∨ ∀ i, O' i → O i) {x : b.V} (hk : k + (b.out k x).2.length ≤ n) {v : List Value} (h : DenC ρ H O w (b.out k x).1 v) : DenC ρ' H' O' w (b.out (base + k) x).1 v := by
  cases b with
  | row r e =>
    simp only [B.out, List.length_cons, List.length_nil] at hk h ⊢
    unfold DenC at *
    obtain ⟨u, rfl, h1⟩ := h
    exact ⟨u, rfl, vec_shift sh (by omega) h1⟩
  | int k => simp only [B.out] at h ⊢; unfold DenC at *; obtain ⟨u, rfl, h1⟩ := h; exact ⟨u, rfl, by cases h1; constructor⟩
  | bool => simp only [B.out] at h ⊢; unfold DenC at *; obtain ⟨u, rfl, h1⟩ := h; exact ⟨u, rfl, by cases h1; constructor⟩
  | str => simp only [B.out] at h ⊢; unfold DenC at *; obtain ⟨u, rfl, h1⟩ := h; exact ⟨u, rfl, by cases h1; constructor⟩
  | fn => simp only [B.out] at h ⊢; unfold DenC at *; obtain ⟨u, rfl, h1⟩ := h; exact ⟨u, rfl, by cases h1; constructor⟩
  | rrow r e =>
    simp only [B.out] at h ⊢
    unfold DenC at *
    obtain ⟨u, rfl, h1⟩ := h
    rcases hO with hO | hO
    · cases hO
    · exact ⟨u, rfl, h1.less hO⟩
  | arr k n => simp only [B.out] at h ⊢; unfold DenC at *; exact h

theorem B.out_len {b : B} {x : b.V} (k k' : Nat) : (b.out k x).2 = (b.out k' x).2 := by cases b <;> rfl

theorem BL.out_len : ∀ {bs : List B} {x : BL bs} (k k' : Nat), (BL.out k bs x).2 = (BL.out k' bs x).2
  | [], _, _, _ => rfl
  | b :: bs, (x, y), k, k' => by
    simp only [BL.out]
    rw [B.out_len k k', BL.out_len (k + _) (k' + (b.out k' x).2.length)]

theorem Ty.out_len {t : Ty} {x : t.V} (k k' : Nat) : (t.out k x).2 = (t.out k' x).2 := by
  cases t with
  | b y => exact B.out_len k k'
  | st bs => exact BL.out_len k k'

theorem AL.out_len : ∀ {ts : List Ty} {x : AL ts} (k k' : Nat), (AL.out k ts x).2 = (AL.out k' ts x).2
  | [], _, _, _ => rfl
  | b :: bs, (x, y), k, k' => by
    simp only [AL.out]
    rw [Ty.out_len k k', AL.out_len (k + _) (k' + (b.out k' x).2.length)]

theorem BL.shift {base n : Nat} (sh : Shift base n ρ H ρ' H') : ∀ {bs : List B} (_ : bs.all B.flat = true ∨ ∀ i, O' i → O i) {k : Nat} {x : BL bs} {cs : List Value}, k + (BL.out k bs x).2.length ≤ n → DenSegs ρ H O w (BL.out k bs x).1 cs → DenSegs ρ' H' O' w (BL.out (base + k) bs x).1 cs
  | [], _, k, x, cs, hk, h => by rw [DenSegs_nil.1 h]; exact DenSegs_nil.2 rfl
  | b :: bs, hO, k, (x, y), cs, hk, h => by
    simp only [BL.out, List.length_append] at hk h ⊢
    obtain ⟨c1, c2, rfl, h1, h2⟩ := DenSegs_cons.1 h
    have hO1 : b.flat = true ∨ ∀ i, O' i → O i := hO.imp (fun h => by simp only [List.all_cons, Bool.and_eq_true] at h; exact h.1) (fun h => h)
    have hO2 : bs.all B.flat = true ∨ ∀ i, O' i → O i := hO.imp (fun h => by simp only [List.all_cons, Bool.and_eq_true] at h; exact h.2) (fun h => h)
    refine DenSegs_cons.2 ⟨c1, c2, rfl, B.shiftC sh hO1 (by omega) h1, ?_⟩
    rw [B.out_len (base + k) k, Nat.add_assoc]
    exact BL.shift sh hO2 (by omega) h2

theorem Ty.shift {base n k : Nat} (sh : Shift base n ρ H ρ' H') {t : Ty} (hO : t.flat = true ∨ ∀ i, O' i → O i) {x : t.V} (hk : k + (t.out k x).2.length ≤ n) {v : Value} (h : DenV ρ H O w (t.out k x).1 v) : DenV ρ' H' O' w (t.out (base + k) x).1 v := by
  cases t with
  | b y => exact B.shiftV sh hO hk h
  | st bs =>
    simp only [Ty.out] at hk h ⊢
    unfold DenV at *
    obtain ⟨cs, h1, h2⟩ := h
    exact ⟨cs, h1, BL.shift sh hO hk h2⟩

theorem AL.shift {base n : Nat} (sh : Shift base n ρ H ρ' H') : ∀ {ts : List Ty} (_ : ts.all Ty.flat = true ∨ ∀ i, O' i → O i) {k : Nat} {x : AL ts} {vs : List Value}, k + (AL.out k ts x).2.length ≤ n → DenL ρ H O w (AL.out k ts x).1 vs → DenL ρ' H' O' w (AL.out (base + k) ts x).1 vs
  | [], _, k, x, vs, hk, h => by rw [DenL_nil.1 h]; exact DenL_nil.2 rfl
  | b :: bs, hO, k, (x, y), cs, hk, h => by
    simp only [AL.out, List.length_append] at hk h ⊢
    obtain ⟨c1, c2, rfl, h1, h2⟩ := DenL_cons.1 h
    have hO1 : b.flat = true ∨ ∀ i, O' i → O i := hO.imp (fun h => by simp only [List.all_cons, Bool.and_eq_true] at h; exact h.1) (fun h => h)
    have hO2 : bs.all Ty.flat = true ∨ ∀ i, O' i → O i := hO.imp (fun h => by simp only [List.all_cons, Bool.and_eq_true] at h; exact h.2) (fun h => h)
    refine DenL_cons.2 ⟨c1, c2, rfl, Ty.shift sh hO1 (by omega) h1, ?_⟩
    rw [Ty.out_len (base + k) k, Nat.add_assoc]
    exact AL.shift sh hO2 (by omega) h2

theorem AL.out_avs : ∀ {ts : List Ty} {x : AL ts} (k : Nat), (AL.out k ts x).1.length = ts.length
  | [], _, _ => rfl
  | b :: bs, (x, y), k => by simp [AL.out, AL.out_avs]

theorem res_shift {base : Nat} {rs : List Ty} (hO : rs.all Ty.flat = true ∨ ∀ i, O' i → O i) {y : AL rs} (sh : Shift base (AL.res rs y).1.length ρ H ρ' H') {v : Value} (h : DenV ρ H O w (AL.res rs y).2 v) : DenV ρ' H' O' w (oneOf (AL.out base rs y).1) v := by
  unfold AL.res at h sh
  simp only [] at h sh
  have hl : ∀ vs, DenL ρ H O w (AL.out 0 rs y).1 vs → DenL ρ' H' O' w (AL.out (base + 0) rs y).1 vs := fun vs => AL.shift (k := 0) (x := y) (O := O) (O' := O') (w := w) sh hO (by omega)
  have l0 := AL.out_avs (x := y) 0
  have l1 := AL.out_avs (x := y) base
  generalize (AL.out 0 rs y).1 = as at *
  rw [Nat.add_zero] at hl
  generalize (AL.out base rs y).1 = bs at *
  unfold oneOf at h ⊢
  split at h
  · rename_i a
    cases bs with
    | nil => simp at l0 l1; omega
    | cons b bs =>
      cases bs with
      | nil =>
        have := hl [v] (DenL_cons.2 ⟨v, [], rfl, h, DenL_nil.2 rfl⟩)
        obtain ⟨v', rest, e, h1, _⟩ := DenL_cons.1 this
        cases e
        exact h1
      | cons c cs => simp at l0 l1; omega
  · rename_i hne
    split
    · rename_i b
      cases as with
      | nil => simp at l0 l1; omega
      | cons a as =>
        cases as with
        | nil => exact (hne a rfl).elim
        | cons c cs => simp at l0 l1; omega
    · unfold DenV at *
      obtain ⟨us, h1, h2⟩ := h
      exact ⟨us, h1, hl us h2⟩

/-- One function's summary tells the truth. -/
def SOk1 (P : Program) (Z : Glob) (f : FuncId) (s : Nat → List AV → RM Res) : Prop :=
  ∀ (base : Nat) (args : List AV) (H : AHeap) (q : Res), (s base args).eval H = some q → Needs q.need → ∀ (ρ : Nat → Value) (G : Nat → Prop) (w : World) (vs : List Value),
    (∀ i, i < q.new.length → H (base + i) = none) → ZAt Z ρ H w → Sat ρ H G w → DenL ρ H (Hot ρ H G) w args vs →
    Calls P f vs.toArray w fun en w' => ∃ v, en = .returned v ∧ Good ρ H G w (resH H q.up base q.new) (q.r base) v w'

theorem FnOk.sum {f : FuncId} {ts rs : List Ty} {pre : AL ts → List Prop} {F : AL ts → AL rs} (h : FnOk P Z f ts rs pre F) : SOk1 P Z f (sumOf ts rs pre F) := by
  intro base args H q hq hn ρ G w vs hfresh hz hs hd
  unfold sumOf at hq
  obtain ⟨args1, hq, h1⟩ := RM.frzA_ok hq hs
  split at hq
  · rename_i args2 h2
    split at hq
    · rename_i x h3
      rw [Bool.cond_eq_ite] at hq
      split at hq
      · rename_i hflat
        simp only [RM.eval, Option.some.injEq] at hq
        subst hq
        have hemp : ∀ b, ¬ Hot (fun _ => undef) (fun _ => none) (fun _ => False) b := by
          rintro b (⟨id, o, ho, _⟩ | hb)
          · cases ho
          · exact hb
        have E : Emb (fun _ => none) ρ H (fun _ => False) (fun _ => undef) (fun _ => none) (Hot (fun _ => undef) (fun _ => none) (fun _ => False)) := ⟨fun i j hij => (by cases hij), fun b hb => (hemp b hb).elim⟩
        have hd2 := rnL_den E h2 (h1 vs hd)
        have hd3 : DenL (fun _ => undef) (fun _ => none) (Hot (fun _ => undef) (fun _ => none) (fun _ => False)) w (AL.av ts x) vs := AL.rd_ok h3 hd2
        refine (h x (AL.okL hd3) hn (fun _ => False) w vs (fun b hb => hb.elim) hz.1 hd3).mono ?_
        rintro e w' ⟨v, he, ρ1, g1, g2, g3, g4⟩
        refine ⟨v, he, ?_⟩
        simp only []
        have hflatR : rs.all Ty.flatR = true := by
          rw [List.all_eq_true] at hflat ⊢
          intro t ht
          have := hflat t ht
          cases t with
          | b y => cases y <;> first | rfl | exact this | cases this
          | st bs =>
            change bs.all B.flat = true at this
            show bs.all B.flatR = true
            rw [List.all_eq_true] at this ⊢
            intro b hb
            have := this b hb
            cases b <;> first | rfl | exact this | cases this
        have hpl := AL.out_plain hflatR (x := F x) (base := 0)
        have hobjs : (AL.res rs (F x)).1 = (AL.out 0 rs (F x)).2 := rfl
        rw [← hobjs] at hpl
        generalize hL : (AL.res rs (F x)).1 = L at *
        have hnew : ∀ b, Own ρ1 (lk L) b → w.heap.size ≤ b := fun b hb => by
          rcases g3.hot b (.inl hb) with h5 | h5
          · exact (hemp b h5).elim
          · exact h5
        let ρ2 : Nat → Value := fun id => if base ≤ id ∧ id < base + L.length then ρ1 (id - base) else ρ id
        let H2 := resH H [] base L
        have hH2 : ∀ id, H2 id = if base ≤ id ∧ id < base + L.length then L[id - base]? else H id := fun id => rfl
        have sh : Shift base L.length ρ1 (lk L) ρ2 H2 := ⟨fun i hi => by simp only [ρ2]; rw [if_pos (by omega)]; congr 1; omega, fun i hi => by rw [hH2, if_pos (by omega)]; simp [lk]⟩
        have hold : ∀ {id : Nat} {o : AObj}, H id = some o → ¬ (base ≤ id ∧ id < base + L.length) := fun {id o} ho hc => by
          have := hfresh (id - base) (by simp only []; omega)
          rw [show base + (id - base) = id from by omega, ho] at this
          cases this
        have hown2 : ∀ b, Own ρ2 H2 b → Own ρ1 (lk L) b ∨ Own ρ H b := by
          rintro b ⟨id, o, ho, ha, hb⟩
          rw [hH2] at ho
          simp only [ρ2] at hb
          split at ho
          · rename_i hc
            rw [if_pos hc] at hb
            exact .inl ⟨id - base, o, ho, ha, hb⟩
          · rename_i hc
            rw [if_neg hc] at hb
            exact .inr ⟨id, o, ho, ha, hb⟩
        have heap : ∀ b, b < w.heap.size → w'.heap[b]? = w.heap[b]? := fun b hb => g4.heap b hb (fun ho => hemp b (.inl ho))
        have hsize : w.heap.size ≤ w'.heap.size := g3.size
        have st : Step ρ H (Hot ρ H G) w ρ2 H2 (Hot ρ2 H2 G) w' := by
          refine ⟨fun id o ho => ?_, fun id o ho => ?_, fun b hb => ?_, fun b hb _ => heap b hb, hsize⟩
          · simp only [ρ2]; rw [if_neg (hold ho)]
          · exact ⟨o, by rw [hH2, if_neg (hold ho)]; exact ho, fun c' e' hc => ⟨c', e', hc, rfl, rfl⟩⟩
          · rcases hb with hb | hb
            · rcases hown2 b hb with h5 | h5
              · exact .inr (hnew b h5)
              · exact .inl (.inl h5)
            · exact .inl (.inr hb)
        refine ⟨ρ2, ⟨fun id o ho => ?_, fun i j oi oj b hi hj ai aj bi bj => ?_, fun b hb hG => ?_, fun b hb => Nat.lt_of_lt_of_le (hs.low b hb) hsize⟩, res_shift (.inl hflat) (O := Hot ρ1 (lk L) (fun _ => False)) (hL ▸ sh) (by rw [hL]; exact g2), st, ⟨g4.os, g4.tape, g4.output, fun b hb _ => heap b hb⟩⟩
        · change H2 id = some o at ho
          rw [hH2] at ho
          simp only [ρ2]
          split at ho
          · rename_i hc
            rw [if_pos hc]
            have hobj := g1.obj (id - base) o ho
            obtain ⟨r, y, e', hr, rfl⟩ := hpl o (List.mem_of_getElem? ho)
            obtain ⟨a0, cap, k0, k1, k2, k3⟩ := hobj
            refine ⟨a0, cap, k0, k1, k2, k3.imp (fun h => h) ?_⟩
            rintro ⟨b, f0, cells, fr, us, k4, k5, k6, k7, k8⟩
            exact ⟨b, f0, cells, fr, us, k4, k5, k6, k7, fun i j hi hj => ⟨(k8 i j hi hj).1, RK.flat_den hr hj (k8 i j hi hj).2⟩⟩
          · rename_i hc
            rw [if_neg hc]
            have hobj := hs.obj id o ho
            refine hobj.step st (fun b ha hb => heap b ?_)
            exact own_lt hs ⟨id, o, ho, ha, hb⟩
        · change H2 i = some oi at hi
          change H2 j = some oj at hj
          rw [hH2] at hi hj
          simp only [ρ2] at bi bj
          split at hi
          · rename_i ci
            rw [if_pos ci] at bi
            have o1 : Own ρ1 (lk L) b := ⟨_, oi, hi, ai, bi⟩
            split at hj
            · rename_i cj
              rw [if_pos cj] at bj
              have := g1.inj (i - base) (j - base) oi oj b hi hj ai aj bi bj
              omega
            · rename_i cj
              rw [if_neg cj] at bj
              have := own_lt hs ⟨j, oj, hj, aj, bj⟩
              have := hnew b o1
              omega
          · rename_i ci
            rw [if_neg ci] at bi
            have h6 := own_lt hs ⟨i, oi, hi, ai, bi⟩
            split at hj
            · rename_i cj
              rw [if_pos cj] at bj
              have := hnew b ⟨_, oj, hj, aj, bj⟩
              omega
            · rename_i cj
              rw [if_neg cj] at bj
              exact hs.inj i j oi oj b hi hj ai aj bi bj
        · rcases hown2 b hb with h5 | h5
          · have := hnew b h5
            have := hs.low b hG
            omega
          · exact hs.apart b h5 hG
      · simp [RM.eval] at hq
    · simp [RM.eval] at hq
  · simp [RM.eval] at hq

/-! ### a table of summaries -/
abbrev Tab := List (FuncId × (Nat → List AV → RM Res))

def Tab.get : Tab → FuncId → Option (Nat → List AV → RM Res)
  | [], _ => none
  | (g, s) :: t, f => bif g.beq f then some s else Tab.get t f

def Tab.sum (t : Tab) : SummB := fun base f args => match t.get f with
  | some s => s base args
  | none => .fail "no summary"

def Tab.Ok (P : Program) (Z : Glob) (t : Tab) : Prop := ∀ x ∈ t, SOk1 P Z x.1 x.2

theorem Tab.get_mem : ∀ {t : Tab} {f : FuncId} {s : Nat → List AV → RM Res}, t.get f = some s → (f, s) ∈ t
  | [], f, s, h => by simp [Tab.get] at h
  | (g, s') :: t, f, s, h => by
    simp only [Tab.get, Bool.cond_eq_ite] at h
    split at h
    · rename_i hg
      obtain rfl := Nat.eq_of_beq_eq_true hg
      cases h
      simp
    · exact List.mem_cons_of_mem _ (Tab.get_mem h)

theorem Tab.sOk {t : Tab} (h : t.Ok P Z) : SOk P t.sum Z := by
  intro base f args H q _ hq hn ρ G w vs hf hz hs hd
  unfold Tab.sum at hq
  split at hq
  · rename_i s hg
    exact h _ (Tab.get_mem hg) base args H q hq hn ρ G w vs hf hz hs hd
  · simp [RM.eval] at hq

theorem Tab.Ok.nil : Tab.Ok P Z [] := fun x hx => by simp at hx
theorem Tab.Ok.cons {f : FuncId} {s : Nat → List AV → RM Res} {t : Tab} (h : SOk1 P Z f s) (ht : Tab.Ok P Z t) : Tab.Ok P Z ((f, s) :: t) := by
  intro x hx
  rcases List.mem_cons.1 hx with rfl | hx
  · exact h
  · exact ht x hx
end
end Go.Sx
