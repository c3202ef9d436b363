import Derived.Test.YtjmdfmafnenjnaaSxFnR
/-! Loops, and the whole of a function. -/
namespace Go.Sx
open Go

/-- Slots, those that are not told being of no matter. -/
def slF : Nat → Nat → List (Nat × AV) → List AV
  | 0, _, _ => []
  | n + 1, i, [] => .s .junk :: slF n (i + 1) []
  | n + 1, i, (j, a) :: l => bif j.beq i then a :: slF n (i + 1) l else .s .junk :: slF n (i + 1) ((j, a) :: l)
def sl (n : Nat) (l : List (Nat × AV)) : List AV := slF n 0 l

def firstRegion : Code → Option Nat
  | .region id _ _ => some id
  | .seq a b => match firstRegion a with
    | some i => some i
    | none => firstRegion b
  | .cond _ a b => match firstRegion a with
    | some i => some i
    | none => firstRegion b
  | .block _ c | .loop c | .scope c => firstRegion c
  | _ => none

/-- A loop's head, by its first region. -/
def headOf (key : Nat) : Code → List Item → Option (List Item)
  | .seq a b, k => match headOf key a (.code b :: k) with
    | some r => some r
    | none => headOf key b k
  | .cond _ a b, k => match headOf key a k with
    | some r => some r
    | none => headOf key b k
  | .block id c, k => headOf key c (.inBlock id :: k)
  | .scope c, k => headOf key c (.inScope c :: k)
  | .loop c, k => match firstRegion c with
    | some i => bif i.beq key then some (.code c :: .inLoop c :: k) else headOf key c (.inLoop c :: k)
    | none => headOf key c (.inLoop c :: k)
  | _, _ => none

def hd (fn : Func) (key : Nat) : List Item := (headOf key (fn.body.getD .skip) []).getD []

/-- A region, and what stands behind it. -/
def regionAt (key : Nat) : Code → List Item → Option (List Item)
  | .region id ops d, k => bif id.beq key then some (.code (.region id ops d) :: k) else none
  | .seq a b, k => match regionAt key a (.code b :: k) with
    | some r => some r
    | none => regionAt key b k
  | .cond _ a b, k => match regionAt key a k with
    | some r => some r
    | none => regionAt key b k
  | .block id c, k => regionAt key c (.inBlock id :: k)
  | .scope c, k => regionAt key c (.inScope c :: k)
  | .loop c, k => regionAt key c (.inLoop c :: k)
  | _, _ => none

def hr (fn : Func) (key : Nat) : List Item := (regionAt key (fn.body.getD .skip) []).getD []

def keyOf : List Item → Nat
  | .code c :: _ => (firstRegion c).getD 0
  | _ => 0

def nsOf : List (Nat × Norm) → Nat → Option Norm
  | [], _ => none
  | (i, n) :: l, k => bif i.beq k then some n else nsOf l k

def Tree.norm (ns : List (Nat × Norm)) : Tree → Tree
  | .need p t => .need p (t.norm ns)
  | .ite b t e => .ite b (t.norm ns) (e.norm ns)
  | .both p q t e => .both p q (t.norm ns) (e.norm ns)
  | .ret H v => .ret H v
  | .stuck w => .stuck w
  | .at c => match nsOf ns (keyOf c.todo) with
    | some N => (match N.run c with
      | some c' => .at c'
      | none => .stuck "norm")
    | none => .stuck "no norm"

def stopOf : List (Nat × Norm) → Nat → Bool
  | [], _ => false
  | (i, _) :: l, k => i.beq k || stopOf l k

def run (P : Program) (S : SummB) (fn : Func) (ns : List (Nat × Norm)) (c : Cfg) : Tree := (exec P S fn (stopOf ns) 400 true c).norm ns

section
variable {P : Program} {S : SummB} {Z : Glob} {X : Ctx} {K : List AObj → AV → Prop} {C C' : Cfg → Prop}

theorem nsOf_mem : ∀ {l : List (Nat × Norm)} {k : Nat} {N : Norm}, nsOf l k = some N → ∃ i, (i, N) ∈ l
  | [], k, N, h => by simp [nsOf] at h
  | (i, n) :: l, k, N, h => by
    simp only [nsOf, Bool.cond_eq_ite] at h
    split at h
    · cases h; exact ⟨i, by simp⟩
    · obtain ⟨j, hj⟩ := nsOf_mem h
      exact ⟨j, by simp [hj]⟩

theorem norm_holds {ns : List (Nat × Norm)} {f : FuncId} (h0 : ∀ x ∈ ns, ∀ id, x.2.m ≤ id → X.H id = none) : ∀ (t : Tree), (t.norm ns).Holds K (Safe P f X K) → t.Holds K (Safe P f X K)
  | .need p t, h => ⟨h.1, norm_holds h0 t h.2⟩
  | .ite b t e, h => ⟨fun hb => norm_holds h0 t (h.1 hb), fun hb => norm_holds h0 e (h.2 hb)⟩
  | .both _ _ t e, h => ⟨fun hp => norm_holds h0 t (h.1 hp), fun hq => norm_holds h0 e (h.2 hq)⟩
  | .ret H v, h => h
  | .stuck w, h => h
  | .at c, h => by
    unfold Tree.norm at h
    split at h
    · rename_i N hN
      split at h
      · rename_i c' hc
        obtain ⟨i, hi⟩ := nsOf_mem hN
        exact Norm.safe (h0 _ hi) hc h
      · exact h.elim
    · exact h.elim

theorem Tree.mono {t : Tree} (h : t.Holds K C) (hC : ∀ c, C c → C' c) : t.Holds K C' := by
  induction t with
  | need p t ih => exact ⟨h.1, ih h.2⟩
  | ite b t e ih1 ih2 => exact ⟨fun hb => ih1 (h.1 hb), fun hb => ih2 (h.2 hb)⟩
  | both p q t e ih1 ih2 => exact ⟨fun hp => ih1 (h.1 hp), fun hq => ih2 (h.2 hq)⟩
  | ret H v => exact h
  | stuck w => exact h
  | _ c => exact hC c h

theorem ends_eq {rs : List Ty} {y : AL rs} (y' : AL rs) {L : List AObj} {r : AV} (h : y = y') (hc : canR (rs.flatMap Ty.ces) L r = some (AL.res rs y')) : Ends rs y L r := by
  subst h; exact hc

/-- From a state on, till the end or a loop's head. -/
theorem safe_of_run {f : FuncId} {fn : Func} {ns : List (Nat × Norm)} {c : Cfg} {t : Tree} (hS : SOk P S Z) (hzc : ZCtx Z X) (hm : P.follows .mixedOrders = true) (hf : P.funcs[f]? = some fn) (h0 : ∀ x ∈ ns, ∀ id, x.2.m ≤ id → X.H id = none)
    (ht : run P S fn ns c = t) (h : t.Holds K (Safe P f X K)) : Safe P f X K c := by
  subst ht
  exact exec_ok hS hzc hm hf 400 true c (norm_holds h0 _ h)

/-- A loop: what stands at its head, with a measure that falls. -/
theorem safe_loop {f : FuncId} {ι : Type} (c : ι → Cfg) (I : ι → Prop) (m : ι → Nat) (h : ∀ x, I x → (∀ y, I y → m y < m x → Safe P f X K (c y)) → Safe P f X K (c x)) : ∀ x, I x → Safe P f X K (c x) := by
  intro x
  induction hn : m x using Nat.strongRecOn generalizing x with
  | ind n ih =>
    intro hx
    subst hn
    exact h x hx (fun y hy hlt => ih (m y) hlt y rfl hy)
end
end Go.Sx
