import Derived.Test.YtjmdfmafnenjnaaSxView
/-! Typed contracts: a function of plain values, told in plain Lean. -/
namespace Go.Sx
open Go

/-- A row's kind. -/
inductive RK where
  | ints (k : IntKind)
  | strs
  | bools
  | typ (cs : List CK)

abbrev RK.E : RK → Type
  | .ints _ => Int
  | .strs => ByteArray
  | .bools => Bool
  | .typ cs => CL cs

abbrev RK.V (r : RK) : Type := List r.E

def RK.con : (r : RK) → r.V → Con
  | .ints k, x => .ints k x
  | .strs, x => .strs x
  | .bools, x => .bools x
  | .typ cs, x => .typ cs x

def rdInts (k : IntKind) : Con → Option (List Int)
  | .ints k' zs => bif kindEq k' k then some zs else none
  | .recs _ 0 _ => some []
  | _ => none
def rdStrs : Con → Option (List ByteArray)
  | .strs x => some x
  | .recs _ 0 _ => some []
  | _ => none
def rdBools : Con → Option (List Bool)
  | .bools x => some x
  | .recs _ 0 _ => some []
  | _ => none
def rdTyp (cs : List CK) : Con → Option (List (CL cs))
  | .typ cs' x => (CL.eq cs' cs).map fun h => castL h x
  | .recs _ 0 _ => some []
  | _ => none

def RK.rd : (r : RK) → Con → Option r.V
  | .ints k, c => rdInts k c
  | .strs, c => rdStrs c
  | .bools, c => rdBools c
  | .typ cs, c => rdTyp cs c

def CK.flat : CK → Bool
  | .int _ | .bool | .str | .arr _ _ => true
  | _ => false

def RK.flat : RK → Bool
  | .typ cs => cs.all CK.flat
  | _ => true

/-- A value of one part. -/
inductive B where
  | int (k : IntKind)
  | bool
  | str
  | row (r : RK) (e : TypeId)
  | arr (k : IntKind) (n : Nat)
  | fn
  | rrow (r : RK) (e : TypeId)

abbrev B.V : B → Type
  | .int _ => Int
  | .bool => Bool
  | .str => ByteArray
  | .row r _ => r.V
  | .arr _ _ => List Int
  | .fn => FuncId
  | .rrow r _ => r.V

def B.av : (b : B) → b.V → AV
  | .int k, n => .s (.int k n)
  | .bool, x => .s (.bool x)
  | .str, x => .s (.str x)
  | .row r _, x => .s (.ro (r.con x))
  | .arr k n, x => .ints k n x
  | .fn, f => .s (.fn0 f)
  | .rrow r _, x => .s (.ro (r.con x))

def numsAV (k : IntKind) : List AV → Option (List Int)
  | [] => some []
  | .s (.int k' n) :: as => bif kindEq k' k then (numsAV k as).map (n :: ·) else none
  | _ => none

def avInt (k : IntKind) : AV → Option Int
  | .s (.int k' n) => bif kindEq k' k then some n else none
  | _ => none
def avBool : AV → Option Bool
  | .s (.bool x) => some x
  | _ => none
def avStr : AV → Option ByteArray
  | .s (.str x) => some x
  | _ => none
def avRow (r : RK) : AV → Option r.V
  | .emp => some []
  | .s (.ro c) => r.rd c
  | _ => none
def avArr (k : IntKind) (n : Nat) : AV → Option (List Int)
  | .ints k' n' ws => bif kindEq k' k && n'.beq n then some ws else none
  | .agg segs => bif segs.length.beq n then numsAV k segs else none
  | _ => none

def avFn : AV → Option FuncId
  | .s (.fn0 f) => some f
  | _ => none

def B.rd : (b : B) → AV → Option b.V
  | .int k, a => avInt k a
  | .bool, a => avBool a
  | .str, a => avStr a
  | .row r _, a => avRow r a
  | .arr k n, a => avArr k n a
  | .fn, a => avFn a
  | .rrow r _, a => avRow r a

/-- What is known of a value of that type, by its type alone. -/
def B.ok : (b : B) → b.V → Prop
  | .row _ _, x => x.length ≤ maxLen
  | .rrow _ _, x => x.length ≤ maxLen
  | .arr _ n, x => List.length (α := Int) x = n
  | _, _ => True

/-- A value: one part, or a struct's. -/
inductive Ty where
  | b (x : B)
  | st (bs : List B)

abbrev BL : List B → Type
  | [] => Unit
  | b :: bs => b.V × BL bs

abbrev Ty.V : Ty → Type
  | .b x => x.V
  | .st bs => BL bs

abbrev AL : List Ty → Type
  | [] => Unit
  | t :: ts => t.V × AL ts

def BL.av : (bs : List B) → BL bs → List AV
  | [], _ => []
  | b :: bs, (x, y) => b.av x :: BL.av bs y

def BL.rd : (bs : List B) → List AV → Option (BL bs)
  | [], [] => some ()
  | b :: bs, a :: as => match b.rd a, BL.rd bs as with
    | some x, some y => some (x, y)
    | _, _ => none
  | _, _ => none

def BL.ok : (bs : List B) → BL bs → Prop
  | [], _ => True
  | b :: bs, (x, y) => b.ok x ∧ BL.ok bs y

def Ty.av : (t : Ty) → t.V → AV
  | .b x, v => x.av v
  | .st bs, v => .agg (BL.av bs v)

def avSt (bs : List B) : AV → Option (BL bs)
  | .agg segs => BL.rd bs segs
  | _ => none

def Ty.rd : (t : Ty) → AV → Option t.V
  | .b x, a => x.rd a
  | .st bs, a => avSt bs a

def Ty.ok : (t : Ty) → t.V → Prop
  | .b x, v => x.ok v
  | .st bs, v => BL.ok bs v

def AL.av : (ts : List Ty) → AL ts → List AV
  | [], _ => []
  | t :: ts, (x, y) => t.av x :: AL.av ts y

def AL.rd : (ts : List Ty) → List AV → Option (AL ts)
  | [], [] => some ()
  | t :: ts, a :: as => match t.rd a, AL.rd ts as with
    | some x, some y => some (x, y)
    | _, _ => none
  | _, _ => none

def AL.ok : (ts : List Ty) → AL ts → Prop
  | [], _ => True
  | t :: ts, (x, y) => t.ok x ∧ AL.ok ts y

section
variable {g : Nat → Option Nat} {ρ ρ' : Nat → Value} {H H' : AHeap} {G O O' : Nat → Prop} {w w' : World} {P : Program} {S : SummB} {Z : Glob} {X : Ctx} {s : St} {a : Act} {K : List AObj → AV → Prop} {C : Cfg → Prop}

theorem den_ro_congr {c c' : Con} {v : Value} (hn : c'.n = c.n) (hs : c'.size = c.size) (hc : ∀ i j, i < c.n → j < c.size → c'.cell i j = c.cell i j) (h : DenS O w (.ro c) v) : DenS O w (.ro c') v := by
  cases h with
  | ro _ a cap us b o h1 h2 h3 h4 h5 =>
    rw [← hn]
    refine .ro c' a cap us b o (by omega) h2 (fun h => h3 (by omega)) (fun i j hi hj => ?_) (fun i j hi hj => ?_)
    · rw [hs]; exact h4 i j (by omega) (by omega)
    · rw [hc i j (by omega) (by omega)]; exact h5 i j (by omega) (by omega)

theorem RK.rd_ok {r : RK} {c : Con} {x : r.V} (h : r.rd c = some x) {v : Value} (hd : DenS O w (.ro c) v) : DenS O w (.ro (r.con x)) v := by
  cases r
  case ints k =>
    change rdInts k c = some x at h
    unfold rdInts at h
    split at h
    · rw [Bool.cond_eq_ite] at h
      split at h
      · rename_i hk
        obtain rfl := kindEq_eq hk
        simp only [Option.some.injEq] at h
        subst h
        exact hd
      · cases h
    · cases h; exact den_ro_nil (by rfl) (by rfl) hd
    · cases h
  case typ cs =>
    change rdTyp cs c = some x at h
    unfold rdTyp at h
    split at h
    · obtain ⟨⟨e⟩, _, h2⟩ := Option.map_eq_some_iff.1 h
      subst e
      rw [castL_rfl] at h2
      subst h2
      exact hd
    · cases h; exact den_ro_nil (by rfl) (by rfl) hd
    · cases h
  case strs => change rdStrs c = some x at h; unfold rdStrs at h; split at h <;> cases h; exact hd; exact den_ro_nil (by rfl) (by rfl) hd
  case bools => change rdBools c = some x at h; unfold rdBools at h; split at h <;> cases h; exact hd; exact den_ro_nil (by rfl) (by rfl) hd

theorem emp_row {r : RK} {v : Value} (h : ∃ a, v = .slice a 0 0) : DenS O w (.ro (r.con [])) v := by
  obtain ⟨a, rfl⟩ := h
  have hn : (r.con []).n = 0 := by cases r <;> rfl
  have := DenS.ro (O := O) (w := w) (r.con []) a 0 (fun _ _ => undef) 0 0 (by omega) (Nat.zero_le _) (fun h => by omega) (fun i j hi hj => by omega) (fun i j hi hj => by omega)
  rwa [hn] at this

theorem numsAV_ok {k : IntKind} : ∀ {as : List AV} {zs : List Int} {cs : List Value}, numsAV k as = some zs → DenSegs ρ H O w as cs → zs.length = as.length ∧ cs = zs.map (Value.int k)
  | [], zs, cs, h, hd => by simp only [numsAV, Option.some.injEq] at h; subst h; exact ⟨rfl, DenSegs_nil.1 hd⟩
  | a :: as, zs, cs, h, hd => by
    unfold numsAV at h
    split at h
    · rename_i heq; cases heq
    · rename_i k' n as' heq
      simp only [List.cons.injEq] at heq
      obtain ⟨rfl, rfl⟩ := heq
      rw [Bool.cond_eq_ite] at h
      split at h
      · rename_i hk
        obtain rfl := kindEq_eq hk
        simp only [Option.map_eq_some_iff] at h
        obtain ⟨zs', h1, rfl⟩ := h
        obtain ⟨c1, c2, rfl, h2, h3⟩ := DenSegs_cons.1 hd
        obtain ⟨h4, rfl⟩ := numsAV_ok h1 h3
        unfold DenC at h2
        obtain ⟨u, rfl, h5⟩ := h2
        cases h5
        exact ⟨by simp [h4], rfl⟩
      · cases h
    · cases h

theorem avInt_eq {k : IntKind} {a : AV} {n : Int} (h : avInt k a = some n) : a = .s (.int k n) := by
  unfold avInt at h
  split at h
  · rw [Bool.cond_eq_ite] at h
    split at h
    · rename_i hk
      obtain rfl := kindEq_eq hk
      cases h; rfl
    · cases h
  · cases h
theorem avBool_eq {a : AV} {x : Bool} (h : avBool a = some x) : a = .s (.bool x) := by
  unfold avBool at h
  split at h <;> cases h
  rfl
theorem avStr_eq {a : AV} {x : ByteArray} (h : avStr a = some x) : a = .s (.str x) := by
  unfold avStr at h
  split at h <;> cases h
  rfl

theorem avFn_eq {a : AV} {x : FuncId} (h : avFn a = some x) : a = .s (.fn0 x) := by
  unfold avFn at h
  split at h <;> cases h
  rfl

theorem avRow_V {r : RK} {a : AV} {x : r.V} {v : Value} (h : avRow r a = some x) (hd : DenV ρ H O w a v) : DenV ρ' H' O w (.s (.ro (r.con x))) v := by
  unfold avRow at h
  split at h
  · cases h
    unfold DenV at hd
    exact DenV_s (emp_row hd)
  · exact DenV_s (RK.rd_ok h (DenS_of_V (by simp) hd))
  · cases h

theorem avRow_C {r : RK} {a : AV} {x : r.V} {cs : List Value} (h : avRow r a = some x) (hd : DenC ρ H O w a cs) : DenC ρ' H' O w (.s (.ro (r.con x))) cs := by
  unfold avRow at h
  split at h
  · cases h
    unfold DenC at *
    obtain ⟨u, rfl, h1⟩ := hd
    exact ⟨u, rfl, emp_row h1⟩
  · unfold DenC at *
    obtain ⟨u, rfl, h1⟩ := hd
    exact ⟨u, rfl, RK.rd_ok h h1⟩
  · cases h

theorem B.rdV {b : B} {a : AV} {x : b.V} {v : Value} (h : b.rd a = some x) (hd : DenV ρ H O w a v) : DenV ρ' H' O w (b.av x) v := by
  cases b with
  | int k => rw [avInt_eq h] at hd; exact DenV_s (DenS_of_V (by simp) hd)
  | bool => rw [avBool_eq h] at hd; exact DenV_s (DenS_of_V (by simp) hd)
  | str => rw [avStr_eq h] at hd; exact DenV_s (DenS_of_V (by simp) hd)
  | fn => rw [avFn_eq h] at hd; exact DenV_s (DenS_of_V (by simp) hd)
  | row r e => exact avRow_V h hd
  | rrow r e => exact avRow_V h hd
  | arr k n =>
    change avArr k n a = some x at h
    unfold avArr at h
    split at h
    · rw [Bool.cond_eq_ite] at h
      split at h
      · rename_i hk
        simp only [Bool.and_eq_true] at hk
        obtain rfl := kindEq_eq hk.1
        obtain rfl := Nat.eq_of_beq_eq_true hk.2
        cases h
        unfold DenV at *
        exact hd
      · cases h
    · rw [Bool.cond_eq_ite] at h
      split at h
      · rename_i segs hk
        unfold DenV at hd
        obtain ⟨cs, rfl, h2⟩ := hd
        obtain ⟨h3, rfl⟩ := numsAV_ok h h2
        show DenV ρ' H' O w (.ints k n x) _
        unfold DenV
        exact ⟨by rw [h3]; exact Nat.eq_of_beq_eq_true hk, rfl⟩
      · cases h
    · cases h

theorem B.rdC {b : B} {a : AV} {x : b.V} {cs : List Value} (h : b.rd a = some x) (hd : DenC ρ H O w a cs) : DenC ρ' H' O w (b.av x) cs := by
  cases b with
  | int k => rw [avInt_eq h] at hd; unfold DenC at hd; show DenC _ _ _ _ (.s (.int k x)) _; unfold DenC; exact hd
  | bool => rw [avBool_eq h] at hd; unfold DenC at hd; show DenC _ _ _ _ (.s (.bool x)) _; unfold DenC; exact hd
  | str => rw [avStr_eq h] at hd; unfold DenC at hd; show DenC _ _ _ _ (.s (.str x)) _; unfold DenC; exact hd
  | fn => rw [avFn_eq h] at hd; unfold DenC at hd; show DenC _ _ _ _ (.s (.fn0 x)) _; unfold DenC; exact hd
  | row r e => exact avRow_C h hd
  | rrow r e => exact avRow_C h hd
  | arr k n =>
    change avArr k n a = some x at h
    unfold avArr at h
    split at h
    · rw [Bool.cond_eq_ite] at h
      split at h
      · rename_i hk
        simp only [Bool.and_eq_true] at hk
        obtain rfl := kindEq_eq hk.1
        obtain rfl := Nat.eq_of_beq_eq_true hk.2
        cases h
        show DenC _ _ _ _ (.ints _ _ _) _
        unfold DenC at *
        exact hd
      · cases h
    · unfold DenC at hd; exact hd.elim
    · cases h

theorem BL.rd_ok : ∀ {bs : List B} {segs : List AV} {x : BL bs} {cs : List Value}, BL.rd bs segs = some x → DenSegs ρ H O w segs cs → DenSegs ρ' H' O w (BL.av bs x) cs
  | [], [], x, cs, h, hd => by rw [DenSegs_nil.1 hd]; exact DenSegs_nil.2 rfl
  | [], a :: as, x, cs, h, hd => by simp [BL.rd] at h
  | b :: bs, [], x, cs, h, hd => by simp [BL.rd] at h
  | b :: bs, a :: as, x, cs, h, hd => by
    unfold BL.rd at h
    split at h
    · rename_i y z h1 h2
      cases h
      obtain ⟨c1, c2, rfl, h3, h4⟩ := DenSegs_cons.1 hd
      exact DenSegs_cons.2 ⟨c1, c2, rfl, B.rdC h1 h3, BL.rd_ok h2 h4⟩
    · cases h

theorem Ty.rd_ok {t : Ty} {a : AV} {x : t.V} {v : Value} (h : t.rd a = some x) (hd : DenV ρ H O w a v) : DenV ρ' H' O w (t.av x) v := by
  cases t with
  | b y => exact B.rdV h hd
  | st bs =>
    change avSt bs a = some x at h
    unfold avSt at h
    split at h
    · show DenV _ _ _ _ (.agg _) _
      unfold DenV at *
      obtain ⟨cs, h1, h2⟩ := hd
      exact ⟨cs, h1, BL.rd_ok h h2⟩
    · cases h

theorem AL.rd_ok : ∀ {ts : List Ty} {as : List AV} {x : AL ts} {vs : List Value}, AL.rd ts as = some x → DenL ρ H O w as vs → DenL ρ' H' O w (AL.av ts x) vs
  | [], [], x, vs, h, hd => by rw [DenL_nil.1 hd]; exact DenL_nil.2 rfl
  | [], a :: as, x, vs, h, hd => by simp [AL.rd] at h
  | t :: ts, [], x, vs, h, hd => by simp [AL.rd] at h
  | t :: ts, a :: as, x, vs, h, hd => by
    unfold AL.rd at h
    split at h
    · rename_i y z h1 h2
      cases h
      obtain ⟨v, rest, rfl, h3, h4⟩ := DenL_cons.1 hd
      exact DenL_cons.2 ⟨v, rest, rfl, Ty.rd_ok h1 h3, AL.rd_ok h2 h4⟩
    · cases h

theorem row_len {r : RK} {x : r.V} {v : Value} (h : DenS O w (.ro (r.con x)) v) : List.length x ≤ maxLen := by
  generalize hc : r.con x = c at h
  cases h with
  | ro _ a cap us bb o h1 h2 _ _ _ =>
    have : (r.con x).n = x.length := by cases r <;> rfl
    rw [← hc] at h1
    omega

theorem B.okV {b : B} {x : b.V} {v : Value} (hd : DenV ρ H O w (b.av x) v) : b.ok x := by
  cases b with
  | row r e => exact row_len (DenS_of_V (by simp) hd)
  | rrow r e => exact row_len (DenS_of_V (by simp) hd)
  | arr k n => change DenV ρ H O w (.ints k n x) v at hd; unfold DenV at hd; exact hd.1
  | _ => trivial

theorem B.okC {b : B} {x : b.V} {cs : List Value} (hd : DenC ρ H O w (b.av x) cs) : b.ok x := by
  cases b with
  | row r e =>
    change DenC ρ H O w (.s (.ro (r.con x))) cs at hd
    unfold DenC at hd
    obtain ⟨u, _, h⟩ := hd
    exact row_len h
  | rrow r e =>
    change DenC ρ H O w (.s (.ro (r.con x))) cs at hd
    unfold DenC at hd
    obtain ⟨u, _, h⟩ := hd
    exact row_len h
  | arr k n => change DenC ρ H O w (.ints k n x) cs at hd; unfold DenC at hd; exact hd.1
  | _ => trivial

theorem BL.okS : ∀ {bs : List B} {x : BL bs} {cs : List Value}, DenSegs ρ H O w (BL.av bs x) cs → BL.ok bs x
  | [], x, cs, h => trivial
  | b :: bs, (x, y), cs, h => by
    obtain ⟨c1, c2, rfl, h3, h4⟩ := DenSegs_cons.1 h
    exact ⟨B.okC h3, BL.okS h4⟩

theorem Ty.okV {t : Ty} {x : t.V} {v : Value} (hd : DenV ρ H O w (t.av x) v) : t.ok x := by
  cases t with
  | b y => exact B.okV hd
  | st bs =>
    change DenV ρ H O w (.agg (BL.av bs x)) v at hd
    unfold DenV at hd
    obtain ⟨cs, _, h⟩ := hd
    exact BL.okS h

theorem AL.okL : ∀ {ts : List Ty} {x : AL ts} {vs : List Value}, DenL ρ H O w (AL.av ts x) vs → AL.ok ts x
  | [], x, vs, h => trivial
  | t :: ts, (x, y), vs, h => by
    obtain ⟨v, rest, rfl, h3, h4⟩ := DenL_cons.1 h
    exact ⟨Ty.okV h3, AL.okL h4⟩
end
end Go.Sx
