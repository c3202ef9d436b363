/- Lemmas: SxKind, SxBase, SxExec, SxPure, SxSat, SxMem, SxHeap, SxLoad, SxRead, SxSlice, SxStore, SxNew, SxBuild, SxBuild2. -/
import Derived.WalkKit
import Derived.WalkSpells

/-! What a record's cells are, told ahead of all values. -/
namespace Go.Sx
open Go

/-- One part of a record: one cell, or a row of numbers in place. -/
inductive CK where
  | int (k : IntKind)
  | bool
  | str
  | ints (k : IntKind)
  | strs
  | bools
  | rows (cs : List CK)
  | arr (k : IntKind) (n : Nat)

mutual
def CK.V : CK → Type
  | .int _ => Int
  | .bool => Bool
  | .str => ByteArray
  | .ints _ => List Int
  | .strs => List ByteArray
  | .bools => List Bool
  | .rows cs => List (CL cs)
  | .arr _ _ => List Int
def CL : List CK → Type
  | [] => Unit
  | c :: cs => c.V × CL cs
end

def CK.d : (c : CK) → c.V
  | .int _ => (0 : Int)
  | .bool => false
  | .str => ByteArray.empty
  | .ints _ => ([] : List Int)
  | .strs => ([] : List ByteArray)
  | .bools => ([] : List Bool)
  | .rows cs => ([] : List (CL cs))
  | .arr _ n => List.replicate n (0 : Int)

def CL.d : (cs : List CK) → CL cs
  | [] => ()
  | c :: cs => (c.d, CL.d cs)

def CK.wide : CK → Nat
  | .arr _ n => n
  | _ => 1

def CL.wide : List CK → Nat
  | [] => 0
  | c :: cs => c.wide + CL.wide cs

def kEq (a b : IntKind) : Option (PLift (a = b)) := if h : a = b then some ⟨h⟩ else none

mutual
def CK.eq : (a b : CK) → Option (PLift (a = b))
  | .int k, .int k' => (kEq k k').map fun h => ⟨congrArg CK.int h.down⟩
  | .bool, .bool => some ⟨rfl⟩
  | .str, .str => some ⟨rfl⟩
  | .ints k, .ints k' => (kEq k k').map fun h => ⟨congrArg CK.ints h.down⟩
  | .strs, .strs => some ⟨rfl⟩
  | .bools, .bools => some ⟨rfl⟩
  | .rows a, .rows b => (CL.eq a b).map fun h => ⟨congrArg CK.rows h.down⟩
  | .arr k n, .arr k' n' => if h : n = n' then (kEq k k').map fun h' => ⟨by rw [h, h'.down]⟩ else none
  | _, _ => none
def CL.eq : (a b : List CK) → Option (PLift (a = b))
  | [], [] => some ⟨rfl⟩
  | a :: azs, b :: bs => match CK.eq a b, CL.eq azs bs with
    | some h, some h' => some ⟨by rw [h.down, h'.down]⟩
    | _, _ => none
  | _, _ => none
end

def castL {a b : List CK} (h : PLift (a = b)) (xs : List (CL a)) : List (CL b) := h.down ▸ xs

/-! maps: entries in the row in which they came -/
def mget {V : Type} (m : List (Int × V)) (k : Int) : Option V := (m.find? fun p => p.1 == k).map (·.2)
def mhas {V : Type} (m : List (Int × V)) (k : Int) : Bool := m.any fun p => p.1 == k
def mput {V : Type} (m : List (Int × V)) (k : Int) (v : V) : List (Int × V) := if mhas m k = true then m.map fun p => if p.1 == k then (k, v) else p else m ++ [(k, v)]
theorem castL_rfl {a : List CK} (h : PLift (a = a)) (xs : List (CL a)) : castL h xs = xs := rfl
end Go.Sx

/-! Abstract values and what they stand for. -/
namespace Go.Sx
open Go

mutual
/-- A value of one cell that bears no name of an own object. -/
inductive SV where
  | junk
  | bool (b : Bool)
  | blit (b : Bool)
  | anyb (n : Nat) (eq : Bool)
  | anyi (k : IntKind)
  | int (k : IntKind) (n : Int)
  | ilit (k : IntKind) (n : Int)
  | str (s : ByteArray)
  | nilp
  | nili
  | nilf
  | nilm
  | nils
  | fn0 (f : FuncId)
  | ifi (t : TypeId) (k : IntKind) (n : Int)
  | ifs (t : TypeId) (s : ByteArray)
  | ifb (t : TypeId) (b : Bool)
  | raw (v : Value) (zs : List Int)
  | ro (c : Con)
  | rot (c : Con) (k : Nat)
  | capge (k : Nat)
  | caplt (k : Nat)
/-- What a row of elements holds. -/
inductive Con where
  | ints (k : IntKind) (zs : List Int)
  | strs (ss : List ByteArray)
  | bools (bs : List Bool)
  | typ (cs : List CK) (xs : List (CL cs))
  | recs (size n : Nat) (get : Nat → Nat → SV)
end

def Con.n : Con → Nat
  | .ints _ zs => zs.length
  | .strs ss => ss.length
  | .bools bs => bs.length
  | .typ _ xs => xs.length
  | .recs _ n _ => n

def Con.size : Con → Nat
  | .ints .. | .strs _ | .bools _ => 1
  | .typ cs _ => CL.wide cs
  | .recs s _ _ => s

def CK.cell : (c : CK) → c.V → Nat → SV
  | .int k, x, _ => .int k x
  | .bool, x, _ => .bool x
  | .str, x, _ => .str x
  | .ints k, x, _ => .ro (.ints k x)
  | .strs, x, _ => .ro (.strs x)
  | .bools, x, _ => .ro (.bools x)
  | .rows cs, x, _ => .ro (.typ cs x)
  | .arr k _, x, j => .int k (List.getD (α := Int) x j 0)

def CL.cell : (cs : List CK) → CL cs → Nat → SV
  | [], _, _ => .junk
  | c :: cs, x, j => bif j.blt c.wide then c.cell x.1 j else CL.cell cs x.2 (j - c.wide)

def Con.cell : Con → Nat → Nat → SV
  | .ints k zs, i, _ => .int k (zs.getD i 0)
  | .strs ss, i, _ => .str (ss.getD i ByteArray.empty)
  | .bools bs, i, _ => .bool (bs.getD i false)
  | .typ cs xs, i, j => CL.cell cs (xs.getD i (CL.d cs)) j
  | .recs _ _ get, i, j => get i j

inductive AV where
  | s (v : SV)
  | ptr (id off : Nat)
  | ptrx (id off n i : Nat)
  | eptr (c : Con) (i j : Nat)
  | vec (id : Nat)
  | vptr (id i j : Nat)
  | part (id lo n : Nat)
  | sub (id off n : Nat)
  | subv (id i j n : Nat)
  | emp
  | agg (segs : List AV)
  | ints (k : IntKind) (n : Nat) (ws : List Int)
  | tup (vs : List AV)
  | fn (f : FuncId) (caps : List AV)
  | fnb (f : FuncId) (first : List AV)
  | mapv (id : Nat)
  | tag (id : Nat)

inductive AObj where
  | own (segs : List AV) (elem : TypeId)
  | vec (c : Con) (elem : TypeId)
  | map (ck : CK) (m : List (Int × ck.V))
  | mapb (ck : CK) (m : List (Int × ck.V)) (gid : Nat)
  | iter (mid gid : Nat) (ck : CK) (left : List (Int × ck.V)) (cur : Option (Int × ck.V))
  | dead

abbrev AHeap := Nat → Option AObj

def AObj.alive : AObj → Bool
  | .dead => false
  | _ => true

/-- The block of an own object's root. -/
def blk : Value → Option Nat
  | .pointer (some a) => some a.block
  | .slice (some a) _ cap => if cap = 0 then none else some a.block
  | .map (some b) => some b
  | _ => none

def Own (ρ : Nat → Value) (H : AHeap) (b : Nat) : Prop := ∃ id o, H id = some o ∧ o.alive = true ∧ blk (ρ id) = some b

/-- What may not be read as standing still: what is own, here or further out. -/
def Hot (ρ : Nat → Value) (H : AHeap) (G : Nat → Prop) (b : Nat) : Prop := Own ρ H b ∨ G b

inductive DenS (O : Nat → Prop) (w : World) : SV → Value → Prop
  | junk (v : Value) : v.oneCell' = true → DenS O w .junk v
  | bool (b : Bool) : DenS O w (.bool b) (.bool b)
  | blit (b : Bool) : DenS O w (.blit b) (.bool b)
  | anyb (n : Nat) (eq b : Bool) : (b = eq → n = 0) → DenS O w (.anyb n eq) (.bool b)
  | anyi (k : IntKind) (n : Int) : DenS O w (.anyi k) (.int k n)
  | int (k : IntKind) (n : Int) : DenS O w (.int k n) (.int k n)
  | ilit (k : IntKind) (n : Int) : DenS O w (.ilit k n) (.int k n)
  | str (s : ByteArray) : DenS O w (.str s) (.string s)
  | nilp : DenS O w .nilp (.pointer none)
  | nili : DenS O w .nili .nilIface
  | nilf : DenS O w .nilf .nilFunc
  | nilm : DenS O w .nilm (.map none)
  | nils : DenS O w .nils (.slice none 0 0)
  | fn0 (f : FuncId) : DenS O w (.fn0 f) (.func (.func f) #[] #[])
  | ifi (t : TypeId) (k : IntKind) (n : Int) : DenS O w (.ifi t k n) (.iface t (.int k n))
  | ifs (t : TypeId) (s : ByteArray) : DenS O w (.ifs t s) (.iface t (.string s))
  | ifb (t : TypeId) (b : Bool) : DenS O w (.ifb t b) (.iface t (.bool b))
  | raw (v : Value) (zs : List Int) : v.oneCell' = true → DenS O w (.raw v zs) v
  | ro (c : Con) (a : Option Addr) (cap : Nat) (us : Nat → Nat → Value) (b o : Nat) : c.n ≤ cap → cap ≤ maxLen →
      (0 < c.n → a = some ⟨b, o, none⟩ ∧ ¬ O b ∧ b < w.heap.size) →
      (∀ i j, i < c.n → j < c.size → w.cell? ⟨b, o + i * c.size + j, none⟩ = some (us i j)) →
      (∀ i j, i < c.n → j < c.size → DenS O w (c.cell i j) (us i j)) → DenS O w (.ro c) (.slice a c.n cap)
  | rot (c : Con) (k : Nat) (a : Option Addr) (n cap : Nat) : DenS O w (.ro c) (.slice a n cap) → cap < k → DenS O w (.rot c k) (.slice a n cap)
  | capge (k : Nat) (n : Int) : (k : Int) ≤ n → DenS O w (.capge k) (.int .i64 n)
  | caplt (k : Nat) (n : Int) : n < (k : Int) → DenS O w (.caplt k) (.int .i64 n)

mutual
/-- A value of one cell. -/
def Den1 (ρ : Nat → Value) (H : AHeap) (O : Nat → Prop) (w : World) : AV → Value → Prop
  | .s x, v => DenS O w x v
  | .ptr id off, v => ∃ b, ρ id = .pointer (some ⟨b, 0, none⟩) ∧ v = .pointer (some ⟨b, off, none⟩) ∧ (H id).isSome = true
  | .ptrx id off n i, v => i < n ∧ ∃ b, ρ id = .pointer (some ⟨b, 0, none⟩) ∧ v = .pointer (some ⟨b, off + i, none⟩) ∧ (H id).isSome = true
  | .eptr c i j, v => ∃ (b o : Nat) (us : Nat → Value), v = .pointer (some ⟨b, o + j, none⟩) ∧ ¬ O b ∧ b < w.heap.size ∧
      (∀ l, l < c.size → w.cell? ⟨b, o + l, none⟩ = some (us l) ∧ DenS O w (c.cell i l) (us l))
  | .vec id, v => v.oneCell' = true ∧ ∃ o, H id = some o ∧ ∀ c e, o = .vec c e → v = ρ id
  | .vptr id i j, v => v.oneCell' = true ∧ ∃ o, H id = some o ∧ ∀ c e, o = .vec c e → i < c.n ∧ j < c.size ∧
      ∃ b f n cap, ρ id = .slice (some ⟨b, f, none⟩) n cap ∧ v = .pointer (some ⟨b, f + i * c.size + j, none⟩)
  | .part id lo n, v => v.oneCell' = true ∧ ∃ o, H id = some o ∧ ∀ c e, o = .vec c e → lo + n ≤ c.n ∧
      ∃ a cap a', ρ id = .slice a c.n cap ∧ c.n ≤ cap ∧ v = .slice a' n (cap - lo) ∧ (cap ≠ lo → a' = a.map (·.add (lo * c.size)))
  | .sub id off n, v => v.oneCell' = true ∧ ∃ b a cap, ρ id = .pointer (some ⟨b, 0, none⟩) ∧ v = .slice a n cap ∧ (n ≠ 0 → a = some ⟨b, off, none⟩) ∧ (H id).isSome = true
  | .subv id i j n, v => v.oneCell' = true ∧ ∃ o, H id = some o ∧ ∀ c e, o = .vec c e → i < c.n ∧ j + n ≤ c.size ∧
      ∃ b f n' cap a cap', ρ id = .slice (some ⟨b, f, none⟩) n' cap ∧ v = .slice a n cap' ∧ (n ≠ 0 → a = some ⟨b, f + i * c.size + j, none⟩)
  | .emp, v => ∃ a, v = .slice a 0 0
  | .fn f caps, v => ∃ vs : List Value, v = .func (.func f) #[] vs.toArray ∧ DenL ρ H O w caps vs
  | .fnb f first, v => ∃ vs : List Value, v = .func (.func f) vs.toArray #[] ∧ DenL ρ H O w first vs
  | .agg _, _ => False
  | .ints _ _ _, _ => False
  | .tup _, _ => False
  | .mapv id, v => ∃ b, ρ id = .map (some b) ∧ v = .map (some b) ∧ (H id).isSome = true
  | .tag id, v => v = ρ id ∧ v.oneCell' = true ∧ (H id).isSome = true
/-- Values one by one (a tuple's parts, a call's arguments). -/
def DenL (ρ : Nat → Value) (H : AHeap) (O : Nat → Prop) (w : World) : List AV → List Value → Prop
  | [], vs => vs = []
  | a :: azs, vs => ∃ v rest, vs = v :: rest ∧ DenV ρ H O w a v ∧ DenL ρ H O w azs rest
/-- Cells, part behind part. -/
def DenSegs (ρ : Nat → Value) (H : AHeap) (O : Nat → Prop) (w : World) : List AV → List Value → Prop
  | [], cs => cs = []
  | a :: azs, cs => ∃ c1 c2, cs = c1 ++ c2 ∧ DenC ρ H O w a c1 ∧ DenSegs ρ H O w azs c2
def DenC (ρ : Nat → Value) (H : AHeap) (O : Nat → Prop) (w : World) : AV → List Value → Prop
  | .agg _, _ => False
  | .ints k n ws, cs => ws.length = n ∧ cs = ws.map (Value.int k)
  | .s x, cs => ∃ u, cs = [u] ∧ DenS O w x u
  | .ptr id off, cs => ∃ u, cs = [u] ∧ Den1 ρ H O w (.ptr id off) u
  | .ptrx id off n i, cs => ∃ u, cs = [u] ∧ Den1 ρ H O w (.ptrx id off n i) u
  | .eptr c i j, cs => ∃ u, cs = [u] ∧ Den1 ρ H O w (.eptr c i j) u
  | .vec id, cs => ∃ u, cs = [u] ∧ Den1 ρ H O w (.vec id) u
  | .vptr id i j, cs => ∃ u, cs = [u] ∧ Den1 ρ H O w (.vptr id i j) u
  | .part id lo n, cs => ∃ u, cs = [u] ∧ Den1 ρ H O w (.part id lo n) u
  | .sub id off n, cs => ∃ u, cs = [u] ∧ Den1 ρ H O w (.sub id off n) u
  | .subv id i j n, cs => ∃ u, cs = [u] ∧ Den1 ρ H O w (.subv id i j n) u
  | .emp, cs => ∃ u, cs = [u] ∧ ∃ a, u = .slice a 0 0
  | .fn f caps, cs => ∃ u, cs = [u] ∧ ∃ vs : List Value, u = .func (.func f) #[] vs.toArray ∧ DenL ρ H O w caps vs
  | .fnb f first, cs => ∃ u, cs = [u] ∧ ∃ vs : List Value, u = .func (.func f) vs.toArray #[] ∧ DenL ρ H O w first vs
  | .tup _, _ => False
  | .mapv id, cs => ∃ u, cs = [u] ∧ Den1 ρ H O w (.mapv id) u
  | .tag id, cs => ∃ u, cs = [u] ∧ Den1 ρ H O w (.tag id) u
def DenV (ρ : Nat → Value) (H : AHeap) (O : Nat → Prop) (w : World) : AV → Value → Prop
  | .agg segs, v => ∃ cs : List Value, v = .agg cs.toArray ∧ DenSegs ρ H O w segs cs
  | .ints k n ws, v => ws.length = n ∧ v = .agg (ws.map (Value.int k)).toArray
  | .tup vs, v => ∃ us : List Value, v = .tuple us.toArray ∧ DenL ρ H O w vs us
  | .s .junk, _ => True
  | .s x, v => DenS O w x v
  | .ptr id off, v => Den1 ρ H O w (.ptr id off) v
  | .ptrx id off n i, v => Den1 ρ H O w (.ptrx id off n i) v
  | .eptr c m j, v => Den1 ρ H O w (.eptr c m j) v
  | .vec id, v => Den1 ρ H O w (.vec id) v
  | .vptr id i j, v => Den1 ρ H O w (.vptr id i j) v
  | .part id lo n, v => Den1 ρ H O w (.part id lo n) v
  | .sub id off n, v => Den1 ρ H O w (.sub id off n) v
  | .subv id i j n, v => Den1 ρ H O w (.subv id i j n) v
  | .emp, v => ∃ a, v = .slice a 0 0
  | .fn f caps, v => ∃ vs : List Value, v = .func (.func f) #[] vs.toArray ∧ DenL ρ H O w caps vs
  | .fnb f first, v => ∃ vs : List Value, v = .func (.func f) vs.toArray #[] ∧ DenL ρ H O w first vs
  | .mapv id, v => Den1 ρ H O w (.mapv id) v
  | .tag id, v => Den1 ρ H O w (.tag id) v
end

theorem DenS.one {O : Nat → Prop} {w : World} {x : SV} {v : Value} (h : DenS O w x v) : v.oneCell' = true := by
  cases h <;> first | rfl | assumption

/-- How a state may go on so that what was read of it stands. -/
structure Step (ρ : Nat → Value) (H : AHeap) (O : Nat → Prop) (w : World) (ρ' : Nat → Value) (H' : AHeap) (O' : Nat → Prop) (w' : World) : Prop where
  rho : ∀ id o, H id = some o → ρ' id = ρ id
  keep : ∀ id o, H id = some o → ∃ o', H' id = some o' ∧ ∀ c' e', o' = .vec c' e' → ∃ c e, o = .vec c e ∧ c'.n = c.n ∧ c'.size = c.size
  hot : ∀ b, O' b → O b ∨ w.heap.size ≤ b
  heap : ∀ b, b < w.heap.size → ¬ O b → w'.heap[b]? = w.heap[b]?
  size : w.heap.size ≤ w'.heap.size

theorem Step.refl (ρ : Nat → Value) (H : AHeap) (O : Nat → Prop) (w : World) : Step ρ H O w ρ H O w :=
  ⟨fun _ _ _ => rfl, fun _ o h => ⟨o, h, fun c' e' e => ⟨c', e', e, rfl, rfl⟩⟩, fun _ h => .inl h, fun _ _ _ => rfl, Nat.le_refl _⟩

theorem cell?_same {w w' : World} {b o : Nat} (h : w'.heap[b]? = w.heap[b]?) : w'.cell? ⟨b, o, none⟩ = w.cell? ⟨b, o, none⟩ := by
  simp [World.cell?, h]

section
variable {ρ ρ' : Nat → Value} {H H' : AHeap} {O O' : Nat → Prop} {w w' : World}

theorem Step.trans {ρ'' : Nat → Value} {H'' : AHeap} {O'' : Nat → Prop} {w'' : World} (h : Step ρ H O w ρ' H' O' w') (k : Step ρ' H' O' w' ρ'' H'' O'' w'')
    : Step ρ H O w ρ'' H'' O'' w'' := by
  refine ⟨fun id o ho => ?_, fun id o ho => ?_, fun b hb => ?_, fun b hb hO => ?_, Nat.le_trans h.size k.size⟩
  · obtain ⟨o', ho', _⟩ := h.keep id o ho
    rw [k.rho id o' ho', h.rho id o ho]
  · obtain ⟨o', ho', q⟩ := h.keep id o ho
    obtain ⟨o'', ho'', q'⟩ := k.keep id o' ho'
    refine ⟨o'', ho'', fun c e hc => ?_⟩
    obtain ⟨c1, e1, h1, n1, s1⟩ := q' c e hc
    obtain ⟨c2, e2, h2, n2, s2⟩ := q c1 e1 h1
    exact ⟨c2, e2, h2, n1.trans n2, s1.trans s2⟩
  · rcases k.hot b hb with h1 | h1
    · exact h.hot b h1
    · exact .inr (Nat.le_trans h.size h1)
  · have hnot : ¬ O' b := fun h1 => by rcases h.hot b h1 with h2 | h2 <;> first | exact hO h2 | omega
    rw [k.heap b (by have := h.size; omega) hnot, h.heap b hb hO]

theorem DenS.step (hot : ∀ b, O' b → O b ∨ w.heap.size ≤ b) (heap : ∀ b, b < w.heap.size → ¬ O b → w'.heap[b]? = w.heap[b]?)
    (size : w.heap.size ≤ w'.heap.size) {x : SV} {v : Value} (h : DenS O w x v) : DenS O' w' x v := by
  induction h with
  | junk v hv => exact .junk v hv
  | bool b => exact .bool b
  | blit b => exact .blit b
  | anyb n eq b hb => exact .anyb n eq b hb
  | anyi k n => exact .anyi k n
  | int k n => exact .int k n
  | ilit k n => exact .ilit k n
  | str s => exact .str s
  | nilp => exact .nilp
  | nili => exact .nili
  | nilf => exact .nilf
  | nilm => exact .nilm
  | nils => exact .nils
  | fn0 f => exact .fn0 f
  | ifi t k n => exact .ifi t k n
  | ifs t s => exact .ifs t s
  | ifb t b => exact .ifb t b
  | raw v zs h => exact .raw v zs h
  | rot c k a n cap _ hk ih => exact .rot c k a n cap ih hk
  | capge k n h => exact .capge k n h
  | caplt k n h => exact .caplt k n h
  | ro c a cap us b o hn hm hb hc _ ih =>
    refine .ro c a cap us b o hn hm (fun h0 => ?_) (fun i j hi hj => ?_) ih
    · obtain ⟨e, h1, h2⟩ := hb h0
      exact ⟨e, fun h3 => by rcases hot b h3 with h4 | h4 <;> first | exact h1 h4 | omega, by omega⟩
    · obtain ⟨_, h1, h2⟩ := hb (by omega)
      rw [cell?_same (heap b h2 h1)]
      exact hc i j hi hj

mutual
theorem Den1.step (st : Step ρ H O w ρ' H' O' w') : ∀ (x : AV) (v : Value), Den1 ρ H O w x v → Den1 ρ' H' O' w' x v
  | .s x, v, h => by unfold Den1 at *; exact h.step st.hot st.heap st.size
  | .ptr id off, v, h => by
    unfold Den1 at *
    obtain ⟨b, h1, h2, h3⟩ := h
    obtain ⟨o, ho⟩ := Option.isSome_iff_exists.1 h3
    obtain ⟨o', ho', _⟩ := st.keep id o ho
    exact ⟨b, by rw [st.rho id o ho, h1], h2, by rw [ho']; rfl⟩
  | .ptrx id off n i, v, h => by
    unfold Den1 at *
    obtain ⟨hi, b, h1, h2, h3⟩ := h
    obtain ⟨o, ho⟩ := Option.isSome_iff_exists.1 h3
    obtain ⟨o', ho', _⟩ := st.keep id o ho
    exact ⟨hi, b, by rw [st.rho id o ho, h1], h2, by rw [ho']; rfl⟩
  | .eptr c m j, v, h => by
    unfold Den1 at *
    obtain ⟨b, o, us, h1, h2, h3, h4⟩ := h
    refine ⟨b, o, us, h1, fun h5 => ?_, by have := st.size; omega, fun i hi => ?_⟩
    · rcases st.hot b h5 with h6 | h6 <;> first | exact h2 h6 | omega
    · obtain ⟨h5, h6⟩ := h4 i hi
      exact ⟨by rw [cell?_same (st.heap b h3 h2)]; exact h5, h6.step st.hot st.heap st.size⟩
  | .vec id, v, h => by
    unfold Den1 at *
    obtain ⟨h0, o, ho, h1⟩ := h
    obtain ⟨o', ho', h2⟩ := st.keep id o ho
    refine ⟨h0, o', ho', fun c e hc => ?_⟩
    obtain ⟨c1, e1, h3, _, _⟩ := h2 c e hc
    rw [st.rho id o ho]
    exact h1 c1 e1 h3
  | .vptr id i j, v, h => by
    unfold Den1 at *
    obtain ⟨h0, o, ho, h1⟩ := h
    obtain ⟨o', ho', h2⟩ := st.keep id o ho
    refine ⟨h0, o', ho', fun c e hc => ?_⟩
    obtain ⟨c1, e1, h3, hn, hs⟩ := h2 c e hc
    rw [st.rho id o ho, hn, hs]
    exact h1 c1 e1 h3
  | .part id lo n, v, h => by
    unfold Den1 at *
    obtain ⟨h0, o, ho, h1⟩ := h
    obtain ⟨o', ho', h2⟩ := st.keep id o ho
    refine ⟨h0, o', ho', fun c e hc => ?_⟩
    obtain ⟨c1, e1, h3, hn, hs⟩ := h2 c e hc
    rw [st.rho id o ho, hn, hs]
    exact h1 c1 e1 h3
  | .sub id off n, v, h => by
    unfold Den1 at *
    obtain ⟨h0, b, a, cap, h1, h2, h4, h3⟩ := h
    obtain ⟨o, ho⟩ := Option.isSome_iff_exists.1 h3
    obtain ⟨o', ho', _⟩ := st.keep id o ho
    exact ⟨h0, b, a, cap, by rw [st.rho id o ho, h1], h2, h4, by rw [ho']; rfl⟩
  | .subv id i j n, v, h => by
    unfold Den1 at *
    obtain ⟨h0, o, ho, h1⟩ := h
    obtain ⟨o', ho', h2⟩ := st.keep id o ho
    refine ⟨h0, o', ho', fun c e hc => ?_⟩
    obtain ⟨c1, e1, h3, hn, hs⟩ := h2 c e hc
    rw [st.rho id o ho, hn, hs]
    exact h1 c1 e1 h3
  | .emp, v, h => by unfold Den1 at *; exact h
  | .fn f caps, v, h => by
    unfold Den1 at *
    obtain ⟨vs, h1, h2⟩ := h
    exact ⟨vs, h1, DenL.step st caps vs h2⟩
  | .fnb f caps, v, h => by
    unfold Den1 at *
    obtain ⟨vs, h1, h2⟩ := h
    exact ⟨vs, h1, DenL.step st caps vs h2⟩
  | .agg _, v, h => by unfold Den1 at h; exact h.elim
  | .ints _ _ _, v, h => by unfold Den1 at h; exact h.elim
  | .tup _, v, h => by unfold Den1 at h; exact h.elim
  | .mapv id, v, h => by
    unfold Den1 at *
    obtain ⟨b, h1, h2, h3⟩ := h
    obtain ⟨o, ho⟩ := Option.isSome_iff_exists.1 h3
    obtain ⟨o', ho', _⟩ := st.keep id o ho
    exact ⟨b, by rw [st.rho id o ho, h1], h2, by rw [ho']; rfl⟩
  | .tag id, v, h => by
    unfold Den1 at *
    obtain ⟨h1, h2, h3⟩ := h
    obtain ⟨o, ho⟩ := Option.isSome_iff_exists.1 h3
    obtain ⟨o', ho', _⟩ := st.keep id o ho
    exact ⟨by rw [st.rho id o ho, h1], h2, by rw [ho']; rfl⟩
theorem DenL.step (st : Step ρ H O w ρ' H' O' w') : ∀ (xs : List AV) (vs : List Value), DenL ρ H O w xs vs → DenL ρ' H' O' w' xs vs
  | [], vs, h => by unfold DenL at *; exact h
  | a :: azs, vs, h => by
    unfold DenL at *
    obtain ⟨v, rest, h1, h2, h3⟩ := h
    exact ⟨v, rest, h1, DenV.step st a v h2, DenL.step st azs rest h3⟩
theorem DenSegs.step (st : Step ρ H O w ρ' H' O' w') : ∀ (xs : List AV) (cs : List Value), DenSegs ρ H O w xs cs → DenSegs ρ' H' O' w' xs cs
  | [], vs, h => by unfold DenSegs at *; exact h
  | a :: azs, vs, h => by
    unfold DenSegs at *
    obtain ⟨c1, c2, h1, h2, h3⟩ := h
    exact ⟨c1, c2, h1, DenC.step st a c1 h2, DenSegs.step st azs c2 h3⟩
theorem DenC.step (st : Step ρ H O w ρ' H' O' w') : ∀ (x : AV) (cs : List Value), DenC ρ H O w x cs → DenC ρ' H' O' w' x cs
  | .agg _, cs, h => by unfold DenC at h; exact h.elim
  | .ints _ _ _, cs, h => by unfold DenC at *; exact h
  | .s x, cs, h => by unfold DenC at *; obtain ⟨u, h1, h2⟩ := h; exact ⟨u, h1, h2.step st.hot st.heap st.size⟩
  | .ptr id off, cs, h => by unfold DenC at *; obtain ⟨u, h1, h2⟩ := h; exact ⟨u, h1, Den1.step st (.ptr id off) u h2⟩
  | .ptrx id off n i, cs, h => by unfold DenC at *; obtain ⟨u, h1, h2⟩ := h; exact ⟨u, h1, Den1.step st (.ptrx id off n i) u h2⟩
  | .eptr c m j, cs, h => by unfold DenC at *; obtain ⟨u, h1, h2⟩ := h; exact ⟨u, h1, Den1.step st (.eptr c m j) u h2⟩
  | .vec id, cs, h => by unfold DenC at *; obtain ⟨u, h1, h2⟩ := h; exact ⟨u, h1, Den1.step st (.vec id) u h2⟩
  | .vptr id i j, cs, h => by unfold DenC at *; obtain ⟨u, h1, h2⟩ := h; exact ⟨u, h1, Den1.step st (.vptr id i j) u h2⟩
  | .part id lo n, cs, h => by unfold DenC at *; obtain ⟨u, h1, h2⟩ := h; exact ⟨u, h1, Den1.step st (.part id lo n) u h2⟩
  | .sub id off n, cs, h => by unfold DenC at *; obtain ⟨u, h1, h2⟩ := h; exact ⟨u, h1, Den1.step st (.sub id off n) u h2⟩
  | .subv id i j n, cs, h => by unfold DenC at *; obtain ⟨u, h1, h2⟩ := h; exact ⟨u, h1, Den1.step st (.subv id i j n) u h2⟩
  | .emp, cs, h => by unfold DenC at *; exact h
  | .fn f caps, cs, h => by
    unfold DenC at *
    obtain ⟨u, h1, vs, h2, h3⟩ := h
    exact ⟨u, h1, vs, h2, DenL.step st caps vs h3⟩
  | .fnb f caps, cs, h => by
    unfold DenC at *
    obtain ⟨u, h1, vs, h2, h3⟩ := h
    exact ⟨u, h1, vs, h2, DenL.step st caps vs h3⟩
  | .tup _, cs, h => by unfold DenC at h; exact h.elim
  | .mapv id, cs, h => by unfold DenC at *; obtain ⟨u, h1, h2⟩ := h; exact ⟨u, h1, Den1.step st (.mapv id) u h2⟩
  | .tag id, cs, h => by unfold DenC at *; obtain ⟨u, h1, h2⟩ := h; exact ⟨u, h1, Den1.step st (.tag id) u h2⟩
theorem DenV.step (st : Step ρ H O w ρ' H' O' w') : ∀ (x : AV) (v : Value), DenV ρ H O w x v → DenV ρ' H' O' w' x v
  | .agg segs, v, h => by unfold DenV at *; obtain ⟨cs, h1, h2⟩ := h; exact ⟨cs, h1, DenSegs.step st segs cs h2⟩
  | .ints _ _ _, v, h => by unfold DenV at *; exact h
  | .tup vs, v, h => by unfold DenV at *; obtain ⟨us, h1, h2⟩ := h; exact ⟨us, h1, DenL.step st vs us h2⟩
  | .s .junk, v, h => by unfold DenV; trivial
  | .s (.bool b), v, h => by unfold DenV at *; exact h.step st.hot st.heap st.size
  | .s (.blit b), v, h => by unfold DenV at *; exact h.step st.hot st.heap st.size
  | .s (.anyb _ _), v, h => by unfold DenV at *; exact h.step st.hot st.heap st.size
  | .s (.anyi k), v, h => by unfold DenV at *; exact h.step st.hot st.heap st.size
  | .s (.int k n), v, h => by unfold DenV at *; exact h.step st.hot st.heap st.size
  | .s (.ilit k n), v, h => by unfold DenV at *; exact h.step st.hot st.heap st.size
  | .s (.str b), v, h => by unfold DenV at *; exact h.step st.hot st.heap st.size
  | .s .nilp, v, h => by unfold DenV at *; exact h.step st.hot st.heap st.size
  | .s .nili, v, h => by unfold DenV at *; exact h.step st.hot st.heap st.size
  | .s .nilf, v, h => by unfold DenV at *; exact h.step st.hot st.heap st.size
  | .s .nilm, v, h => by unfold DenV at *; exact h.step st.hot st.heap st.size
  | .s .nils, v, h => by unfold DenV at *; exact h.step st.hot st.heap st.size
  | .s (.fn0 b), v, h => by unfold DenV at *; exact h.step st.hot st.heap st.size
  | .s (.ifi _ _ _), v, h => by unfold DenV at *; exact h.step st.hot st.heap st.size
  | .s (.ifs _ _), v, h => by unfold DenV at *; exact h.step st.hot st.heap st.size
  | .s (.ifb _ _), v, h => by unfold DenV at *; exact h.step st.hot st.heap st.size
  | .s (.raw _ _), v, h => by unfold DenV at *; exact h.step st.hot st.heap st.size
  | .s (.ro b), v, h => by unfold DenV at *; exact h.step st.hot st.heap st.size
  | .s (.rot _ _), v, h => by unfold DenV at *; exact h.step st.hot st.heap st.size
  | .s (.capge _), v, h => by unfold DenV at *; exact h.step st.hot st.heap st.size
  | .s (.caplt _), v, h => by unfold DenV at *; exact h.step st.hot st.heap st.size
  | .ptr id off, v, h => by unfold DenV at *; exact Den1.step st (.ptr id off) v h
  | .ptrx id off n i, v, h => by unfold DenV at *; exact Den1.step st (.ptrx id off n i) v h
  | .eptr c m j, v, h => by unfold DenV at *; exact Den1.step st (.eptr c m j) v h
  | .vec id, v, h => by unfold DenV at *; exact Den1.step st (.vec id) v h
  | .vptr id i j, v, h => by unfold DenV at *; exact Den1.step st (.vptr id i j) v h
  | .part id lo n, v, h => by unfold DenV at *; exact Den1.step st (.part id lo n) v h
  | .sub id off n, v, h => by unfold DenV at *; exact Den1.step st (.sub id off n) v h
  | .subv id i j n, v, h => by unfold DenV at *; exact Den1.step st (.subv id i j n) v h
  | .emp, v, h => by unfold DenV at *; exact h
  | .fn f caps, v, h => by
    unfold DenV at *
    obtain ⟨vs, h2, h3⟩ := h
    exact ⟨vs, h2, DenL.step st caps vs h3⟩
  | .fnb f caps, v, h => by
    unfold DenV at *
    obtain ⟨vs, h2, h3⟩ := h
    exact ⟨vs, h2, DenL.step st caps vs h3⟩
  | .mapv id, v, h => by unfold DenV at *; exact Den1.step st (.mapv id) v h
  | .tag id, v, h => by unfold DenV at *; exact Den1.step st (.tag id) v h
end
end
end Go.Sx

/-! The executor: over the model's own code, abstract values in the slots. -/
namespace Go.Sx
open Go

inductive RM (α : Type) where
  | ret (a : α)
  | look (id : Nat) (k : Option AObj → RM α)
  | fail (why : String)

def RM.eval {α : Type} (H : AHeap) : RM α → Option α
  | .ret a => some a
  | .look id k => (k (H id)).eval H
  | .fail _ => none

def RM.ids {α : Type} (H : AHeap) : RM α → List Nat
  | .ret _ => []
  | .look id k => id :: (k (H id)).ids H
  | .fail _ => []

def RM.why {α : Type} (H : AHeap) : RM α → String
  | .ret _ => ""
  | .look _ k => (k (H id)).why H
  | .fail w => w
where id : Nat := 0

structure Res where
  need : List Prop
  up : List (Nat × AObj)
  new : List AObj
  r : Nat → AV

def plain (need : List Prop) (r : AV) : RM Res := .ret ⟨need, [], [], fun _ => r⟩
def orFail (why : String) : Option (List Prop × AV) → RM Res
  | some (need, r) => plain need r
  | none => .fail why

def inI64 (n : Int) : Prop := -9223372036854775808 ≤ n ∧ n ≤ 9223372036854775807

def kindEq : IntKind → IntKind → Bool
  | .i8, .i8 | .i16, .i16 | .i32, .i32 | .i64, .i64 | .u8, .u8 | .u16, .u16 | .u32, .u32 | .u64, .u64 => true
  | _, _ => false

def isI64 : IntKind → Bool
  | .i64 => true
  | _ => false

def bitop (op : BinOp) (k : IntKind) (x y : Int) : Int :=
  let a := BitVec.ofInt k.bits x
  let b := BitVec.ofInt k.bits y
  match op with
  | .and => k.wrap (a &&& b).toNat
  | .or => k.wrap (a ||| b).toNat
  | .xor => k.wrap (a ^^^ b).toNat
  | _ => k.wrap (a &&& ~~~b).toNat

def mkInt (lit : Bool) (k : IntKind) (n : Int) : AV := .s (if lit then .ilit k n else .int k n)
def mkBool (lit : Bool) (b : Bool) : AV := .s (if lit then .blit b else .bool b)

/-- A sum, difference, product: bare where it is an int and fits (which is owed), else wrapped. -/
def arithR (lit : Bool) (k : IntKind) (n : Int) : List Prop × AV :=
  bif lit then ([], .s (.ilit k (k.wrap n)))
  else bif isI64 k then ([inI64 n], .s (.int k n)) else ([], .s (.int k (k.wrap n)))

def intBin (op : BinOp) (k : IntKind) (lx ly : Bool) (x y : Int) : Option (List Prop × AV) :=
  let lit := lx && ly
  match op with
  | .add => some (arithR lit k (x + y))
  | .sub => some (arithR lit k (x - y))
  | .mul => some (arithR lit k (x * y))
  | .quo => some (bif lit then ([y ≠ 0], .s (.ilit k (k.wrap (x.tdiv y)))) else bif isI64 k then ([y ≠ 0, inI64 (x.tdiv y)], .s (.int k (x.tdiv y))) else ([y ≠ 0], .s (.int k (k.wrap (x.tdiv y)))))
  | .rem => some ([y ≠ 0], mkInt lit k (x.tmod y))
  | .and | .or | .xor | .andNot => some ([], mkInt lit k (bitop op k x y))
  | .eql => some ([], mkBool lit (x == y))
  | .neq => some ([], mkBool lit (x != y))
  | .lss => some ([], mkBool lit (decide (x < y)))
  | .leq => some ([], mkBool lit (decide (x ≤ y)))
  | .gtr => some ([], mkBool lit (decide (x > y)))
  | .geq => some ([], mkBool lit (decide (x ≥ y)))
  | _ => none

def shiftR (op : BinOp) (k : IntKind) (lit : Bool) (x y : Int) : Option (List Prop × AV) :=
  match op with
  | .shl => some ([0 ≤ y], mkInt lit k (k.wrap (x * 2 ^ (min y.toNat k.bits))))
  | .shr => some ([0 ≤ y], mkInt lit k (x.fdiv (2 ^ (min y.toNat k.bits))))
  | _ => none

def slt (x y : ByteArray) : Bool := Op.bytesLess x.data.toList y.data.toList

def strBin (op : BinOp) (x y : ByteArray) : Option (List Prop × AV) :=
  match op with
  | .add => some ([x.size + y.size ≤ 4611686018427387904], .s (.str (x ++ y)))
  | .eql => some ([], .s (.bool (decide (x = y))))
  | .neq => some ([], .s (.bool (!decide (x = y))))
  | .lss => some ([], .s (.bool (slt x y)))
  | .leq => some ([], .s (.bool (slt x y || decide (x = y))))
  | .gtr => some ([], .s (.bool !(slt x y || decide (x = y))))
  | .geq => some ([], .s (.bool !(slt x y)))
  | _ => none

/-- The number in a value, its kind, and whether it is a literal. -/
def AV.num? : AV → Option (IntKind × Bool × Int)
  | .s (.int k n) => some (k, false, n)
  | .s (.ilit k n) => some (k, true, n)
  | _ => none

def AV.truth? : AV → Option (Bool × Bool)
  | .s (.bool b) => some (false, b)
  | .s (.blit b) => some (true, b)
  | _ => none

def unR (op : UnOp) (x : AV) : Option (List Prop × AV) :=
  match op, x with
  | .not, .s (.bool b) => some ([], .s (.bool !b))
  | .not, .s (.blit b) => some ([], .s (.blit !b))
  | .not, .s (.anyb n e) => some ([], .s (.anyb n !e))
  | .neg, .s (.int k n) => some (arithR false k (0 - n))
  | .neg, .s (.ilit k n) => some (arithR true k (0 - n))
  | _, _ => none

def pickR (c a b : AV) : Option (List Prop × AV) :=
  match c with
  | .s (.blit true) => some ([], a)
  | .s (.blit false) => some ([], b)
  | .s (.bool c) =>
    match a.truth?, b.truth? with
    | some (_, x), some (_, y) => some ([], .s (.bool (bif c then x else y)))
    | _, _ =>
      match a.num?, b.num? with
      | some (k, _, x), some (k', _, y) => bif kindEq k k' then some ([], .s (.int k (bif c then x else y))) else none
      | _, _ => none
  | _ => none

/-! ### types -/
def szOf (P : Program) (t : TypeId) : Option Nat := (P.info? t).map (·.size)
def aggT (P : Program) (t : TypeId) : Option Bool :=
  match P.underlying t with
  | some (.struct _) | some (.array _ _) => some true
  | some _ => some false
  | none => none
def kindOf (P : Program) (t : TypeId) : Option IntKind :=
  match P.underlying t with
  | some (.int k) => some k
  | _ => none

/-! ### parts -/
def AV.wide : AV → Nat
  | .ints _ n _ => n
  | _ => 1

def dropSegs : List AV → Nat → Option (List AV)
  | segs, 0 => some segs
  | [], _ + 1 => none
  | a :: azs, n + 1 => bif a.wide.ble (n + 1) then dropSegs azs (n + 1 - a.wide) else none

def takeSegs : List AV → Nat → Option (List AV)
  | _, 0 => some []
  | [], _ + 1 => none
  | a :: azs, n + 1 => bif a.wide.ble (n + 1) && (1 : Nat).ble a.wide then (takeSegs azs (n + 1 - a.wide)).map (a :: ·) else none

/-- One cell at a place, also inside a row of numbers. -/
def cellAt : List AV → Nat → Option AV
  | [], _ => none
  | .ints k n ws :: azs, off => bif off.blt n then some (.s (.int k (ws.getD off 0))) else cellAt azs (off - n)
  | a :: _, 0 => some a
  | _ :: azs, off + 1 => cellAt azs off

def setCellAt : List AV → Nat → AV → Option (List AV)
  | [], _, _ => none
  | .ints k n ws :: azs, off, v => bif off.blt n then
      (match v.num? with
       | some (k', _, x) => bif kindEq k k' then some (.ints k n (ws.set off x) :: azs) else none
       | none => none)
      else (setCellAt azs (off - n) v).map (.ints k n ws :: ·)
  | _ :: azs, 0, v => some (v :: azs)
  | a :: azs, off + 1, v => (setCellAt azs off v).map (a :: ·)

/-- A row of numbers that begins at a place. -/
def rowAt' : List AV → Nat → Option (IntKind × Nat × List Int)
  | .ints k n ws :: azs, off => bif off.beq 0 then some (k, n, ws) else bif off.blt n then none else rowAt' azs (off - n)
  | _ :: azs, off + 1 => rowAt' azs off
  | _, _ => none

def setRowAt : List AV → Nat → List Int → Option (List AV)
  | .ints k n ws :: azs, off, ws' => bif off.beq 0 then some (.ints k n ws' :: azs) else bif off.blt n then none else (setRowAt azs (off - n) ws').map (.ints k n ws :: ·)
  | a :: azs, off + 1, ws' => (setRowAt azs off ws').map (a :: ·)
  | _, _, _ => none

def AV.single : AV → Bool
  | .s .junk | .agg _ | .ints _ _ _ | .tup _ => false
  | _ => true

/-- A value's parts, if it may be stored. -/
def AV.segs? : AV → Option (List AV)
  | .agg segs => some segs
  | .ints k n ws => some [.ints k n ws]
  | .tup _ | .s .junk => none
  | a => some [a]

def AV.ofSegs : List AV → AV
  | [.ints k n ws] => .ints k n ws
  | segs => .agg segs

def wides : List AV → Nat
  | [] => 0
  | a :: azs => a.wide + wides azs

/-- One number of a row of numbers in place. -/
def putOne (segs : List AV) (off : Nat) (by_ : List AV) : Option (List AV) :=
  match segs, by_ with
  | [.ints k n ws], [x] => match x.num? with
    | some (k', _, z) => bif kindEq k k' && off.blt n then some [.ints k n (ws.set off z)] else none
    | none => none
  | _, _ => none

/-- Parts with other ones in their place. -/
def putSegs (segs : List AV) (off : Nat) (by_ : List AV) : Option (List AV) :=
  match putOne segs off by_ with
  | some r => some r
  | none =>
  match takeSegs segs off, dropSegs segs (off + wides by_) with
  | some pre, some post => some (pre ++ by_ ++ post)
  | _, _ => none

/-! ### equality of records -/
def eqFs (P : Program) (rec : TypeId → List AV → List AV → Option Bool) : List Field → List AV → List AV → Option Bool
  | [], _, _ => some true
  | f :: fs, xs, ys => bif f.name == "_" then eqFs P rec fs xs ys else
    match szOf P f.type, aggT P f.type with
    | some sz, some isA => bif isA || sz.beq 1 then (match (dropSegs xs f.offset).bind (takeSegs · sz), (dropSegs ys f.offset).bind (takeSegs · sz) with
      | some a, some b => (match rec f.type a b, eqFs P rec fs xs ys with
        | some p, some q => some (p && q)
        | _, _ => none)
      | _, _ => none) else none
    | _, _ => none

/-- Whether the parts of two values of a type are the same. -/
def eqC (P : Program) : Nat → TypeId → List AV → List AV → Option Bool
  | 0, _, _, _ => none
  | d + 1, t, xs, ys =>
    match P.underlying t with
    | some (.int _) => (match xs, ys with
      | [x], [y] => (match x.num?, y.num? with
        | some (k, _, a), some (k', _, b) => bif kindEq k k' then some (a == b) else none
        | _, _ => none)
      | _, _ => none)
    | some .bool => (match xs, ys with
      | [x], [y] => (match x.truth?, y.truth? with
        | some (_, a), some (_, b) => some (a == b)
        | _, _ => none)
      | _, _ => none)
    | some .string => (match xs, ys with
      | [.s (.str a)], [.s (.str b)] => some (decide (a = b))
      | _, _ => none)
    | some (.array n e) => (match xs, ys with
      | [.ints k m ws], [.ints k' m' ws'] =>
        (match P.underlying e with
         | some (.int k'') => bif (1 : Nat).ble d && kindEq k k' && kindEq k k'' && n == m && m == m' && (P.info? e).any (fun i => i.size == 1) then some (decide (ws = ws')) else none
         | _ => none)
      | _, _ => none)
    | some (.struct fs) => bif P.stoodInHeld t then none else eqFs P (eqC P d) fs.toList xs ys
    | _ => none

def isIntT (P : Program) (t : TypeId) : Bool := match P.underlying t with | some (.int _) => true | _ => false
def isStrT (P : Program) (t : TypeId) : Bool := match P.underlying t with | some .string => true | _ => false
def isBoolT (P : Program) (t : TypeId) : Bool := match P.underlying t with | some .bool => true | _ => false
/-- '==' of what stands in interfaces. -/
def eqI1 (P : Program) : AV → AV → Option Bool
  | .s (.ifi t k n), .s (.ifi t' k' n') => bif t.beq t' && kindEq k k' && (P.info? t).any (·.comparable) && isIntT P t then some (n == n') else none
  | .s (.ifs t s), .s (.ifs t' s') => bif t.beq t' && (P.info? t).any (·.comparable) && isStrT P t then some (decide (s = s')) else none
  | .s (.ifb t b), .s (.ifb t' b') => bif t.beq t' && (P.info? t).any (·.comparable) && isBoolT P t then some (b == b') else none
  | _, _ => none
def eqI (P : Program) : List AV → List AV → Option Bool
  | [], [] => some true
  | x :: xs, y :: ys => match eqI1 P x y, eqI P xs ys with
    | some a, some b => some (a && b)
    | _, _ => none
  | _, _ => none

/-- '==' at a type that is no number and no string. -/
def eqR (P : Program) (t : TypeId) (x y : AV) : Option (Bool × Bool) :=
  match P.underlying t, x, y with
  | some .bool, x, y => match x.truth?, y.truth? with
    | some (lx, a), some (ly, b) => some (lx && ly, a == b)
    | _, _ => none
  | some (.array n e), .ints k m ws, .ints k' m' ws' =>
    match P.underlying e with
    | some (.int k'') => bif kindEq k k' && kindEq k k'' && n == m && m == m' && (P.info? e).any (fun i => i.size == 1) && !P.eqGuardType P.depth t then some (false, decide (ws = ws')) else none
    | _ => none
  | some (.pointer _), .s .nilp, .s .nilp => some (true, true)
  | some (.pointer _), .s .nilp, .ptr _ _ | some (.pointer _), .ptr _ _, .s .nilp => some (true, false)
  | some (.array n e), .agg xs, .agg ys =>
    match P.underlying e with
    | some (.interface _) => bif n == xs.length && n == ys.length && (P.info? e).any (fun i => i.size == 1) && !P.eqGuardType P.depth t then (eqI P xs ys).map fun b => (false, b) else none
    | _ => none
  | some (.struct _), .agg xs, .agg ys => bif P.eqGuardType P.depth t then none else (eqC P 20 t xs ys).map fun b => (false, b)
  | _, _, _ => none

/-- A number's kind, known or not. -/
def AV.kind? : AV → Option IntKind
  | .s (.int k _) | .s (.ilit k _) | .s (.anyi k) => some k
  | _ => none

def anyBin (op : BinOp) (k : IntKind) : Option AV :=
  match op with
  | .add | .sub | .mul | .and | .or | .xor | .andNot => some (.s (.anyi k))
  | .eql | .neq | .lss | .leq | .gtr | .geq => some (.s (.anyb 0 true))
  | _ => none

def binR (P : Program) (op : BinOp) (t : TypeId) (x y : AV) : Option (List Prop × AV) :=
  match x, y with
  | .s (.str a), .s (.str b) => strBin op a b
  | x, y =>
    match x.num?, y.num? with
    | some (k, lx, a), some (k', ly, b) =>
      match op with
      | .shl | .shr => shiftR op k (lx && ly) a b
      | _ => bif kindEq k k' then intBin op k lx ly a b else none
    | _, _ =>
      match x.kind?, y.kind? with
      | some k, some k' => bif kindEq k k' then (anyBin op k).map fun r => ([], r) else none
      | _, _ =>
      match op with
      | .eql => (eqR P t x y).map fun (l, b) => ([], mkBool l b)
      | .neq => (eqR P t x y).map fun (l, b) => ([], mkBool l (!b))
      | _ => none

/-! ### zero values and constants -/
def svOf : Value → Option SV
  | .bool b => some (.blit b)
  | .int k n => some (.ilit k n)
  | .string s => some (.str s)
  | .pointer none => some .nilp
  | .nilIface => some .nili
  | .nilFunc => some .nilf
  | .map none => some .nilm
  | _ => none

def av1Of : Value → Option AV
  | .slice none 0 0 => some .emp
  | v => (svOf v).map .s

def allOf : List Value → Option (List AV)
  | [] => some []
  | v :: vs => match av1Of v, allOf vs with
    | some a, some azs => some (a :: azs)
    | _, _ => none

def zeroNums (k : IntKind) : List Value → Bool
  | [] => true
  | .int k' 0 :: vs => kindEq k k' && zeroNums k vs
  | _ => false

/-- The parts of a zero value, by its type: rows of numbers are kept together. -/
def zeroSegs (P : Program) : Nat → TypeId → List Value → Option (List AV)
  | 0, _, _ => none
  | d + 1, t, cs =>
    match P.underlying t with
    | some (.struct fs) => fs.toList.foldl (fun acc f =>
        match acc, szOf P f.type with
        | some (segs, rest), some n => (zeroSegs P d f.type (rest.take n)).map fun s => (segs ++ s, rest.drop n)
        | _, _ => none) (some ([], cs)) |>.bind fun (segs, rest) => match rest with | [] => some segs | _ => none
    | some (.array n e) => match kindOf P e with
        | some k => bif zeroNums k cs && cs.length == n then some [.ints k n (List.replicate n 0)] else allOf cs
        | none => allOf cs
    | _ => allOf cs

def constOf : Value → AV
  | .agg cs => match allOf cs.toList with | some azs => .agg azs | none => .s .junk
  | v => (av1Of v).getD (.s .junk)

def zeroOf (P : Program) (t : TypeId) : Option AV :=
  match (P.info? t).bind (·.zero), aggT P t with
  | some (.agg cs), some true => (zeroSegs P 20 t cs.toList).map .ofSegs
  | some v, some false => av1Of v
  | _, _ => none

/-! ### records -/
def CL.segs : (cs : List CK) → CL cs → List AV
  | [], _ => []
  | .arr k n :: cs, x => .ints k n x.1 :: CL.segs cs x.2
  | .int k :: cs, x => .s (.int k x.1) :: CL.segs cs x.2
  | .bool :: cs, x => .s (.bool x.1) :: CL.segs cs x.2
  | .str :: cs, x => .s (.str x.1) :: CL.segs cs x.2
  | .ints k :: cs, x => .s (.ro (.ints k x.1)) :: CL.segs cs x.2
  | .strs :: cs, x => .s (.ro (.strs x.1)) :: CL.segs cs x.2
  | .bools :: cs, x => .s (.ro (.bools x.1)) :: CL.segs cs x.2
  | .rows ds :: cs, x => .s (.ro (.typ ds x.1)) :: CL.segs cs x.2

/-- A row in place has its length. -/
def segNeeds : List AV → List Prop
  | [] => []
  | .ints _ n ws :: azs => (ws.length = n) :: segNeeds azs
  | _ :: azs => segNeeds azs

def svInt (k : IntKind) : SV → Option Int
  | .int k' x | .ilit k' x => bif kindEq k k' then some x else none
  | _ => none
def svBool : SV → Option Bool
  | .bool x | .blit x => some x
  | _ => none
def svStr : SV → Option ByteArray
  | .str x => some x
  | _ => none
def svInts (k : IntKind) : SV → Option (List Int)
  | .ro (.ints k' zs) => bif kindEq k k' then some zs else none
  | .ro (.recs _ 0 _) => some []
  | _ => none
def svStrs : SV → Option (List ByteArray)
  | .ro (.strs zs) => some zs
  | .ro (.recs _ 0 _) => some []
  | _ => none
def svBools : SV → Option (List Bool)
  | .ro (.bools zs) => some zs
  | .ro (.recs _ 0 _) => some []
  | _ => none
def svRows (cs : List CK) : SV → Option (List (CL cs))
  | .ro (.typ cs' zs) => (CL.eq cs' cs).map fun h => castL h zs
  | .ro (.recs _ 0 _) => some []
  | _ => none

def CK.set : (c : CK) → c.V → Nat → SV → Option c.V
  | .int k, _, _, v => svInt k v
  | .bool, _, _, v => svBool v
  | .str, _, _, v => svStr v
  | .ints k, _, _, v => svInts k v
  | .strs, _, _, v => svStrs v
  | .bools, _, _, v => svBools v
  | .rows cs, _, _, v => svRows cs v
  | .arr _ _, _, _, _ => none

def CL.set : (cs : List CK) → CL cs → Nat → SV → Option (CL cs)
  | [], _, _, _ => none
  | c :: cs, x, j, v => bif j.blt c.wide then (c.set x.1 j v).map fun y => (y, x.2) else (CL.set cs x.2 (j - c.wide) v).map fun y => (x.1, y)

def CK.setRow : (c : CK) → IntKind → Nat → List Int → Option c.V
  | .arr k' n', k, n, ws => bif kindEq k k' && n.beq n' then some ws else none
  | _, _, _, _ => none

def CL.setRow : (cs : List CK) → CL cs → Nat → IntKind → Nat → List Int → Option (CL cs)
  | [], _, _, _, _, _ => none
  | c :: cs, x, j, k, n, ws => bif j.beq 0 then (c.setRow k n ws).map fun y => (y, x.2)
      else bif c.wide.ble j then (CL.setRow cs x.2 (j - c.wide) k n ws).map fun y => (x.1, y) else none

/-! ### memory -/
/-- What is read of an element. -/
def elemLoad (isA : Bool) (c : Con) (i j sz : Nat) : RM Res :=
  bif isA then
    (match c with
     | .typ cs xs => (match (dropSegs (CL.segs cs (xs.getD i (CL.d cs))) j).bind (takeSegs · sz) with
        | some ss => plain (segNeeds (CL.segs cs (xs.getD i (CL.d cs)))) (.ofSegs ss)
        | none => .fail "load: no such parts of the element")
     | c => bif (j + sz).ble c.size then plain [] (.agg ((List.range sz).map fun l => .s (c.cell i (j + l)))) else .fail "load: beyond the element")
  else (bif j.blt c.size then plain [] (.s (c.cell i j)) else .fail "load: beyond the element")

def loadR (P : Program) (t : TypeId) (a : AV) : RM Res :=
  match szOf P t, aggT P t with
  | some sz, some isA =>
    match a with
    | .ptr id off => .look id fun
      | some (.own segs _) => bif isA then
          (match (dropSegs segs off).bind (takeSegs · sz) with
           | some ss => plain [] (.ofSegs ss)
           | none => .fail "load: no such parts")
          else (match cellAt segs off with
           | some v => plain [] v
           | none => .fail "load: no such cell")
      | _ => .fail "load: no own object"
    | .ptrx id off n i => .look id fun
      | some (.own segs _) => match rowAt' segs off with
        | some (k, m, ws) => bif m.beq n && !isA then plain [] (.s (.int k (ws.getD i 0))) else .fail "load: a row of another length"
        | none => .fail "load: no row"
      | _ => .fail "load: no own object"
    | .eptr c i j => elemLoad isA c i j sz
    | .vptr id i j => .look id fun
      | some (.vec c _) => elemLoad isA c i j sz
      | _ => .fail "load: no vec"
    | _ => .fail "load: no address"
  | _, _ => .fail "load: no type"

def conSet : Con → Nat → Nat → SV → Option Con
  | .ints k zs, i, _, v => match v with
    | .int k' x | .ilit k' x => bif kindEq k k' then some (.ints k (zs.set i x)) else none
    | _ => none
  | .strs ss, i, _, v => match v with
    | .str x => some (.strs (ss.set i x))
    | _ => none
  | .bools bs, i, _, v => match v with
    | .bool x | .blit x => some (.bools (bs.set i x))
    | _ => none
  | .typ cs xs, i, j, v => (CL.set cs (xs.getD i (CL.d cs)) j v).map fun y => .typ cs (xs.set i y)
  | .recs s n get, i, j, v => some (.recs s n fun i' j' => bif i' == i && j' == j then v else get i' j')

def conSetRow : Con → Nat → Nat → IntKind → Nat → List Int → Option Con
  | .typ cs xs, i, j, k, n, ws => (CL.setRow cs (xs.getD i (CL.d cs)) j k n ws).map fun y => .typ cs (xs.set i y)
  | _, _, _, _, _, _ => none

def conSets1 (c : Con) (i j : Nat) : List AV → Option Con
  | [] => some c
  | .s v :: azs => (conSet c i j v).bind fun c' => conSets1 c' i (j + 1) azs
  | .ints k n ws :: azs => (conSetRow c i j k n ws).bind fun c' => conSets1 c' i (j + n) azs
  | _ => none

def clSets (cs : List CK) (x : CL cs) (j : Nat) : List AV → Option (CL cs)
  | [] => some x
  | .s v :: azs => (CL.set cs x j v).bind fun y => clSets cs y (j + 1) azs
  | .ints k n ws :: azs => (CL.setRow cs x j k n ws).bind fun y => clSets cs y (j + n) azs
  | _ => none

def conSets (c : Con) (i j : Nat) (by_ : List AV) : Option Con := match c with
  | .typ cs xs => (clSets cs (xs.getD i (CL.d cs)) j by_).map fun y => .typ cs (xs.set i y)
  | _ => conSets1 c i j by_

def storeR (P : Program) (t : TypeId) (a x : AV) : RM Res :=
  match szOf P t, aggT P t with
  | some sz, some isA =>
    match a with
    | .ptr id off => .look id fun
      | some (.own segs e) =>
        bif isA then
          (match x.segs? with
           | some by_ => bif (wides by_).beq sz && (1 : Nat).ble sz then
               (match putSegs segs off by_ with
                | some segs' => .ret ⟨[], [(id, .own segs' e)], [], fun _ => .tup []⟩
                | none => .fail "store: no such parts") else .fail "store: another size"
           | none => .fail "store: no parts")
        else (bif x.single && sz.beq 1 then
          (match setCellAt segs off x with
           | some segs' => .ret ⟨[], [(id, .own segs' e)], [], fun _ => .tup []⟩
           | none => .fail "store: no such cell") else .fail "store: no one cell")
      | _ => .fail "store: no own object"
    | .ptrx id off n i => .look id fun
      | some (.own segs e) => match rowAt' segs off, x.num? with
        | some (k, m, ws), some (k', _, y) => bif m.beq n && kindEq k k' && !isA && sz.beq 1 then
            (match setRowAt segs off (ws.set i y) with
             | some segs' => .ret ⟨[], [(id, .own segs' e)], [], fun _ => .tup []⟩
             | none => .fail "store: no row") else .fail "store: a row of another length"
        | _, _ => .fail "store: no row"
      | _ => .fail "store: no own object"
    | .vptr id i j => .look id fun
      | some (.vec c e) => match x.segs? with
        | some by_ => bif (wides by_).beq sz && (j + sz).ble c.size then
            (match conSets c i j by_ with
             | some c' => .ret ⟨[], [(id, .vec c' e)], [], fun _ => .tup []⟩
             | none => .fail "store: another kind of element") else .fail "store: another size"
        | none => .fail "store: no parts"
      | _ => .fail "store: no vec"
    | _ => .fail "store: no own address"
  | _, _ => .fail "store: no type"

def fieldAddrR (P : Program) (t : TypeId) (x : AV) (f : Nat) : RM Res :=
  match P.underlying t with
  | some (.struct fs) => match fs[f]? with
    | some fd => bif (szOf P fd.type).any (fun n => (1 : Nat).ble n) then
        (match x with
         | .ptr id off => plain [] (.ptr id (off + fd.offset))
         | .eptr c i j => plain [] (.eptr c i (j + fd.offset))
         | .vptr id i j => .look id fun
           | some (.vec c _) => bif (j + fd.offset).blt c.size then plain [] (.vptr id i (j + fd.offset)) else .fail "fieldAddr: beyond"
           | _ => .fail "fieldAddr: no vec"
         | _ => .fail "fieldAddr: no address") else .fail "fieldAddr: an empty field"
    | none => .fail "fieldAddr: no field"
  | _ => .fail "fieldAddr: no struct"

def indexAddrR (P : Program) (t : TypeId) (x i : AV) : RM Res :=
  match i.num?, P.underlying t with
  | some (_, _, n), some (.slice e) =>
    (match szOf P e, x with
     | some sz, .s (.ro c) => bif sz.beq c.size then plain [0 ≤ n, n < c.n] (.eptr c n.toNat 0) else .fail "indexAddr: size"
     | some sz, .vec id => .look id fun
        | some (.vec c _) => bif sz.beq c.size && (1 : Nat).ble sz then plain [0 ≤ n, n < c.n] (.vptr id n.toNat 0) else .fail "indexAddr: size"
        | _ => .fail "indexAddr: no vec"
     | some sz, .part id lo m => .look id fun
        | some (.vec c _) => bif sz.beq c.size && (1 : Nat).ble sz then plain [0 ≤ n, n < m] (.vptr id (lo + n.toNat) 0) else .fail "indexAddr: size"
        | _ => .fail "indexAddr: no vec"
     | _, _ => .fail "indexAddr: no slice")
  | some (_, lit, n), some (.array len e) =>
    (match szOf P e, x with
     | some sz, .ptr id off => bif lit then
          (bif decide (0 ≤ n) && decide (n < len) then plain [] (.ptr id (off + n.toNat * sz)) else .fail "indexAddr: out of range")
          else (bif sz.beq 1 then plain [0 ≤ n, n < len] (.ptrx id off len n.toNat) else .fail "indexAddr: wide elements")
     | some sz, .vptr id i0 0 => .look id fun
        | some (.vec c _) => bif sz.beq c.size && (1 : Nat).ble sz then plain [0 ≤ n, n < len, i0 + n < c.n] (.vptr id (i0 + n.toNat) 0) else .fail "indexAddr: size"
        | _ => .fail "indexAddr: no vec"
     | _, _ => .fail "indexAddr: no array")
  | _, _ => .fail "indexAddr: no number or type"

def byteAt (s : ByteArray) (i : Nat) : Int := ((s.data.toList.getD i 0).toNat : Int)

def indexR (P : Program) (t : TypeId) (x i : AV) : RM Res :=
  match i.num?, P.underlying t, x with
  | some (_, _, n), some (.array len e), .ints k m ws => bif len.beq m && (aggT P e).any (!·) && (szOf P e).any (·.beq 1) then plain [0 ≤ n, n < len] (.s (.int k (ws.getD n.toNat 0))) else .fail "index: array"
  | some (_, _, n), some .string, .s (.str s) => plain [0 ≤ n, n < s.size] (.s (.int .u8 (byteAt s n.toNat)))
  | some (_, _, n), some (.array len e), .agg segs => bif (aggT P e).any (!·) && (szOf P e).any (·.beq 1) then
      (match cellAt segs n.toNat with
       | some v => plain [0 ≤ n, n < len] v
       | none => .fail "index: no cell") else .fail "index: array of parts"
  | _, _, _ => .fail "index"

def fieldR (P : Program) (t : TypeId) (x : AV) (f : Nat) : RM Res :=
  match P.underlying t, x with
  | some (.struct fs), .agg segs => match fs[f]? with
    | some fd => match szOf P fd.type, aggT P fd.type with
      | some sz, some true => match (dropSegs segs fd.offset).bind (takeSegs · sz) with
        | some ss => plain [] (.ofSegs ss)
        | none => .fail "field: parts"
      | some _, some false => match cellAt segs fd.offset with
        | some v => plain [] v
        | none => .fail "field: cell"
      | _, _ => .fail "field: type"
    | none => .fail "field: none"
  | _, _ => .fail "field"

def extractR (x : AV) (i : Nat) : RM Res :=
  match x with
  | .tup vs => match vs[i]? with
    | some v => plain [] v
    | none => .fail "extract"
  | _ => .fail "extract: no tuple"

/-- An own array of texts is kept as a row. -/
def arrStrs (P : Program) (t : TypeId) : Option Nat :=
  match P.underlying t, P.info? t with
  | some (.array n e), some i => match P.underlying e, i.zero with
    | some .string, some z => bif (4 : Nat).ble n && n.ble 4096 && z.cells.size.beq n && z.cells.toList.all (fun v => match v with | .string s => s.size.beq 0 | _ => false) then some n else none
    | _, _ => none
  | _, _ => none

def allocR (P : Program) (t : TypeId) : RM Res :=
  match arrStrs P t with
  | some n => .ret ⟨[], [], [.vec (.strs (List.replicate n ByteArray.empty)) t], fun id => .vptr id 0 0⟩
  | none =>
  match (zeroOf P t).bind AV.segs? with
  | some segs => .ret ⟨[], [], [.own segs t], fun id => .ptr id 0⟩
  | none => .fail "alloc: zero"

def boxR (t : TypeId) (v : AV) : RM Res :=
  match v.segs? with
  | some segs => .ret ⟨[], [], [.own segs t], fun id => .ptr id 0⟩
  | none => .fail "box"

def putAll (place : Nat → Option (Nat × Nat)) (segs : List AV) : List (Nat × AV) → Option (List AV)
  | [] => some segs
  | (i, v) :: rest =>
    match place i, v.segs? with
    | some (off, size), some by_ => bif (wides by_).beq size && (1 : Nat).ble size then (putSegs segs off by_).bind fun s => putAll place s rest else none
    | _, _ => none

def buildR (P : Program) (t : TypeId) (parts : List (Nat × AV)) : RM Res :=
  match (zeroOf P t).bind AV.segs?, P.underlying t with
  | some segs, some (.struct fs) => bif fs.toList.all (fun f => (szOf P f.type).isSome) then
    match putAll (fun i => (fs[i]?).bind fun f => (szOf P f.type).map fun n => (f.offset, n)) segs parts with
    | some ss => plain [] (.ofSegs ss)
    | none => .fail "build: parts"
    else .fail "build: a field's size"
  | some segs, some (.array _ e) =>
    match szOf P e with
    | some sz => match putAll (fun i => some (i * sz, sz)) segs parts with
      | some ss => plain [] (.ofSegs ss)
      | none => .fail "build: array"
    | none => .fail "build: element"
  | _, _ => .fail "build: zero"

/-! ### rows of elements -/
def AV.sv? : AV → Option SV
  | .s .junk => none
  | .s v => some v
  | .emp => some (.ro (.recs 1 0 fun _ _ => .junk))
  | _ => none

def svs : List AV → Option (List SV)
  | [] => some []
  | .ints _ _ _ :: _ => none
  | a :: azs => match a.sv?, svs azs with
    | some v, some vs => some (v :: vs)
    | _, _ => none

def numsOf (k : IntKind) : List SV → Option (List Int)
  | [] => some []
  | .int k' n :: vs | .ilit k' n :: vs => bif kindEq k k' then (numsOf k vs).map (n :: ·) else none
  | _ => none
def strsOf : List SV → Option (List ByteArray)
  | [] => some []
  | .str s :: vs => (strsOf vs).map (s :: ·)
  | _ => none
def boolsOf : List SV → Option (List Bool)
  | [] => some []
  | .bool b :: vs | .blit b :: vs => (boolsOf vs).map (b :: ·)
  | _ => none
inductive Shape where
  | ints (k : IntKind) | strs | bools | typ (cs : List CK) | other

/-- A type's parts, if each is a plain one. -/
def cksOf (P : Program) : Nat → TypeId → Option (List CK)
  | 0, _ => none
  | d + 1, t =>
    match P.underlying t with
    | some (.int k) => some [.int k]
    | some .bool => some [.bool]
    | some .string => some [.str]
    | some (.slice e) => match P.underlying e with
      | some (.int k) => some [.ints k]
      | some .string => some [.strs]
      | some .bool => some [.bools]
      | _ => (cksOf P d e).map fun cs => [.rows cs]
    | some (.struct fs) => fs.toList.foldr (fun f acc => match cksOf P d f.type, acc with
        | some a, some b => some (a ++ b)
        | _, _ => none) (some [])
    | some (.array n e) => match P.underlying e with
      | some (.int k) => some [.arr k n]
      | _ => none
    | _ => none

def shapeOf (P : Program) (e : TypeId) : Shape :=
  match P.underlying e with
  | some (.int k) => .ints k
  | some .string => .strs
  | some .bool => .bools
  | _ => match cksOf P 8 e with
    | some cs => .typ cs
    | none => .other

def CL.ofs (cs : List CK) (f : Nat → SV) : Option (CL cs) := (List.range (CL.wide cs)).foldl (fun acc j => acc.bind fun x => CL.set cs x j (f j)) (some (CL.d cs))

def typOf (cs : List CK) (size : Nat) (cells : List SV) : Nat → Nat → Option (List (CL cs))
  | _, 0 => some []
  | i, n + 1 => match CL.ofs cs (fun j => cells.getD (i * size + j) .junk), typOf cs size cells (i + 1) n with
    | some x, some xs => some (x :: xs)
    | _, _ => none

def conOf (sh : Shape) (size n : Nat) (cells : List SV) : Con :=
  let d : Con := .recs size n fun i j => cells.getD (i * size + j) .junk
  match sh with
  | .ints k => (numsOf k cells).elim d (.ints k)
  | .strs => (strsOf cells).elim d .strs
  | .bools => (boolsOf cells).elim d .bools
  | .typ cs => bif (CL.wide cs).beq size then (typOf cs size cells 0 n).elim d (.typ cs) else d
  | .other => d

def nilCon (sh : Shape) (size : Nat) : Con :=
  match sh with
  | .ints k => .ints k []
  | .strs => .strs []
  | .bools => .bools []
  | .typ cs => .typ cs []
  | .other => .recs size 0 fun _ _ => .junk

def rep {α : Type} (n : Nat) (x : List α) : List α :=
  match n with
  | 0 => []
  | n + 1 => x ++ rep n x

def buildSliceR (P : Program) (t : TypeId) (n : Nat) (parts : List (Nat × AV)) : RM Res :=
  match P.underlying t with
  | some (.slice e) =>
    match szOf P e, (zeroOf P e).bind AV.segs? with
    | some sz, some z => bif (1 : Nat).ble sz && (n * sz).ble 4096 && (wides z).beq sz then
        (match (putAll (fun i => some (i * sz, sz)) (rep n z) parts).bind svs with
         | some cells => bif cells.length.beq (n * sz) && (conOf (shapeOf P e) sz n cells).n.beq n && (conOf (shapeOf P e) sz n cells).size.beq sz then .ret ⟨[], [], [.vec (conOf (shapeOf P e) sz n cells) e], fun id => .vec id⟩ else .fail "buildSlice: length"
         | none => .fail "buildSlice: parts") else .fail "buildSlice: size"
    | _, _ => .fail "buildSlice: zero"
  | _ => .fail "buildSlice: type"

def conApp : Con → Con → Con
  | .ints k xs, .ints k' ys => bif kindEq k k' then .ints k (xs ++ ys) else .recs 1 (xs.length + ys.length) fun i j => bif i.blt xs.length then (Con.ints k xs).cell i j else (Con.ints k' ys).cell (i - xs.length) j
  | .strs xs, .strs ys => .strs (xs ++ ys)
  | .bools xs, .bools ys => .bools (xs ++ ys)
  | .typ cs xs, .typ cs' ys => match CL.eq cs' cs with
    | some h => .typ cs (xs ++ castL h ys)
    | none => .recs (CL.wide cs) (xs.length + ys.length) fun i j => bif i.blt xs.length then (Con.typ cs xs).cell i j else (Con.typ cs' ys).cell (i - xs.length) j
  | c, d => .recs c.size (c.n + d.n) fun i j => bif i.blt c.n then c.cell i j else d.cell (i - c.n) j

def conSub : Con → Nat → Nat → Con
  | .ints k zs, l, h => .ints k ((zs.take h).drop l)
  | .strs zs, l, h => .strs ((zs.take h).drop l)
  | .bools zs, l, h => .bools ((zs.take h).drop l)
  | .typ cs zs, l, h => .typ cs ((zs.take h).drop l)
  | .recs s _ get, l, h => .recs s (h - l) fun i j => get (l + i) j

def over {α : Type} (xs : List α) (lo k : Nat) (ys : List α) : List α := xs.take lo ++ ys.take k ++ xs.drop (lo + k)

/-- A row's elements over another one's, from a place on. -/
def conCopy : Con → Nat → Nat → Con → Con
  | .ints k1 xs, lo, k, .ints k2 ys => bif kindEq k1 k2 then .ints k1 (over xs lo k ys) else .recs 1 xs.length fun i j => bif lo.ble i && i.blt (lo + k) then (Con.ints k2 ys).cell (i - lo) j else (Con.ints k1 xs).cell i j
  | .strs xs, lo, k, .strs ys => .strs (over xs lo k ys)
  | .bools xs, lo, k, .bools ys => .bools (over xs lo k ys)
  | .typ cs xs, lo, k, .typ cs' ys => match CL.eq cs' cs with
    | some h => .typ cs (over xs lo k (castL h ys))
    | none => .recs (CL.wide cs) xs.length fun i j => bif lo.ble i && i.blt (lo + k) then (Con.typ cs' ys).cell (i - lo) j else (Con.typ cs xs).cell i j
  | c, lo, k, d => .recs c.size c.n fun i j => bif lo.ble i && i.blt (lo + k) then d.cell (i - lo) j else c.cell i j

/-- A zero value's cell. -/
def svIs : SV → Value → Bool
  | .int k n, .int k' n' => kindEq k k' && n == n'
  | .bool b, .bool b' => b == b'
  | .str s, .string s' => s.size.beq 0 && s'.size.beq 0
  | .ro c, .slice none 0 0 => c.n.beq 0
  | _, _ => false

def zeroCon (sh : Shape) (n : Nat) : Con :=
  match sh with
  | .ints k => .ints k (List.replicate n 0)
  | .strs => .strs (List.replicate n ByteArray.empty)
  | .bools => .bools (List.replicate n false)
  | .typ cs => .typ cs (List.replicate n (CL.d cs))
  | .other => .recs 1 n fun _ _ => .junk

def zeroFits (sh : Shape) (z : List Value) : Bool := (zeroCon sh 1).size.beq z.length && (List.range z.length).all fun j => svIs ((zeroCon sh 1).cell 0 j) (z.getD j undef)

/-- The row that a slice shows, whoever owns it: from it, and which object it is. -/
def rowOf (sh : Shape) (size : Nat) (x : AV) (k : Con → Option Nat → RM Res) : RM Res :=
  match x with
  | .s v => (match v with
    | .ro c => k c none
    | _ => .fail "row")
  | .emp => k (nilCon sh size) none
  | .vec id => .look id fun
    | some (.vec c _) => k c (some id)
    | _ => .fail "row: no vec"
  | .part id lo n => .look id fun
    | some (.vec c _) => k (conSub c lo (lo + n)) (some id)
    | _ => .fail "row: no vec"
  | _ => .fail "row"

/-- What is appended: a row, or a text's bytes. -/
def srcOf (sh : Shape) (size : Nat) (x : AV) (k : Con → Option Nat → RM Res) : RM Res :=
  match x with
  | .s (.str s) => k (.ints .u8 (s.data.toList.map fun b => (b.toNat : Int))) none
  | x => rowOf sh size x k

def appendR (P : Program) (t : TypeId) (x y : AV) : RM Res :=
  match P.underlying t with
  | some (.slice e) =>
    match P.info? e with
    | some i =>
      let sh := shapeOf P e
      bif (1 : Nat).ble i.size && (1 : Nat).ble i.bytes && i.bytes.ble 256 && i.zero.any (fun z => z.cells.size == i.size && z.cells.toList.all (·.oneCell')) then
        srcOf sh i.size y fun d idy =>
          bif d.size.beq i.size then
            (match x with
             | .emp => .ret ⟨[d.n * i.bytes ≤ 140737488355328], [], [.vec d e], fun id => .vec id⟩
             | .vec idx => .look idx fun
               | some (.vec c e') => bif c.size.beq i.size && e'.beq e && !(idy == some idx) then
                   .ret ⟨[(c.n + d.n) * i.bytes ≤ 140737488355328], [(idx, .dead)], [.vec (conApp c d) e], fun id => .vec id⟩ else .fail "append: size"
               | _ => .fail "append: no vec"
             | .part idx lo n => .look idx fun
               | some (.vec c e') => bif c.size.beq i.size then
                   .ret ⟨[lo + n + d.n ≤ c.n], [(idx, .vec (conCopy c (lo + n) d.n d) e')], [], fun _ => .part idx lo (n + d.n)⟩ else .fail "append: size"
               | _ => .fail "append: no vec"
             | _ => .fail "append: what is appended to is not own")
          else .fail "append: another size"
      else .fail "append: element"
    | none => .fail "append: no element"
  | _ => .fail "append: type"

/-- Zeros behind a row that has no room for them. -/
def appendZR (P : Program) (t t' : TypeId) (x y : AV) : RM Res :=
  match P.underlying t, P.underlying t', x, y.num? with
  | some (.slice e), some (.int _), .s (.rot c k), some (_, _, j) =>
    (match P.info? e with
     | some i => bif (1 : Nat).ble i.size && i.bytes.ble 256 && c.size.beq i.size && i.zero.any (fun z => zeroFits (shapeOf P e) z.cells.toList && z.cells.size == i.size) then
        .ret ⟨[0 < j, (k : Int) ≤ c.n + j, (c.n : Int) + j ≤ 4294967296], [], [.vec (conApp c (zeroCon (shapeOf P e) j.toNat)) e], fun id => .vec id⟩ else .fail "append: zeros"
     | none => .fail "append: element")
  | _, _, _, _ => .fail "append: zeros?"

def lenR (P : Program) (t : TypeId) (x : AV) : RM Res :=
  match P.underlying t, x with
  | some .string, .s (.str s) => plain [] (.s (.int .i64 s.size))
  | some (.array n _), _ => plain [] (.s (.ilit .i64 n))
  | some (.slice _), .s (.ro c) => plain [] (.s (.int .i64 c.n))
  | some (.slice _), .s (.rot c _) => plain [] (.s (.int .i64 c.n))
  | some (.slice _), .emp => plain [] (.s (.ilit .i64 0))
  | some (.slice _), .vec id => .look id fun
    | some (.vec c _) => plain [] (.s (.int .i64 c.n))
    | _ => .fail "len: no vec"
  | some (.slice _), .part id _ n => .look id fun
    | some (.vec _ _) => plain [] (.s (.int .i64 n))
    | _ => .fail "len: no vec"
  | some (.map _ _), .mapv id => .look id fun
    | some (.map _ m) => plain [] (.s (.int .i64 m.length))
    | _ => .fail "len: no map"
  | _, _ => .fail "len"

/-- What is known of a capacity. -/
def capR (P : Program) (t : TypeId) (x : AV) : RM Res :=
  match P.underlying t, x with
  | some (.slice _), .s (.rot _ k) => plain [] (.s (.caplt k))
  | some (.slice _), .vec id => .look id fun
    | some (.vec c _) => plain [] (.s (.capge c.n))
    | _ => .fail "cap: no vec"
  | some (.slice _), .part id lo _ => .look id fun
    | some (.vec c _) => plain [] (.s (.capge (c.n - lo)))
    | _ => .fail "cap: no vec"
  | _, _ => .fail "cap"

def imax (a b : Int) : Int := if b > a then b else a
def imin (a b : Int) : Int := if b < a then b else a

def minR (mx : Bool) (x y : AV) : RM Res :=
  match x.num?, y.num? with
  | some (k, lx, a), some (k', ly, b) => bif kindEq k k' then
      (bif mx then plain [] (mkInt (lx && ly) k (imax a b)) else plain [] (mkInt (lx && ly) k (imin a b))) else .fail "min: kinds"
  | _, _ => .fail "min"

def numOr (d : Int) : Option AV → Option Int
  | none => some d
  | some a => (a.num?).map fun (_, _, n) => n

/-- A part of an own row. -/
def partR (P : Program) (e : TypeId) (c : Con) (id lo0 n : Nat) (lo hi mx : Option AV) : RM Res :=
  match szOf P e with
  | some sz => bif sz.beq c.size then
     (match mx with
      | none => (match numOr 0 lo, numOr n hi with
         | some l, some h => plain [0 ≤ l, l ≤ h, (lo0 : Int) + h ≤ c.n] (.part id (lo0 + l.toNat) (h.toNat - l.toNat))
         | _, _ => .fail "slice: bounds")
      | some m => (match numOr 0 lo, hi.bind AV.num?, m.num? with
         | some l, some (_, _, h), some (_, _, m) => plain [0 ≤ l, l ≤ h, h ≤ m, (lo0 : Int) + m ≤ c.n] (.s .junk)
         | _, _, _ => .fail "slice: three")) else .fail "slice: size"
  | none => .fail "slice: element"

/-- Elements of a row over own ones. -/
def copyR (P : Program) (t : TypeId) (x y : AV) : RM Res :=
  match P.underlying t with
  | some (.slice e) =>
    match szOf P e with
    | some sz => bif (1 : Nat).ble sz then
        srcOf (shapeOf P e) sz y fun d _ => bif d.size.beq sz then
          (match x with
           | .vec id => .look id fun
             | some (.vec c e') => bif c.size.beq sz then
                 .ret ⟨[], [(id, .vec (conCopy c 0 (min d.n c.n) d) e')], [], fun _ => .s (.int .i64 ((min d.n c.n : Nat) : Int))⟩ else .fail "copy: size"
             | _ => .fail "copy: no vec"
           | .part id lo n => .look id fun
             | some (.vec c e') => bif c.size.beq sz then
                 .ret ⟨[], [(id, .vec (conCopy c lo (min d.n n) d) e')], [], fun _ => .s (.int .i64 ((min d.n n : Nat) : Int))⟩ else .fail "copy: size"
             | _ => .fail "copy: no vec"
           | _ => .fail "copy: not own") else .fail "copy: another size"
        else .fail "copy: size"
    | none => .fail "copy: element"
  | _ => .fail "copy: type"

def arrOf {k : IntKind} {m : Nat} (x : CL [.arr k m]) : List Int := x.1
def toArr {k : IntKind} {m : Nat} (ws : List Int) : CL [.arr k m] := (ws, ())

/-- The numbers of a source. -/
def srcNums (x : AV) (k : IntKind → List Int → Prop → RM Res) : RM Res :=
  match x with
  | .s (.str s) => k .u8 (s.data.toList.map fun b => (b.toNat : Int)) True
  | .sub id off n => .look id fun
    | some (.own [.ints q m ws] _) => k q ((ws.drop off).take n) (off + n ≤ m)
    | _ => .fail "copy: no numbers"
  | _ => .fail "copy: from what?"

/-- Numbers over those of an array in place. -/
def copyNR (P : Program) (t : TypeId) (x y : AV) : RM Res :=
  match P.underlying t with
  | some (.slice e) =>
    match szOf P e with
    | some sz => bif sz.beq 1 then
        (match x with
         | .sub id off n => srcNums y fun q zs p => .look id fun
            | some (.own [.ints k m ws] e') => bif kindEq q k then
                .ret ⟨[p, off + n ≤ m], [(id, .own [.ints k m (over ws off (min zs.length n) zs)] e')], [], fun _ => .s (.int .i64 ((min zs.length n : Nat) : Int))⟩ else .fail "copy: kind"
            | _ => .fail "copy: no array"
         | .subv id i j n => srcNums y fun q zs p => .look id fun
            | some (.vec (.typ [.arr k m] xs) e') => bif kindEq q k && (1 : Nat).ble m then
                .ret ⟨[p, (arrOf (xs.getD i (CL.d [.arr k m]))).length = m], [(id, .vec (.typ [.arr k m] (xs.set i (toArr (over (arrOf (xs.getD i (CL.d [.arr k m]))) j (min zs.length n) zs)))) e')], [], fun _ => .s (.int .i64 ((min zs.length n : Nat) : Int))⟩ else .fail "copy: kind"
            | _ => .fail "copy: no vec"
         | _ => .fail "copy: not an array") else .fail "copy: size"
    | none => .fail "copy: element"
  | _ => .fail "copy: type"

def isSub : AV → Bool
  | .sub _ _ _ | .subv _ _ _ _ => true
  | _ => false

def clearR (P : Program) (t : TypeId) (x : AV) : RM Res :=
  match P.underlying t, x with
  | some (.slice e), .part id lo n =>
    (match P.info? e with
     | some i => bif (1 : Nat).ble i.size && i.zero.any (fun z => zeroFits (shapeOf P e) z.cells.toList && z.cells.size == i.size) then
        .look id fun
        | some (.vec c e') => bif c.size.beq i.size then
            .ret ⟨[], [(id, .vec (conCopy c lo n (zeroCon (shapeOf P e) n)) e')], [], fun _ => .tup []⟩ else .fail "clear: size"
        | _ => .fail "clear: no vec"
        else .fail "clear: zero"
     | none => .fail "clear: element")
  | some (.map _ _), .mapv id => .look id fun
    | some (.map ck _) => .ret ⟨[], [(id, .map ck [])], [], fun _ => .tup []⟩
    | _ => .fail "clear: no map"
  | _, _ => .fail "clear"

def makeSliceR (P : Program) (t : TypeId) (l c : AV) : RM Res :=
  match P.underlying t, l.num?, c.num? with
  | some (.slice e), some (_, _, l), some (_, _, c) =>
    (match P.info? e with
     | some i => bif (1 : Nat).ble i.size && i.bytes.ble 256 && i.zero.any (fun z => zeroFits (shapeOf P e) z.cells.toList && z.cells.size == i.size) then
        .ret ⟨[0 ≤ l, l ≤ c, c ≤ 1073741824], [], [.vec (zeroCon (shapeOf P e) l.toNat) e], fun id => .vec id⟩ else .fail "makeSlice: zero"
     | none => .fail "makeSlice: element")
  | _, _, _ => .fail "makeSlice"

def sliceR (P : Program) (t : TypeId) (x : AV) (lo hi mx : Option AV) : RM Res :=
  match P.underlying t, x with
  | some .string, .s (.str s) =>
    (match numOr 0 lo, numOr s.size hi, mx with
     | some l, some h, none => plain [0 ≤ l, l ≤ h, h ≤ s.size] (.s (.str (s.extract l.toNat h.toNat)))
     | _, _, _ => .fail "slice: string")
  | some (.slice e), .emp => (match szOf P e, numOr 0 lo, numOr 0 hi, mx with
     | some _, some l, some h, none => plain [l = 0, h = 0] .emp
     | _, _, _, _ => .fail "slice: emp")
  | some (.slice e), .s (.ro c) =>
    (match szOf P e with
     | some sz => bif sz.beq c.size then
        (match mx with
         | none => (match numOr 0 lo, numOr c.n hi with
            | some l, some h => plain [0 ≤ l, l ≤ h, h ≤ c.n] (.s (.ro (conSub c l.toNat h.toNat)))
            | _, _ => .fail "slice: bounds")
         | some m => (match numOr 0 lo, hi.bind AV.num?, m.num? with
            | some l, some (_, _, h), some (_, _, m) => plain [l = 0, h = 0, m = 0] .emp
            | _, _, _ => .fail "slice: three")) else .fail "slice: size"
     | none => .fail "slice: element")
  | some (.slice e), .s (.rot c k) =>
    (match szOf P e, mx with
     | some sz, none => bif sz.beq c.size then
        (match lo, numOr c.n hi with
         | none, some h => plain [0 ≤ h, h ≤ c.n] (.s (.rot (conSub c 0 h.toNat) k))
         | some l, some h => (match l.num? with
            | some (_, _, l) => plain [0 ≤ l, l ≤ h, h ≤ c.n] (.s (.ro (conSub c l.toNat h.toNat)))
            | none => .fail "slice: bounds")
         | _, _ => .fail "slice: bounds") else .fail "slice: size"
     | _, _ => .fail "slice: element")
  | some (.slice e), .vec id => .look id fun
    | some (.vec c _) => partR P e c id 0 c.n lo hi mx
    | _ => .fail "slice: no vec"
  | some (.slice e), .part id lo0 n => .look id fun
    | some (.vec c _) => partR P e c id lo0 n lo hi mx
    | _ => .fail "slice: no vec"
  | some (.array n e), .ptr id off =>
    (match szOf P e, numOr 0 lo, numOr n hi, mx with
     | some sz, some l, some h, none => bif sz.beq 1 then plain [0 ≤ l, l ≤ h, h ≤ n] (.sub id (off + l.toNat) (h.toNat - l.toNat)) else .fail "slice: array"
     | _, _, _, _ => .fail "slice: array")
  | some (.array n e), .vptr id i j =>
    (match szOf P e, numOr 0 lo, numOr n hi, mx with
     | some sz, some l, some h, none => .look id fun
       | some (.vec c _) => bif sz.beq 1 && (j + n).ble c.size then plain [0 ≤ l, l ≤ h, h ≤ n] (.subv id i (j + l.toNat) (h.toNat - l.toNat)) else .fail "slice: array"
       | _ => .fail "slice: no vec"
     | _, _, _, _ => .fail "slice: array")
  | _, _ => .fail "slice"

def bytesStr (zs : List Int) : ByteArray := ⟨(zs.map fun n => UInt8.ofNat n.toNat).toArray⟩

def convertR (P : Program) (src dst : TypeId) (x : AV) : RM Res :=
  match P.underlying src, P.underlying dst with
  | some _, some (.int k) => (match x.num? with
     | some (k', lit, n) => bif lit then plain [] (.s (.ilit k (k.wrap n))) else bif isI64 k && !kindEq k' .u64 then plain [inI64 n] (.s (.int k n)) else plain [] (.s (.int k (k.wrap n)))
     | none => .fail "convert: no number")
  | some .string, some .string => (match x with
     | .s (.str s) => plain [] (.s (.str s))
     | _ => .fail "convert: no string")
  | some (.slice e), some .string => (match kindOf P e with
     | some .u8 => (match x with
        | .sub id off n => .look id fun
           | some (.own [.ints .u8 m ws] _) => plain [off + n ≤ m] (.s (.str (bytesStr ((ws.drop off).take n))))
           | _ => .fail "convert: no bytes"
        | _ => rowOf (.ints .u8) 1 x fun c _ => match c with
        | .ints .u8 zs => plain [] (.s (.str (bytesStr zs)))
        | _ => .fail "convert: no bytes")
     | _ => .fail "convert: no bytes")
  | _, _ => .fail "convert"

def strInts (s : ByteArray) : List Int := s.data.toList.map fun b => (b.toNat : Int)

/-- A text as bytes that nobody writes. -/
def toBytesR (P : Program) (src dst : TypeId) (x : AV) : RM Res :=
  match P.underlying src, P.underlying dst, x with
  | some .string, some (.slice e), .s (.str s) => (match kindOf P e with
     | some .u8 => plain [s.size ≤ 4294967296] (.s (.ro (.ints .u8 (strInts s))))
     | _ => .fail "convert: to bytes")
  | _, _, _ => .fail "convert: to bytes"

def isBytes (P : Program) (src dst : TypeId) : Bool :=
  match P.underlying src, P.underlying dst with
  | some .string, some (.slice _) => true
  | _, _ => false

/-- A row that stands still, as an array behind a pointer. -/
def arrayAtR (P : Program) (t : TypeId) (x : AV) : RM Res :=
  match P.underlying t, x with
  | some (.array n _), .s (.ro (.ints k zs)) => bif (1 : Nat).ble n then plain [n ≤ zs.length] (.eptr (.typ [.arr k n] [(zs.take n, ())]) 0 0) else .fail "array: none"
  | _, _ => .fail "array of a slice"

def nilCheckR (x : AV) : RM Res :=
  match x with
  | .ptr _ _ | .ptrx _ _ _ _ | .eptr _ _ _ | .fn _ _ | .s (.fn0 _) => plain [] x
  | _ => .fail "nilCheck"

def makeFuncR (fn : Fn) (first caps : List AV) : RM Res :=
  match fn, first, caps with
  | .func f, [], [] => plain [] (.s (.fn0 f))
  | .func f, [], c :: cs => plain [] (.fn f (c :: cs))
  | .func f, x :: xs, [] => plain [] (.fnb f (x :: xs))
  | _, _, _ => .fail "makeFunc"

/-! ### maps -/
def ckOf (P : Program) (t : TypeId) : Option CK :=
  match P.underlying t with
  | some (.int k) => some (.int k)
  | some .bool => some .bool
  | some .string => some .str
  | some (.array n e) => match P.underlying e with
    | some (.int k) => some (.arr k n)
    | _ => none
  | _ => none

def CK.plain : CK → Bool
  | .int _ | .bool | .str | .arr _ _ => true
  | _ => false

def zeroIs (P : Program) (t : TypeId) (ck : CK) : Bool := ck.plain &&
  match (P.info? t).bind (·.zero), ck with
  | some (.int k' 0), .int k => kindEq k' k
  | some (.bool false), .bool => true
  | some (.string s), .str => s.size.beq 0
  | some (.agg cs), .arr k n => zeroNums k cs.toList && cs.toList.length.beq n
  | _, _ => false

/-- An entry's value, as a slot has it. -/
def CK.av : (c : CK) → c.V → AV
  | .int k, v => .s (.int k v)
  | .bool, v => .s (.bool v)
  | .str, v => .s (.str v)
  | .arr k n, v => .ints k n v
  | _, _ => .s .junk

def CK.rdv : (c : CK) → AV → Option c.V
  | .int k, a => match a with
    | .s (.int k' x) | .s (.ilit k' x) => bif kindEq k k' then some x else none
    | _ => none
  | .bool, a => match a with
    | .s (.bool x) | .s (.blit x) => some x
    | _ => none
  | .str, a => match a with
    | .s (.str x) => some x
    | _ => none
  | .arr k n, a => match a with
    | .ints k' n' ws => bif kindEq k k' && n.beq n' then some ws else none
    | _ => none
  | _, _ => none

def isK64 (P : Program) (t : TypeId) : Bool :=
  match P.underlying t with
  | some (.int .i64) => true
  | _ => false

def lookupR (P : Program) (t : TypeId) (x i : AV) (ok : Bool) : RM Res :=
  match P.underlying t, x, i.num? with
  | some (.map kt et), .mapv id, some (k, _, n) => bif isK64 P kt && isI64 k then
      .look id fun
      | some (.map ck m) => bif zeroIs P et ck then
          plain [] (bif ok then .tup [ck.av ((mget m n).getD ck.d), .s (.bool (mhas m n))] else ck.av ((mget m n).getD ck.d)) else .fail "lookup: elements"
      | _ => .fail "lookup: no map"
      else .fail "lookup: keys"
  | _, _, _ => .fail "lookup"

def mapUpdateR (P : Program) (t : TypeId) (x i v : AV) : RM Res :=
  match P.underlying t, x, i.num? with
  | some (.map kt _), .mapv id, some (k, _, n) => bif isK64 P kt && isI64 k then
      .look id fun
      | some (.map ck m) => (match ck.rdv v with
        | some y => .ret ⟨[], [(id, .map ck (mput m n y))], [], fun _ => .tup []⟩
        | none => .fail "mapUpdate: elements")
      | _ => .fail "mapUpdate: no map"
      else .fail "mapUpdate: keys"
  | _, _, _ => .fail "mapUpdate"

def makeMapR (P : Program) (t : TypeId) (r : Option AV) : RM Res :=
  match P.underlying t, r with
  | some (.map _ et), none => (match ckOf P et with
    | some ck => .ret ⟨[], [], [.map ck []], fun id => .mapv id⟩
    | none => .fail "makeMap: elements")
  | _, _ => .fail "makeMap"

/-- Where a range stands. -/
def entryR (x : AV) : RM Res :=
  match x with
  | .ptr id 0 => .look id fun
    | some (.iter mid gid ck _ cur) => .look mid fun
      | some (.mapb _ _ gid') => bif gid.beq gid' && ck.plain then (match cur with
        | some p => plain [] (.tup [.s (.int .i64 p.1), ck.av p.2])
        | none => .fail "entry: no step") else .fail "entry: another one"
      | _ => .fail "entry: no map"
    | _ => .fail "entry: no range"
  | _ => .fail "entry"

/-! ### calls -/
abbrev Summ := FuncId → List AV → RM Res
/-- Summaries that may know where new objects begin. -/
abbrev SummB := Nat → Summ

def callable (P : Program) (f : FuncId) : Bool :=
  match P.funcs[f]? with
  | some fn => fn.body.isSome && !(fn.name == "runtime.NumGoroutine")
  | none => false

/-- The function that the model has for slices.overlaps. -/
def OvFn (P : Program) (f : FuncId) : Prop :=
  ∃ (fn : Func) (t e tR : TypeId) (size : Nat), P.funcs[f]? = some fn ∧ (fn.name == "runtime.NumGoroutine") = false ∧ fn.body.isNone = true ∧ Extern.findNext fn = none ∧ Extern.find fn = some (Extern.SlicesOverlaps.overlaps #[t, t] #[tR]) ∧
    P.underlying t = some (.slice e) ∧ szOf P e = some size

def ownRow : AV → Option Nat
  | .vec id => some id
  | .part id _ _ => some id
  | _ => none

def overlapsR (P : Program) (f : FuncId) (args : List AV) : RM Res :=
  match args with
  | [x, y] => match ownRow x, ownRow y with
    | some i, some j => bif i.beq j then .fail "call: no Go body" else
        .look i fun o => match o with
          | some (.vec c _) => .look j fun o => match o with
            | some (.vec d _) => bif (1 : Nat).ble c.size && (1 : Nat).ble d.size then plain [OvFn P f] (.s (.blit false)) else .fail "call: no Go body"
            | _ => .fail "call: no Go body"
          | _ => .fail "call: no Go body"
    | _, _ => .fail "call: no Go body"
  | _ => .fail "call: no Go body"

def callR (P : Program) (S : Summ) (f : FuncId) (args : List AV) : RM Res :=
  bif callable P f then S f args else overlapsR P f args

def srcType (P : Program) (t : TypeId) : Bool :=
  match P.underlying t with
  | some (.slice _) | some .string => true
  | _ => false

def builtinR (P : Program) (b : Builtin) (ts : List TypeId) (args : List AV) : RM Res :=
  match b, ts, args with
  | .len, t :: _, [x] => lenR P t x
  | .cap, t :: _, [x] => capR P t x
  | .append, [t, t'], [x, y] => bif srcType P t' then appendR P t x y else appendZR P t t' x y
  | .min, _, [x, y] => minR false x y
  | .max, _, [x, y] => minR true x y
  | .copy, [t, t'], [x, y] => bif srcType P t' then (bif isSub x then copyNR P t x y else copyR P t x y) else .fail "copy: what?"
  | .clear, t :: _, [x] => clearR P t x
  | _, _, _ => .fail "builtin"

def isEql : BinOp → Bool
  | .eql => true
  | _ => false

/-- A row against nil: unknown, but where it has something. -/
def nilR (P : Program) (op : BinOp) (t : TypeId) (x : AV) : RM Res :=
  match op with
  | .eql | .neq =>
    match P.underlying t with
    | some (.slice _) =>
      match x with
      | .s (.ro c) => plain [] (.s (.anyb c.n (isEql op)))
      | .emp => plain [] (.s (.anyb 0 (isEql op)))
      | .vec id => .look id fun o => match o with
        | some (.vec c _) => plain [] (.s (.anyb c.n (isEql op)))
        | _ => .fail "== nil: no row"
      | _ => .fail "== nil"
    | _ => .fail "== nil: the type"
  | _ => .fail "nil: what?"

/-- The nil slice as an empty row. -/
def relax : AV → AV
  | .s .nils => .emp
  | x => x

def isNils : AV → Bool
  | .s .nils => true
  | _ => false

/-- A value into an interface. -/
def ifcR (P : Program) (t : TypeId) (x : AV) : RM Res :=
  match P.underlying t, x with
  | some (.interface _), _ => .fail "interface: of an interface"
  | some _, .s (.int k n) => plain [] (.s (.ifi t k n))
  | some _, .s (.ilit k n) => plain [] (.s (.ifi t k n))
  | some _, .s (.str s) => plain [] (.s (.ifs t s))
  | some _, .s (.bool b) => plain [] (.s (.ifb t b))
  | some _, .s (.blit b) => plain [] (.s (.ifb t b))
  | _, _ => .fail "interface: of what?"


def opR0 (P : Program) (S : Summ) (ev : Operand → AV) (o : Oper) : RM Res :=
  match o.op with
  | .move x | .assign x => plain [] (ev x)
  | .pick c a b => orFail "pick" (pickR (ev c) (ev a) (ev b))
  | .alloc t => allocR P t
  | .box t x => boxR t (ev x)
  | .makeInterface t x => ifcR P t (ev x)
  | .build t ps => buildR P t (ps.toList.map fun p => (p.1, ev p.2))
  | .buildSlice t n ps => buildSliceR P t n (ps.toList.map fun p => (p.1, ev p.2))
  | .load t a => loadR P t (ev a)
  | .store t a x => storeR P t (ev a) (ev x)
  | .nilCheck x => nilCheckR (ev x)
  | .binOp op t x y _ => orFail "binOp" (binR P op t (ev x) (ev y))
  | .unOp op _ x => orFail "unOp" (unR op (ev x))
  | .convert a b x => bif isBytes P a b then toBytesR P a b (ev x) else convertR P a b (ev x)
  | .sliceToArrayPointer t x => arrayAtR P t (ev x)
  | .entry x => entryR (ev x)
  | .makeFunc fn a b => makeFuncR fn (a.toList.map ev) (b.toList.map ev)
  | .slice t x l h m => sliceR P t (ev x) (l.map ev) (h.map ev) (m.map ev)
  | .fieldAddr t x f => fieldAddrR P t (ev x) f
  | .field t x f => fieldR P t (ev x) f
  | .indexAddr t x i => indexAddrR P t (ev x) (ev i)
  | .index t x i => indexR P t (ev x) (ev i)
  | .extract x i => extractR (ev x) i
  | .lookup t x i ok => lookupR P t (ev x) (ev i) ok
  | .mapUpdate t x i v | .insert t x i v => mapUpdateR P t (ev x) (ev i) (ev v)
  | .makeMap t r => makeMapR P t (r.map ev)
  | .makeSlice t l c => makeSliceR P t (ev l) (ev c)
  | .call c => match c.callee with
    | .value f => match ev f with
      | .s (.fn0 f) => callR P S f (c.args.toList.map ev)
      | .fn f caps => callR P S f (c.args.toList.map ev ++ caps)
      | .fnb f first => callR P S f (first ++ c.args.toList.map ev)
      | _ => .fail "call: what?"
    | .builtin b => builtinR P b c.argTypes.toList (c.args.toList.map ev)
    | _ => .fail "call: invoke"
  | _ => .fail "op"

def isCapV : AV → Bool
  | .s (.capge _) | .s (.caplt _) => true
  | _ => false

/-- A number against a capacity. -/
def capCmpR (op : BinOp) (x y : AV) : RM Res :=
  match op, x.num?, y with
  | .gtr, some (.i64, _, a), .s (.capge b) => plain [a ≤ (b : Int)] (.s (.blit false))
  | .gtr, some (.i64, _, a), .s (.caplt b) => plain [(b : Int) ≤ a] (.s (.blit true))
  | _, _, _ => .fail "cap: compared"

/-- The same, with one object gone. -/
def RM.hide {α : Type} (id : Nat) : RM α → RM α
  | .ret a => .ret a
  | .look j k => bif j.beq id then (k (some .dead)).hide id else .look j fun o => (k o).hide id
  | .fail w => .fail w

/-- .. and it is gone behind it. -/
def RM.addDead (id : Nat) : RM Res → RM Res
  | .ret q => .ret { q with up := (id, .dead) :: q.up }
  | .look j k => .look j fun o => (k o).addDead id
  | .fail w => .fail w

def frzEv (id : Nat) (c : Con) (ev : Operand → AV) : Operand → AV := fun x => match ev x with
  | .vec j => bif j.beq id then .s (.ro c) else .vec j
  | a => a

/-- Own rows that are given up by an operation that they are put into. -/
def giveUp : List Nat → (Operand → AV) → ((Operand → AV) → RM Res) → RM Res
  | [], ev, k => k ev
  | id :: ids, ev, k => .look id fun o => match o with
    | some (.vec c _) => ((giveUp ids (frzEv id c ev) k).hide id).addDead id
    | _ => .fail "give up: no row"

def ownParts (ev : Operand → AV) (ps : List (Nat × Operand)) : List Nat := ps.filterMap fun p => match ev p.2 with
  | .vec j => some j
  | _ => none

def opR (P : Program) (S : Summ) (ev : Operand → AV) (o : Oper) : RM Res :=
  match o.op with
  | .binOp op t x y _ => bif isNils (ev y) then nilR P op t (relax (ev x)) else bif isCapV (ev y) then capCmpR op (relax (ev x)) (ev y) else orFail "binOp" (binR P op t (relax (ev x)) (ev y))
  | .buildSlice _ _ ps => giveUp (ownParts ev ps.toList) (fun x => relax (ev x)) fun ev => opR0 P S ev o
  | _ => opR0 P S (fun x => relax (ev x)) o

end Go.Sx

/-! What the executor's plain operations answer is what the model's run gives. -/
namespace Go.Sx
open Go

def Needs : List Prop → Prop
  | [] => True
  | p :: ps => p ∧ Needs ps

theorem kindEq_eq {k k' : IntKind} (h : kindEq k k' = true) : k = k' := by
  cases k <;> cases k' <;> first | rfl | (simp [kindEq] at h)

theorem isI64_eq {k : IntKind} (h : isI64 k = true) : k = .i64 := by
  cases k <;> first | rfl | (simp [isI64] at h)

theorem wrap_i64_in {n : Int} (h : inI64 n) : IntKind.i64.wrap n = n := by
  obtain ⟨h1, h2⟩ := h
  rw [IntKind.wrap_i64]
  omega

section
variable {ρ : Nat → Value} {H : AHeap} {O : Nat → Prop} {w : World} {P : Program}

theorem DenV_s {x : SV} {v : Value} (h : DenS O w x v) : DenV ρ H O w (.s x) v := by
  cases x <;> unfold DenV <;> first | trivial | exact h

theorem DenS_of_V {x : SV} {v : Value} (hx : x ≠ .junk) (h : DenV ρ H O w (.s x) v) : DenS O w x v := by
  cases x <;> unfold DenV at h <;> first | exact (hx rfl).elim | exact h

theorem num_den {x : AV} {v : Value} {k : IntKind} {l : Bool} {n : Int} (h : x.num? = some (k, l, n)) (hd : DenV ρ H O w x v) : v = .int k n := by
  cases x with
  | s x =>
    cases x <;> simp only [AV.num?, Option.some.injEq, Prod.mk.injEq, reduceCtorEq] at h
    all_goals
      obtain ⟨rfl, -, rfl⟩ := h
      have := DenS_of_V (by simp) hd
      cases this
      rfl
  | _ => simp [AV.num?] at h

theorem truth_den {x : AV} {v : Value} {l b : Bool} (h : x.truth? = some (l, b)) (hd : DenV ρ H O w x v) : v = .bool b := by
  cases x with
  | s x =>
    cases x <;> simp only [AV.truth?, Option.some.injEq, Prod.mk.injEq, reduceCtorEq] at h
    all_goals
      obtain ⟨-, rfl⟩ := h
      have := DenS_of_V (by simp) hd
      cases this
      rfl
  | _ => simp [AV.truth?] at h

theorem str_den {s : ByteArray} {v : Value} (hd : DenV ρ H O w (.s (.str s)) v) : v = .string s := by
  have := DenS_of_V (by simp) hd
  cases this
  rfl

theorem mkInt_den (l : Bool) (k : IntKind) (n : Int) : DenV ρ H O w (mkInt l k n) (.int k n) := by
  unfold mkInt
  cases l
  · exact DenV_s (.int k n)
  · exact DenV_s (.ilit k n)

theorem mkBool_den (l : Bool) (b : Bool) : DenV ρ H O w (mkBool l b) (.bool b) := by
  unfold mkBool
  cases l
  · exact DenV_s (.bool b)
  · exact DenV_s (.blit b)

theorem arith_den {l : Bool} {k : IntKind} {n : Int} (h : Needs (arithR l k n).1) : DenV ρ H O w (arithR l k n).2 (.int k (k.wrap n)) := by
  unfold arithR at *
  cases l
  · cases hk : isI64 k
    · exact DenV_s (.int _ _)
    · simp only [hk, cond_true, cond_false, Needs, and_true] at h ⊢
      obtain rfl := isI64_eq hk
      rw [wrap_i64_in h]
      exact DenV_s (.int _ _)
  · exact DenV_s (.ilit _ _)

theorem eqGuard_int (op : BinOp) (t : TypeId) (x y : Operand) (k k' : IntKind) (a b : Int) : (eqGuard op t x y (.int k a) (.int k' b)).run P w = .ok () w := by
  cases op <;> simp [eqGuard]
theorem eqGuard_str (op : BinOp) (t : TypeId) (x y : Operand) (a b : ByteArray) : (eqGuard op t x y (.string a) (.string b)).run P w = .ok () w := by
  cases op <;> simp [eqGuard]
theorem eqGuard_bool (op : BinOp) (t : TypeId) (x y : Operand) (a b : Bool) : (eqGuard op t x y (.bool a) (.bool b)).run P w = .ok () w := by
  cases op <;> simp [eqGuard]
theorem eqGuard_ptr (op : BinOp) (t : TypeId) (x y : Operand) (a b : Option Addr) : (eqGuard op t x y (.pointer a) (.pointer b)).run P w = .ok () w := by
  cases op <;> simp [eqGuard]


theorem quo_den {l : Bool} {k : IntKind} {x y : Int} {q : List Prop × AV}
    (h : (bif l then ([y ≠ 0], AV.s (.ilit k (k.wrap (x.tdiv y)))) else bif isI64 k then ([y ≠ 0, inI64 (x.tdiv y)], .s (.int k (x.tdiv y))) else ([y ≠ 0], .s (.int k (k.wrap (x.tdiv y))))) = q)
    (hn : Needs q.1) : y ≠ 0 ∧ DenV ρ H O w q.2 (.int k (k.wrap (x.tdiv y))) := by
  subst h
  cases l
  · cases hk : isI64 k
    · simp only [hk, cond_false, Needs, and_true] at hn ⊢
      exact ⟨hn, DenV_s (.int _ _)⟩
    · simp only [hk, cond_true, cond_false, Needs, and_true] at hn ⊢
      obtain rfl := isI64_eq hk
      rw [wrap_i64_in hn.2]
      exact ⟨hn.1, DenV_s (.int _ _)⟩
  · simp only [cond_true, Needs, and_true] at hn ⊢
    exact ⟨hn, DenV_s (.ilit _ _)⟩

theorem intBin_ok {op : BinOp} {t : TypeId} {k : IntKind} {lx ly : Bool} {x y : Int} {q : List Prop × AV} (h : intBin op k lx ly x y = some q) (hn : Needs q.1) :
    ∃ v, (binOp op t (.int k x) (.int k y)).run P w = .ok v w ∧ DenV ρ H O w q.2 v := by
  cases op <;> simp only [intBin, Option.some.injEq, reduceCtorEq] at h
  case add => subst h; exact ⟨_, by simp [binOp, Op.intArith], arith_den hn⟩
  case sub => subst h; exact ⟨_, by simp [binOp, Op.intArith], arith_den hn⟩
  case mul => subst h; exact ⟨_, by simp [binOp, Op.intArith], arith_den hn⟩
  case quo =>
    obtain ⟨h0, hd⟩ := quo_den (ρ := ρ) (H := H) (O := O) (w := w) h hn
    exact ⟨_, by simp [binOp, Op.intDiv, h0], hd⟩
  case rem =>
    subst h
    have h0 : y ≠ 0 := by simpa [Needs] using hn
    exact ⟨_, by simp [binOp, Op.intDiv, h0], mkInt_den _ _ _⟩
  case and => subst h; exact ⟨.int k (bitop .and k x y), by simp [binOp, Op.intBits, bitop], mkInt_den _ _ _⟩
  case or => subst h; exact ⟨.int k (bitop .or k x y), by simp [binOp, Op.intBits, bitop], mkInt_den _ _ _⟩
  case xor => subst h; exact ⟨.int k (bitop .xor k x y), by simp [binOp, Op.intBits, bitop], mkInt_den _ _ _⟩
  case andNot => subst h; exact ⟨.int k (bitop .andNot k x y), by simp [binOp, Op.intBits, bitop], mkInt_den _ _ _⟩
  all_goals subst h; exact ⟨_, by simp [binOp, Op.intCmp], mkBool_den _ _⟩

theorem shiftR_ok {op : BinOp} {t : TypeId} {k k' : IntKind} {l : Bool} {x y : Int} {q : List Prop × AV} (h : shiftR op k l x y = some q) (hn : Needs q.1) :
    ∃ v, (binOp op t (.int k x) (.int k' y)).run P w = .ok v w ∧ DenV ρ H O w q.2 v := by
  cases op <;> simp only [shiftR, Option.some.injEq, reduceCtorEq] at h
  all_goals
    subst h
    have h0 : 0 ≤ y := by simpa [Needs] using hn
    exact ⟨_, by simp [binOp, Op.shift, Int.not_lt.2 h0], mkInt_den _ _ _⟩

theorem str_eq (a b : ByteArray) : (a.toList == b.toList) = decide (a = b) := by
  rw [ByteArray.toList_eq, ByteArray.toList_eq, Bool.eq_iff_iff]
  simp only [beq_iff_eq, decide_eq_true_eq]
  constructor
  · intro h
    cases a; cases b
    simp only [ByteArray.mk.injEq] at *
    exact Array.toList_inj.1 h
  · rintro rfl; rfl

theorem strBin_ok {op : BinOp} {t : TypeId} {x y : ByteArray} {q : List Prop × AV} (h : strBin op x y = some q) (hn : Needs q.1) :
    ∃ v, (binOp op t (.string x) (.string y)).run P w = .ok v w ∧ DenV ρ H O w q.2 v := by
  cases op <;> simp only [strBin, Option.some.injEq, reduceCtorEq] at h
  case add =>
    subst h
    have h0 : x.size + y.size ≤ 4611686018427387904 := by simpa [Needs] using hn
    exact ⟨.string (x ++ y), by simp [binOp, Op.stringOp]; omega, DenV_s (.str _)⟩
  all_goals subst h; exact ⟨_, by simp only [binOp, Op.stringOp, str_eq]; rfl, by first | exact DenV_s (.bool _) | (simp only [slt, ByteArray.toList_eq]; exact DenV_s (.bool _))⟩

theorem unR_ok {op : UnOp} {x : AV} {vx : Value} {q : List Prop × AV} (h : unR op x = some q) (hn : Needs q.1) (hx : DenV ρ H O w x vx) :
    ∃ v, (Op.unary op vx).run P w = .ok v w ∧ DenV ρ H O w q.2 v := by
  unfold unR at h
  split at h <;> simp only [Option.some.injEq, reduceCtorEq] at h <;> subst h
  · have h1 := DenS_of_V (by simp) hx
    cases h1
    exact ⟨_, by simp only [Op.unary, Sem.run_pure], DenV_s (.bool _)⟩
  · have h1 := DenS_of_V (by simp) hx
    cases h1
    exact ⟨_, by simp only [Op.unary, Sem.run_pure], DenV_s (.blit _)⟩
  · rename_i n e
    have h1 := DenS_of_V (by simp) hx
    cases h1
    rename_i b hp
    exact ⟨_, by simp only [Op.unary, Sem.run_pure], DenV_s (.anyb n (!e) (!b) (fun h => hp (by revert h; cases b <;> cases e <;> decide)))⟩
  · have h1 := DenS_of_V (by simp) hx
    cases h1
    exact ⟨_, by simp only [Op.unary, Op.intArith, Sem.run_pure], arith_den hn⟩
  · have h1 := DenS_of_V (by simp) hx
    cases h1
    exact ⟨_, by simp only [Op.unary, Op.intArith, Sem.run_pure], arith_den hn⟩

theorem pickR_ok {c a b : AV} {vc va vb : Value} {q : List Prop × AV} (h : pickR c a b = some q) (hc : DenV ρ H O w c vc) (ha : DenV ρ H O w a va) (hb : DenV ρ H O w b vb) :
    ∃ t, vc = .bool t ∧ DenV ρ H O w q.2 (if t then va else vb) := by
  unfold pickR at h
  split at h
  · simp only [Option.some.injEq] at h
    subst h
    have h1 := DenS_of_V (by simp) hc
    cases h1
    exact ⟨true, rfl, ha⟩
  · simp only [Option.some.injEq] at h
    subst h
    have h1 := DenS_of_V (by simp) hc
    cases h1
    exact ⟨false, rfl, hb⟩
  · rename_i t
    have h1 := DenS_of_V (by simp) hc
    cases h1
    refine ⟨t, rfl, ?_⟩
    split at h
    · rename_i la x lb y h2 h3
      simp only [Option.some.injEq] at h
      subst h
      obtain rfl := truth_den h2 ha
      obtain rfl := truth_den h3 hb
      cases t
      · exact DenV_s (.bool _)
      · exact DenV_s (.bool _)
    · split at h
      · rename_i k la x k' lb y h2 h3
        rw [Bool.cond_eq_ite] at h
        split at h
        · rename_i hk
          obtain rfl := kindEq_eq hk
          simp only [Option.some.injEq] at h
          subst h
          obtain rfl := num_den h2 ha
          obtain rfl := num_den h3 hb
          cases t
          · exact DenV_s (.int _ _)
          · exact DenV_s (.int _ _)
        · cases h
      · cases h
  · cases h
end
end Go.Sx

/-! The state: own objects in memory. -/
namespace Go.Sx
open Go

/-- A row's block: nothing frozen, each cell a value of one cell. -/
def unmO (fr : Nat × Nat) (cells : List Value) : Prop := (∀ off, off ≤ cells.length → ¬ (fr.1 ≤ off ∧ off < fr.2)) ∧ ∀ u ∈ cells, u.oneCell' = true
def unm (fr : Nat × Nat) (n : Nat) : Prop := ∀ off, off < n → ¬ (fr.1 ≤ off ∧ off < fr.2)
theorem unmO.unm {fr : Nat × Nat} {cells : List Value} (h : unmO fr cells) : unm fr cells.length := fun off ho => h.1 off (Nat.le_of_lt ho)
theorem unmO.over {fr : Nat × Nat} {cells news : List Value} {k : Nat} (h : unmO fr cells) (hn : ∀ v ∈ news, v.oneCell' = true) (hl : k + news.length ≤ cells.length) : unmO fr (cells.take k ++ news ++ cells.drop (k + news.length)) := by
  refine ⟨fun off ho => h.1 off ?_, fun u hu => ?_⟩
  · simp only [List.length_append, List.length_take, List.length_drop] at ho; omega
  · simp only [List.mem_append] at hu
    rcases hu with (hu | hu) | hu
    · exact h.2 u (List.mem_of_mem_take hu)
    · exact hn u hu
    · exact h.2 u (List.mem_of_mem_drop hu)

/-- An entry's value. -/
def CK.val : (c : CK) → c.V → Value
  | .int k, v => .int k v
  | .bool, v => .bool v
  | .str, v => .string v
  | .arr k _, v => .agg (List.map (α := Int) (Value.int k) v).toArray
  | _, _ => undef

def CK.fits : (c : CK) → c.V → Prop
  | .arr _ n, v => List.length (α := Int) v = n
  | _, _ => True

/-- What a map's entries are, in the row in which they came. -/
structure MapIs (ck : CK) (m : List (Int × ck.V)) (es : List MapEntry) (clock : Nat) : Prop where
  eq : es.map (fun e => (e.key, e.val)) = m.map (fun p => (Value.int .i64 p.1, ck.val p.2))
  keys : (m.map (·.1)).Nodup
  borns : (es.map (·.born)).Nodup
  old : ∀ e ∈ es, e.born < clock
  fits : ∀ p ∈ m, ck.fits p.2

/-- A map's entries, with their stamps, as one value (a range's ghost bears it). -/
def encM (es : Array MapEntry) (clock : Nat) : Value := .tuple #[.int .i64 clock, .tuple (es.map fun e => .tuple #[e.key, e.val, .int .i64 (e.born : Int)])]

/-- What is left of a range over a map. -/
structure IterIs (ck : CK) (left : List (Int × ck.V)) (cur : Option (Int × ck.V)) (es : Array MapEntry) (clock : Nat) (seen : Array Nat) : Prop where
  eq : (es.toList.filter fun e => !seen.contains e.born).map (fun e => (e.key, e.val)) = left.map (fun p => (.int .i64 p.1, ck.val p.2))
  fits : ∀ p ∈ left, ck.fits p.2
  borns : (es.toList.map (·.born)).Nodup
  old : ∀ e ∈ es.toList, e.born < clock
  cur : ∀ p, cur = some p → ck.fits p.2 ∧ ∃ e, e ∈ es.toList ∧ seen.back? = some e.born ∧ e.key = .int .i64 p.1 ∧ e.val = ck.val p.2

def ObjSat (ρ : Nat → Value) (H : AHeap) (O : Nat → Prop) (w : World) (root : Value) : AObj → Prop
  | .dead => True
  | .map ck m => ∃ (b : Nat) (es : Array MapEntry) (clock : Nat), root = .map (some b) ∧ w.heap[b]? = some (.map es clock) ∧ MapIs ck m es.toList clock
  | .mapb ck m gid => ∃ (b : Nat) (es : Array MapEntry) (clock : Nat), root = .map (some b) ∧ w.heap[b]? = some (.map es clock) ∧ MapIs ck m es.toList clock ∧ ρ gid = encM es clock ∧ (H gid).isSome = true
  | .iter mid gid ck left cur => ∃ (b mb : Nat) (es : Array MapEntry) (clock : Nat) (seen : Array Nat), root = .pointer (some ⟨b, 0, none⟩) ∧ w.heap[b]? = some (.mapIter (some mb) clock seen clock) ∧ IterIs ck left cur es clock seen ∧
      ρ gid = encM es clock ∧ (H gid).isSome = true ∧ ρ mid = .map (some mb) ∧ (H mid).isSome = true
  | .own segs e => ∃ (b : Nat) (cells : List Value) (fr : Nat × Nat), root = .pointer (some ⟨b, 0, none⟩) ∧ w.heap[b]? = some (.cells cells.toArray e fr) ∧ unm fr cells.length ∧ DenSegs ρ H O w segs cells
  | .vec c e => ∃ (a : Option Addr) (cap : Nat), root = .slice a c.n cap ∧ c.n ≤ cap ∧ cap ≤ maxLen ∧ (cap = 0 ∨
      ∃ (b o : Nat) (cells : List Value) (fr : Nat × Nat) (us : Nat → Nat → Value), a = some ⟨b, o, none⟩ ∧ w.heap[b]? = some (.cells cells.toArray e fr) ∧ unmO fr cells ∧ o + cap * c.size ≤ cells.length ∧
        ∀ i j, i < c.n → j < c.size → cells[o + i * c.size + j]? = some (us i j) ∧ DenS O w (c.cell i j) (us i j))

structure Sat (ρ : Nat → Value) (H : AHeap) (G : Nat → Prop) (w : World) : Prop where
  obj : ∀ id o, H id = some o → ObjSat ρ H (Hot ρ H G) w (ρ id) o
  inj : ∀ i j oi oj b, H i = some oi → H j = some oj → oi.alive = true → oj.alive = true → blk (ρ i) = some b → blk (ρ j) = some b → i = j
  apart : ∀ b, Own ρ H b → ¬ G b
  low : ∀ b, G b → b < w.heap.size

/-- What no run of the body touches: all that is not own. -/
structure Frm (ρ : Nat → Value) (H : AHeap) (w w' : World) : Prop where
  os : w'.os = w.os
  tape : w'.tape = w.tape
  output : w'.output = w.output
  heap : ∀ b, b < w.heap.size → ¬ Own ρ H b → w'.heap[b]? = w.heap[b]?

def Good (ρ : Nat → Value) (H : AHeap) (G : Nat → Prop) (w : World) (H' : AHeap) (r : AV) (v : Value) (w' : World) : Prop :=
  ∃ ρ', Sat ρ' H' G w' ∧ DenV ρ' H' (Hot ρ' H' G) w' r v ∧ Step ρ H (Hot ρ H G) w ρ' H' (Hot ρ' H' G) w' ∧ Frm ρ H w w'

section
variable {ρ ρ' : Nat → Value} {H H' : AHeap} {G O O' : Nat → Prop} {w w' : World} {P : Program}

theorem ObjSat.step (st : Step ρ H O w ρ' H' O' w') {root : Value} {o : AObj} (h : ObjSat ρ H O w root o) (hb : ∀ b, o.alive = true → blk root = some b → w'.heap[b]? = w.heap[b]?) :
    ObjSat ρ' H' O' w' root o := by
  cases o with
  | dead => trivial
  | map ck m =>
    obtain ⟨b, es, clock, rfl, h1, h2⟩ := h
    exact ⟨b, es, clock, rfl, by rw [hb b rfl rfl]; exact h1, h2⟩
  | mapb ck m gid =>
    obtain ⟨b, es, clock, rfl, h1, h2, h3, h4⟩ := h
    obtain ⟨o, ho⟩ := Option.isSome_iff_exists.1 h4
    obtain ⟨o', ho', _⟩ := st.keep gid o ho
    exact ⟨b, es, clock, rfl, by rw [hb b rfl rfl]; exact h1, h2, by rw [st.rho gid o ho]; exact h3, by rw [ho']; rfl⟩
  | iter mid gid ck left cur =>
    obtain ⟨b, mb, es, clock, seen, rfl, h1, h2, h3, h4, h5, h6⟩ := h
    obtain ⟨o, ho⟩ := Option.isSome_iff_exists.1 h4
    obtain ⟨o', ho', _⟩ := st.keep gid o ho
    obtain ⟨p, hp⟩ := Option.isSome_iff_exists.1 h6
    obtain ⟨p', hp', _⟩ := st.keep mid p hp
    exact ⟨b, mb, es, clock, seen, rfl, by rw [hb b rfl rfl]; exact h1, h2, by rw [st.rho gid o ho]; exact h3, by rw [ho']; rfl, by rw [st.rho mid p hp]; exact h5, by rw [hp']; rfl⟩
  | own segs e =>
    obtain ⟨b, cells, fr, rfl, h1, h2, h3⟩ := h
    exact ⟨b, cells, fr, rfl, by rw [hb b rfl rfl]; exact h1, h2, h3.step st⟩
  | vec c e =>
    obtain ⟨a, cap, rfl, h1, h2, h3⟩ := h
    refine ⟨a, cap, rfl, h1, h2, ?_⟩
    rcases h3 with h3 | ⟨b, o, cells, fr, us, rfl, h4, h5, h6, h7⟩
    · exact .inl h3
    · by_cases hc : cap = 0
      · exact .inl hc
      · refine .inr ⟨b, o, cells, fr, us, rfl, by rw [hb b rfl (by simp [blk, hc])]; exact h4, h5, h6, fun i j hi hj => ?_⟩
        obtain ⟨h8, h9⟩ := h7 i j hi hj
        exact ⟨h8, h9.step st.hot st.heap st.size⟩

theorem Good.val (hs : Sat ρ H G w) {r : AV} {v : Value} (h : DenV ρ H (Hot ρ H G) w r v) : Good ρ H G w H r v w :=
  ⟨ρ, hs, h, Step.refl _ _ _ _, rfl, rfl, rfl, fun _ _ _ => rfl⟩

theorem own_lt (hs : Sat ρ H G w) {b : Nat} (h : Own ρ H b) : b < w.heap.size := by
  obtain ⟨id, o, ho, ha, hb⟩ := h
  have hobj := hs.obj id o ho
  cases o with
  | dead => simp [AObj.alive] at ha
  | map ck m =>
    obtain ⟨b', es, clock, h0, h1, _⟩ := hobj
    rw [h0] at hb
    simp only [blk, Option.some.injEq] at hb
    subst hb
    exact (Array.getElem?_eq_some_iff.1 h1).1
  | mapb ck m gid =>
    obtain ⟨b', es, clock, h0, h1, _⟩ := hobj
    rw [h0] at hb
    simp only [blk, Option.some.injEq] at hb
    subst hb
    exact (Array.getElem?_eq_some_iff.1 h1).1
  | iter mid gid ck left cur =>
    obtain ⟨b', mb, es, clock, seen, h0, h1, _⟩ := hobj
    rw [h0] at hb
    simp only [blk, Option.some.injEq] at hb
    subst hb
    exact (Array.getElem?_eq_some_iff.1 h1).1
  | own segs e =>
    obtain ⟨b', cells, fr, h0, h1, _⟩ := hobj
    rw [h0] at hb
    simp only [blk, Option.some.injEq] at hb
    subst hb
    exact (Array.getElem?_eq_some_iff.1 h1).1
  | vec c e =>
    obtain ⟨a, cap, h0, h1, _, h3⟩ := hobj
    rw [h0] at hb
    rcases h3 with rfl | ⟨b', o, cells, fr, us, rfl, h4, _⟩
    · cases a <;> simp [blk] at hb
    · simp only [blk] at hb
      split at hb
      · cases hb
      · simp only [Option.some.injEq] at hb
        subst hb
        exact (Array.getElem?_eq_some_iff.1 h4).1

theorem hot_lt (hs : Sat ρ H G w) {b : Nat} (h : Hot ρ H G b) : b < w.heap.size := h.elim (own_lt hs) (hs.low b)

/-! ### parts and cells -/
theorem DenC_wide : ∀ (x : AV) (cs : List Value), DenC ρ H O w x cs → cs.length = x.wide := by
  intro x cs h
  cases x <;> unfold DenC at h
  case ints k n ws => obtain ⟨h1, rfl⟩ := h; simp [AV.wide, h1]
  case agg => exact h.elim
  case tup => exact h.elim
  all_goals (obtain ⟨u, rfl, _⟩ := h; rfl)

theorem DenSegs_nil {cs : List Value} : DenSegs ρ H O w [] cs ↔ cs = [] := by unfold DenSegs; exact Iff.rfl
theorem DenSegs_cons {a : AV} {azs : List AV} {cs : List Value} : DenSegs ρ H O w (a :: azs) cs ↔ ∃ c1 c2, cs = c1 ++ c2 ∧ DenC ρ H O w a c1 ∧ DenSegs ρ H O w azs c2 := by
  rw [DenSegs]
theorem DenL_nil {cs : List Value} : DenL ρ H O w [] cs ↔ cs = [] := by unfold DenL; exact Iff.rfl
theorem DenL_cons {a : AV} {azs : List AV} {cs : List Value} : DenL ρ H O w (a :: azs) cs ↔ ∃ v rest, cs = v :: rest ∧ DenV ρ H O w a v ∧ DenL ρ H O w azs rest := by
  rw [DenL]

theorem DenSegs_append {azs bs : List AV} : ∀ {cs : List Value}, DenSegs ρ H O w (azs ++ bs) cs ↔ ∃ c1 c2, cs = c1 ++ c2 ∧ DenSegs ρ H O w azs c1 ∧ DenSegs ρ H O w bs c2 := by
  induction azs with
  | nil =>
    intro cs
    simp only [List.nil_append, DenSegs_nil]
    exact ⟨fun h => ⟨[], cs, rfl, rfl, h⟩, fun ⟨c1, c2, h1, h2, h3⟩ => by subst h2; subst h1; exact h3⟩
  | cons a azs ih =>
    intro cs
    simp only [List.cons_append, DenSegs_cons, ih]
    constructor
    · rintro ⟨c1, c2, rfl, h1, c3, c4, rfl, h2, h3⟩
      exact ⟨c1 ++ c3, c4, by simp, ⟨c1, c3, rfl, h1, h2⟩, h3⟩
    · rintro ⟨c1, c2, rfl, ⟨c3, c4, rfl, h1, h2⟩, h3⟩
      exact ⟨c3, c4 ++ c2, by simp, h1, c4, c2, rfl, h2, h3⟩

theorem DenSegs_len : ∀ {azs : List AV} {cs : List Value}, DenSegs ρ H O w azs cs → cs.length = wides azs
  | [], cs, h => by rw [DenSegs_nil.1 h]; rfl
  | a :: azs, cs, h => by
    obtain ⟨c1, c2, rfl, h1, h2⟩ := DenSegs_cons.1 h
    simp [wides, DenC_wide a c1 h1, DenSegs_len h2]

theorem dropSegs_ok : ∀ (segs : List AV) (n : Nat) {cs : List Value} {ss : List AV}, dropSegs segs n = some ss → DenSegs ρ H O w segs cs → n ≤ cs.length ∧ DenSegs ρ H O w ss (cs.drop n)
  | segs, 0, cs, ss, h, hd => by
    cases segs <;> (simp only [dropSegs, Option.some.injEq] at h; subst h; exact ⟨Nat.zero_le _, by simpa using hd⟩)
  | [], n + 1, cs, ss, h, hd => by simp [dropSegs] at h
  | a :: azs, n + 1, cs, ss, h, hd => by
    obtain ⟨c1, c2, rfl, h1, h2⟩ := DenSegs_cons.1 hd
    simp only [dropSegs, Bool.cond_eq_ite] at h
    split at h
    · rename_i hw
      have hw := Nat.le_of_ble_eq_true hw
      obtain ⟨h3, h4⟩ := dropSegs_ok azs _ h h2
      have hl := DenC_wide a c1 h1
      refine ⟨by simp; omega, ?_⟩
      rw [List.drop_append]
      have e1 : c1.drop (n + 1) = [] := List.drop_eq_nil_of_le (by omega)
      rw [e1, List.nil_append, hl]
      exact h4
    · cases h

theorem takeSegs_ok : ∀ (segs : List AV) (n : Nat) {cs : List Value} {ss : List AV}, takeSegs segs n = some ss → DenSegs ρ H O w segs cs → n ≤ cs.length ∧ DenSegs ρ H O w ss (cs.take n)
  | segs, 0, cs, ss, h, hd => by
    cases segs <;> (simp only [takeSegs, Option.some.injEq] at h; subst h; exact ⟨Nat.zero_le _, by simp [DenSegs_nil]⟩)
  | [], n + 1, cs, ss, h, hd => by simp [takeSegs] at h
  | a :: azs, n + 1, cs, ss, h, hd => by
    obtain ⟨c1, c2, rfl, h1, h2⟩ := DenSegs_cons.1 hd
    simp only [takeSegs, Bool.cond_eq_ite] at h
    split at h
    · rename_i hw
      simp only [Bool.and_eq_true] at hw
      have hw1 := Nat.le_of_ble_eq_true hw.1
      have hw2 := Nat.le_of_ble_eq_true hw.2
      simp only [Option.map_eq_some_iff] at h
      obtain ⟨ss', h3, rfl⟩ := h
      obtain ⟨h4, h5⟩ := takeSegs_ok azs _ h3 h2
      have hl := DenC_wide a c1 h1
      refine ⟨by simp; omega, DenSegs_cons.2 ⟨c1, c2.take (n + 1 - a.wide), ?_, h1, h5⟩⟩
      rw [List.take_append, hl, List.take_of_length_le (by omega)]
    · cases h

theorem DenC_single {a : AV} {cs : List Value} (h : DenC ρ H O w a cs) (ha : a.wide = 1) (hi : ∀ k n ws, a ≠ .ints k n ws) : ∃ u, cs = [u] ∧ u.oneCell' = true ∧ DenV ρ H O w a u := by
  cases a <;> unfold DenC at h
  case ints k n ws => exact (hi k n ws rfl).elim
  case agg => exact h.elim
  case tup => exact h.elim
  case mapv id => obtain ⟨u, rfl, h1⟩ := h; exact ⟨u, rfl, by unfold Den1 at h1; obtain ⟨b, _, rfl, _⟩ := h1; rfl, by unfold DenV; exact h1⟩
  case tag id => obtain ⟨u, rfl, h1⟩ := h; exact ⟨u, rfl, by unfold Den1 at h1; exact h1.2.1, by unfold DenV; exact h1⟩
  case s x => obtain ⟨u, rfl, h1⟩ := h; exact ⟨u, rfl, h1.one, DenV_s h1⟩
  case ptr id off => obtain ⟨u, rfl, h1⟩ := h; exact ⟨u, rfl, by unfold Den1 at h1; obtain ⟨b, _, rfl, _⟩ := h1; rfl, by unfold DenV; exact h1⟩
  case ptrx id off n i => obtain ⟨u, rfl, h1⟩ := h; exact ⟨u, rfl, by unfold Den1 at h1; obtain ⟨_, b, _, rfl, _⟩ := h1; rfl, by unfold DenV; exact h1⟩
  case eptr c m j => obtain ⟨u, rfl, h1⟩ := h; exact ⟨u, rfl, by unfold Den1 at h1; obtain ⟨b, o, us, rfl, _⟩ := h1; rfl, by unfold DenV; exact h1⟩
  case vec id => obtain ⟨u, rfl, h1⟩ := h; exact ⟨u, rfl, by unfold Den1 at h1; exact h1.1, by unfold DenV; exact h1⟩
  case vptr id i j => obtain ⟨u, rfl, h1⟩ := h; exact ⟨u, rfl, by unfold Den1 at h1; exact h1.1, by unfold DenV; exact h1⟩
  case part id lo n => obtain ⟨u, rfl, h1⟩ := h; exact ⟨u, rfl, by unfold Den1 at h1; exact h1.1, by unfold DenV; exact h1⟩
  case sub id off n => obtain ⟨u, rfl, h1⟩ := h; exact ⟨u, rfl, by unfold Den1 at h1; exact h1.1, by unfold DenV; exact h1⟩
  case subv id i j n => obtain ⟨u, rfl, h1⟩ := h; exact ⟨u, rfl, by unfold Den1 at h1; exact h1.1, by unfold DenV; exact h1⟩
  case emp => obtain ⟨u, rfl, a, rfl⟩ := h; exact ⟨_, rfl, rfl, by unfold DenV; exact ⟨a, rfl⟩⟩
  case fn f caps => obtain ⟨u, rfl, vs, rfl, h1⟩ := h; exact ⟨_, rfl, rfl, by unfold DenV; exact ⟨vs, rfl, h1⟩⟩
  case fnb f caps => obtain ⟨u, rfl, vs, rfl, h1⟩ := h; exact ⟨_, rfl, rfl, by unfold DenV; exact ⟨vs, rfl, h1⟩⟩

/-- A value that may be stored in one cell. -/
theorem DenC_of_single {a : AV} {u : Value} (ha : a.single = true) (h : DenV ρ H O w a u) : DenC ρ H O w a [u] ∧ u.oneCell' = true := by
  cases a <;> simp only [AV.single, reduceCtorEq] at ha
  case s x =>
    have h1 : DenS O w x u := DenS_of_V (by rintro rfl; simp at ha) h
    exact ⟨by unfold DenC; exact ⟨u, rfl, h1⟩, h1.one⟩
  case ptr id off => unfold DenV at h; exact ⟨by unfold DenC; exact ⟨u, rfl, h⟩, by unfold Den1 at h; obtain ⟨b, _, rfl, _⟩ := h; rfl⟩
  case ptrx id off n i => unfold DenV at h; exact ⟨by unfold DenC; exact ⟨u, rfl, h⟩, by unfold Den1 at h; obtain ⟨_, b, _, rfl, _⟩ := h; rfl⟩
  case eptr c m j => unfold DenV at h; exact ⟨by unfold DenC; exact ⟨u, rfl, h⟩, by unfold Den1 at h; obtain ⟨b, o, us, rfl, _⟩ := h; rfl⟩
  case vec id => unfold DenV at h; exact ⟨by unfold DenC; exact ⟨u, rfl, h⟩, by unfold Den1 at h; exact h.1⟩
  case vptr id i j => unfold DenV at h; exact ⟨by unfold DenC; exact ⟨u, rfl, h⟩, by unfold Den1 at h; exact h.1⟩
  case part id lo n => unfold DenV at h; exact ⟨by unfold DenC; exact ⟨u, rfl, h⟩, by unfold Den1 at h; exact h.1⟩
  case sub id off n => unfold DenV at h; exact ⟨by unfold DenC; exact ⟨u, rfl, h⟩, by unfold Den1 at h; exact h.1⟩
  case subv id i j n => unfold DenV at h; exact ⟨by unfold DenC; exact ⟨u, rfl, h⟩, by unfold Den1 at h; exact h.1⟩
  case emp => unfold DenV at h; exact ⟨by unfold DenC; exact ⟨u, rfl, h⟩, by obtain ⟨a, rfl⟩ := h; rfl⟩
  case fn f caps => unfold DenV at h; exact ⟨by unfold DenC; exact ⟨u, rfl, h⟩, by obtain ⟨vs, rfl, _⟩ := h; rfl⟩
  case fnb f caps => unfold DenV at h; exact ⟨by unfold DenC; exact ⟨u, rfl, h⟩, by obtain ⟨vs, rfl, _⟩ := h; rfl⟩
  case mapv id => unfold DenV at h; exact ⟨by unfold DenC; exact ⟨u, rfl, h⟩, by unfold Den1 at h; obtain ⟨b, _, rfl, _⟩ := h; rfl⟩
  case tag id => unfold DenV at h; exact ⟨by unfold DenC; exact ⟨u, rfl, h⟩, by unfold Den1 at h; exact h.2.1⟩

theorem wide_other {a : AV} (h : ∀ k n ws, a ≠ .ints k n ws) : a.wide = 1 := by
  cases a <;> first | rfl | (exact (h _ _ _ rfl).elim)
end
end Go.Sx

/-! Loads and stores. -/
namespace Go.Sx
open Go

section
variable {ρ ρ' : Nat → Value} {H H' : AHeap} {G O O' : Nat → Prop} {w w' : World} {P : Program}

theorem cellAt_other {a : AV} (h : ∀ k n ws, a ≠ .ints k n ws) (azs : List AV) (off : Nat) : cellAt (a :: azs) off = match off with | 0 => some a | m + 1 => cellAt azs m := by
  cases a <;> first | (cases off <;> rfl) | (exact (h _ _ _ rfl).elim)
theorem setCellAt_other {a : AV} (h : ∀ k n ws, a ≠ .ints k n ws) (azs : List AV) (off : Nat) (v : AV) : setCellAt (a :: azs) off v = match off with | 0 => some (v :: azs) | m + 1 => (setCellAt azs m v).map (a :: ·) := by
  cases a <;> first | (cases off <;> rfl) | (exact (h _ _ _ rfl).elim)
theorem rowAt'_other {a : AV} (h : ∀ k n ws, a ≠ .ints k n ws) (azs : List AV) (off : Nat) : rowAt' (a :: azs) off = match off with | 0 => none | m + 1 => rowAt' azs m := by
  cases a <;> first | (cases off <;> rfl) | (exact (h _ _ _ rfl).elim)
theorem setRowAt_other {a : AV} (h : ∀ k n ws, a ≠ .ints k n ws) (azs : List AV) (off : Nat) (v : List Int) : setRowAt (a :: azs) off v = match off with | 0 => none | m + 1 => (setRowAt azs m v).map (a :: ·) := by
  cases a <;> first | (cases off <;> rfl) | (exact (h _ _ _ rfl).elim)

theorem isInts (a : AV) : (∃ k n ws, a = .ints k n ws) ∨ ∀ k n ws, a ≠ .ints k n ws := by
  cases a <;> first | (exact .inl ⟨_, _, _, rfl⟩) | (exact .inr (by simp))

theorem DenC_ints {k : IntKind} {n : Nat} {ws : List Int} {cs : List Value} : DenC ρ H O w (.ints k n ws) cs ↔ ws.length = n ∧ cs = ws.map (Value.int k) := by
  unfold DenC; exact Iff.rfl

theorem cellAt_ok : ∀ (segs : List AV) (off : Nat) {cs : List Value} {v : AV}, cellAt segs off = some v → DenSegs ρ H O w segs cs → ∃ u, cs[off]? = some u ∧ u.oneCell' = true ∧ DenV ρ H O w v u
  | [], off, cs, v, h, _ => by simp [cellAt] at h
  | a :: azs, off, cs, v, h, hd => by
    obtain ⟨c1, c2, rfl, h1, h2⟩ := DenSegs_cons.1 hd
    rcases isInts a with ⟨k, n, ws, rfl⟩ | ha
    · obtain ⟨hl, rfl⟩ := DenC_ints.1 h1
      simp only [cellAt, Bool.cond_eq_ite] at h
      split at h
      · rename_i hlt
        have hlt : off < n := by simpa [Nat.blt, Nat.lt_iff_add_one_le] using hlt
        simp only [Option.some.injEq] at h
        subst h
        have hx : off < ws.length := by omega
        exact ⟨.int k ws[off], by rw [List.getElem?_append_left (by simpa using hx)]; simp [hx], rfl, by rw [show ws.getD off 0 = ws[off] from by simp [List.getD, hx]]; exact DenV_s (.int _ _)⟩
      · rename_i hlt
        have hlt : ¬ off < n := by simpa [Nat.blt, Nat.lt_iff_add_one_le] using hlt
        obtain ⟨u, h3, h4⟩ := cellAt_ok azs (off - n) h h2
        exact ⟨u, by rw [List.getElem?_append_right (by simp; omega)]; simpa [hl] using h3, h4⟩
    · rw [cellAt_other ha] at h
      obtain ⟨u, rfl, h3, h4⟩ := DenC_single h1 (wide_other ha) ha
      cases off with
      | zero => simp only [Option.some.injEq] at h; subst h; exact ⟨u, rfl, h3, h4⟩
      | succ m =>
        obtain ⟨u', h5, h6⟩ := cellAt_ok azs m h h2
        exact ⟨u', by simpa using h5, h6⟩

theorem setCellAt_ok : ∀ (segs : List AV) (off : Nat) {cs : List Value} {v : AV} {u : Value} {segs' : List AV}, setCellAt segs off v = some segs' → DenSegs ρ H O w segs cs → v.single = true → DenV ρ H O w v u →
    off < cs.length ∧ DenSegs ρ H O w segs' (cs.set off u)
  | [], off, cs, v, u, segs', h, _, _, _ => by simp [setCellAt] at h
  | a :: azs, off, cs, v, u, segs', h, hd, hv, hu => by
    obtain ⟨c1, c2, rfl, h1, h2⟩ := DenSegs_cons.1 hd
    rcases isInts a with ⟨k, n, ws, rfl⟩ | ha
    · obtain ⟨hl, rfl⟩ := DenC_ints.1 h1
      simp only [setCellAt, Bool.cond_eq_ite] at h
      split at h
      · rename_i hlt
        have hlt : off < n := by simpa [Nat.blt, Nat.lt_iff_add_one_le] using hlt
        split at h
        · rename_i k' l x hx
          split at h
          · rename_i hk
            obtain rfl := kindEq_eq hk
            simp only [Option.some.injEq] at h
            subst h
            obtain rfl := num_den hx hu
            refine ⟨by simp; omega, DenSegs_cons.2 ⟨(ws.set off x).map (Value.int k), c2, ?_, DenC_ints.2 ⟨by simp [hl], rfl⟩, h2⟩⟩
            rw [List.set_append_left _ _ (by simp; omega), List.map_set]
          · cases h
        · cases h
      · rename_i hlt
        have hlt : ¬ off < n := by simpa [Nat.blt, Nat.lt_iff_add_one_le] using hlt
        simp only [Option.map_eq_some_iff] at h
        obtain ⟨ss, h3, rfl⟩ := h
        obtain ⟨h4, h5⟩ := setCellAt_ok azs (off - n) h3 h2 hv hu
        refine ⟨by simp; omega, DenSegs_cons.2 ⟨_, c2.set (off - n) u, ?_, DenC_ints.2 ⟨hl, rfl⟩, h5⟩⟩
        rw [List.set_append_right _ _ (by simp; omega)]
        simp [hl]
    · rw [setCellAt_other ha] at h
      obtain ⟨u0, rfl, h3, h4⟩ := DenC_single h1 (wide_other ha) ha
      cases off with
      | zero =>
        simp only [Option.some.injEq] at h
        subst h
        exact ⟨by simp, DenSegs_cons.2 ⟨[u], c2, rfl, (DenC_of_single hv hu).1, h2⟩⟩
      | succ m =>
        simp only [Option.map_eq_some_iff] at h
        obtain ⟨ss, h5, rfl⟩ := h
        obtain ⟨h6, h7⟩ := setCellAt_ok azs m h5 h2 hv hu
        exact ⟨by simp; omega, DenSegs_cons.2 ⟨[u0], c2.set m u, rfl, h1, h7⟩⟩

theorem rowAt'_ok : ∀ (segs : List AV) (off : Nat) {cs : List Value} {k : IntKind} {n : Nat} {ws : List Int}, rowAt' segs off = some (k, n, ws) → DenSegs ρ H O w segs cs →
    ws.length = n ∧ ∃ pre post, cs = pre ++ ws.map (Value.int k) ++ post ∧ pre.length = off
  | [], off, cs, k, n, ws, h, _ => by simp [rowAt'] at h
  | a :: azs, off, cs, k, n, ws, h, hd => by
    obtain ⟨c1, c2, rfl, h1, h2⟩ := DenSegs_cons.1 hd
    rcases isInts a with ⟨k', n', ws', rfl⟩ | ha
    · obtain ⟨hl, rfl⟩ := DenC_ints.1 h1
      simp only [rowAt', Bool.cond_eq_ite] at h
      split at h
      · rename_i h0
        have h0 : off = 0 := by simpa using h0
        subst h0
        simp only [Option.some.injEq, Prod.mk.injEq] at h
        obtain ⟨rfl, rfl, rfl⟩ := h
        exact ⟨hl, [], c2, by simp, rfl⟩
      · split at h
        · cases h
        · rename_i hlt
          have hlt : ¬ off < n' := by simpa [Nat.blt, Nat.lt_iff_add_one_le] using hlt
          obtain ⟨h3, pre, post, rfl, h4⟩ := rowAt'_ok azs (off - n') h h2
          exact ⟨h3, ws'.map (Value.int k') ++ pre, post, by simp, by simp; omega⟩
    · rw [rowAt'_other ha] at h
      obtain ⟨u0, rfl, h3, h4⟩ := DenC_single h1 (wide_other ha) ha
      cases off with
      | zero => cases h
      | succ m =>
        obtain ⟨h3, pre, post, rfl, h4⟩ := rowAt'_ok azs m h h2
        exact ⟨h3, u0 :: pre, post, by simp, by simp [h4]⟩

theorem setRowAt_ok : ∀ (segs : List AV) (off : Nat) {pre post : List Value} {k : IntKind} {n : Nat} {ws ws' : List Int} {segs' : List AV}, rowAt' segs off = some (k, n, ws) → setRowAt segs off ws' = some segs' → ws'.length = ws.length →
    DenSegs ρ H O w segs (pre ++ ws.map (Value.int k) ++ post) → pre.length = off → DenSegs ρ H O w segs' (pre ++ ws'.map (Value.int k) ++ post)
  | [], off, _, _, k, n, ws, _, _, h, _, _, _, _ => by simp [rowAt'] at h
  | a :: azs, off, pre, post, k, n, ws, ws', segs', h, hs, hlen, hd, hp => by
    obtain ⟨c1, c2, hc, h1, h2⟩ := DenSegs_cons.1 hd
    rcases isInts a with ⟨k', n', ws1, rfl⟩ | ha
    · obtain ⟨hl, rfl⟩ := DenC_ints.1 h1
      simp only [rowAt', setRowAt, Bool.cond_eq_ite] at h hs
      split at h
      · rename_i h0
        have h0' : off = 0 := by simpa using h0
        subst h0'
        simp only [Option.some.injEq, Prod.mk.injEq] at h
        obtain ⟨rfl, rfl, rfl⟩ := h
        rw [if_pos h0] at hs
        simp only [Option.some.injEq] at hs
        subst hs
        obtain rfl : pre = [] := List.eq_nil_of_length_eq_zero hp
        simp only [List.nil_append] at hc ⊢
        have := List.append_cancel_left hc
        subst this
        exact DenSegs_cons.2 ⟨_, post, rfl, DenC_ints.2 ⟨by omega, rfl⟩, h2⟩
      · rename_i h0
        rw [if_neg h0] at hs
        split at h
        · cases h
        · rename_i hlt
          rw [if_neg hlt] at hs
          have hlt : ¬ off < n' := by simpa [Nat.blt, Nat.lt_iff_add_one_le] using hlt
          simp only [Option.map_eq_some_iff] at hs
          obtain ⟨ss, h3, rfl⟩ := hs
          have hpl : (ws1.map (Value.int k')).length ≤ pre.length := by simp; omega
          obtain ⟨pre', rfl⟩ : ∃ pre', pre = ws1.map (Value.int k') ++ pre' := by
            rw [List.append_assoc] at hc
            obtain ⟨x, hx⟩ := List.prefix_of_prefix_length_le (⟨_, rfl⟩ : ws1.map (Value.int k') <+: ws1.map (Value.int k') ++ c2) (⟨_, hc⟩ : pre <+: _) hpl
            exact ⟨x, hx.symm⟩
          simp only [List.append_assoc] at hc ⊢
          have hc' := List.append_cancel_left hc
          subst hc'
          have hp' : pre'.length = off - n' := by simp at hp; omega
          exact DenSegs_cons.2 ⟨_, _, rfl, h1, by simpa using setRowAt_ok azs (off - n') h h3 hlen (by simpa using h2) hp'⟩
    · rw [rowAt'_other ha] at h
      rw [setRowAt_other ha] at hs
      obtain ⟨u0, rfl, h3, h4⟩ := DenC_single h1 (wide_other ha) ha
      cases off with
      | zero => cases h
      | succ m =>
        simp only [Option.map_eq_some_iff] at hs
        obtain ⟨ss, h5, rfl⟩ := hs
        cases pre with
        | nil => simp at hp
        | cons p pre' =>
          simp only [List.cons_append, List.cons.injEq, List.nil_append] at hc
          obtain ⟨rfl, hc'⟩ := hc
          simp only [List.length_cons, Nat.add_right_cancel_iff] at hp
          rw [← hc'] at h2
          exact DenSegs_cons.2 ⟨[p], _, rfl, h1, by simpa using setRowAt_ok azs m h h5 hlen (by simpa using h2) hp⟩

theorem putOne_ok {segs by_ segs' : List AV} {off : Nat} {cs vs : List Value} (h : putOne segs off by_ = some segs') (hd : DenSegs ρ H O w segs cs) (hb : DenSegs ρ H O w by_ vs) :
    off + vs.length ≤ cs.length ∧ DenSegs ρ H O w segs' (cs.take off ++ vs ++ cs.drop (off + vs.length)) := by
  unfold putOne at h
  split at h
  · rename_i k n ws x
    split at h
    · rename_i k' li z hx
      rw [Bool.cond_eq_ite] at h
      split at h
      · rename_i hc
        simp only [Bool.and_eq_true] at hc
        obtain ⟨hk, hlt⟩ := hc
        have hlt : off < n := Nat.lt_of_lt_of_le (Nat.lt_succ_self _) (Nat.le_of_ble_eq_true hlt)
        obtain rfl := kindEq_eq hk
        simp only [Option.some.injEq] at h
        subst h
        obtain ⟨c1, c2, rfl, h1, h2⟩ := DenSegs_cons.1 hd
        obtain rfl := DenSegs_nil.1 h2
        obtain ⟨hl, rfl⟩ := DenC_ints.1 h1
        obtain ⟨d1, d2, rfl, h3, h4⟩ := DenSegs_cons.1 hb
        obtain rfl := DenSegs_nil.1 h4
        have hv : d1 = [.int k z] := by
          cases x with
          | s y =>
            unfold DenC at h3
            obtain ⟨u, rfl, h5⟩ := h3
            cases y <;> simp only [AV.num?, Option.some.injEq, Prod.mk.injEq, reduceCtorEq] at hx
            all_goals
              obtain ⟨rfl, _, rfl⟩ := hx
              cases h5
              rfl
          | _ => simp only [AV.num?, reduceCtorEq] at hx
        subst hv
        simp only [List.append_nil, List.length_map, List.length_singleton]
        refine ⟨by omega, DenSegs_cons.2 ⟨_, [], (List.append_nil _).symm, DenC_ints.2 ⟨by rw [List.length_set]; exact hl, ?_⟩, DenSegs_nil.2 rfl⟩⟩
        rw [List.map_set, List.set_eq_take_append_cons_drop, if_pos (by rw [List.length_map]; omega), List.append_assoc]
        rfl
      · cases h
    · cases h
  · cases h

theorem putSegs_ok {segs by_ segs' : List AV} {off : Nat} {cs vs : List Value} (h : putSegs segs off by_ = some segs') (hd : DenSegs ρ H O w segs cs) (hb : DenSegs ρ H O w by_ vs) :
    off + vs.length ≤ cs.length ∧ DenSegs ρ H O w segs' (cs.take off ++ vs ++ cs.drop (off + vs.length)) := by
  unfold putSegs at h
  split at h
  · rename_i r hr
    simp only [Option.some.injEq] at h
    subst h
    exact putOne_ok hr hd hb
  split at h
  · rename_i pre post h1 h2
    simp only [Option.some.injEq] at h
    subst h
    have hl := DenSegs_len hb
    rw [← hl] at h2
    obtain ⟨h3, h4⟩ := takeSegs_ok _ _ h1 hd
    obtain ⟨h5, h6⟩ := dropSegs_ok _ _ h2 hd
    exact ⟨h5, DenSegs_append.2 ⟨_, _, rfl, DenSegs_append.2 ⟨_, _, rfl, h4, hb⟩, h6⟩⟩
  · cases h

theorem segs_one (segs : List AV) {cs : List Value} (h : DenSegs ρ H O w segs cs) : ∀ v ∈ cs, v.oneCell' = true := by
  induction segs generalizing cs with
  | nil => rw [DenSegs_nil.1 h]; simp
  | cons a azs ih =>
    obtain ⟨c1, c2, rfl, h1, h2⟩ := DenSegs_cons.1 h
    intro v hv
    rcases List.mem_append.1 hv with hv | hv
    · rcases isInts a with ⟨k, n, ws, rfl⟩ | ha
      · obtain ⟨hl, rfl⟩ := DenC_ints.1 h1
        obtain ⟨x, _, rfl⟩ := List.mem_map.1 hv
        rfl
      · obtain ⟨u, rfl, h3, _⟩ := DenC_single h1 (wide_other ha) ha
        simp only [List.mem_singleton] at hv
        subst hv
        exact h3
    · exact ih h2 v hv

/-- A value's parts are its cells. -/
theorem segsQ_ok {x : AV} {v : Value} {segs : List AV} (h : x.segs? = some segs) (hd : DenV ρ H O w x v) : DenSegs ρ H O w segs v.cells.toList := by
  have one : ∀ a, a.single = true → DenV ρ H O w a v → DenSegs ρ H O w [a] v.cells.toList := by
    intro a ha hv
    obtain ⟨h1, h2⟩ := DenC_of_single ha hv
    have : v.cells.toList = [v] := by cases v <;> first | rfl | (simp [Value.oneCell'] at h2)
    rw [this]
    exact DenSegs_cons.2 ⟨[v], [], rfl, h1, DenSegs_nil.2 rfl⟩
  cases x with
  | agg ss =>
    simp only [AV.segs?, Option.some.injEq] at h
    subst h
    unfold DenV at hd
    obtain ⟨cs, rfl, h1⟩ := hd
    simpa [Value.cells] using h1
  | ints k n ws =>
    simp only [AV.segs?, Option.some.injEq] at h
    subst h
    unfold DenV at hd
    obtain ⟨hl, rfl⟩ := hd
    exact DenSegs_cons.2 ⟨ws.map (Value.int k), [], by simp [Value.cells], DenC_ints.2 ⟨hl, rfl⟩, DenSegs_nil.2 rfl⟩
  | tup _ => simp [AV.segs?] at h
  | s x => cases x <;> simp only [AV.segs?, Option.some.injEq, reduceCtorEq] at h <;> subst h <;> exact one _ rfl hd
  | _ => simp only [AV.segs?, Option.some.injEq] at h; subst h; exact one _ rfl hd

theorem ofSegs_ok {segs : List AV} {cs : List Value} (h : DenSegs ρ H O w segs cs) : DenV ρ H O w (.ofSegs segs) (.agg cs.toArray) := by
  unfold AV.ofSegs
  split
  · obtain ⟨c1, c2, rfl, h1, h2⟩ := DenSegs_cons.1 h
    obtain rfl := DenSegs_nil.1 h2
    obtain ⟨hl, rfl⟩ := DenC_ints.1 h1
    unfold DenV
    exact ⟨hl, by simp⟩
  · unfold DenV
    exact ⟨cs, rfl, h⟩
end
end Go.Sx

/-! The world behind a store, a new block. -/
namespace Go.Sx
open Go

def World.setBlk (w : World) (b : Nat) (o : Obj) : World := { w with heap := w.heap.setIfInBounds b o }

theorem unm_frozen {w : World} {b : Nat} {cells : Array Value} {e : TypeId} {fr : Nat × Nat} (hb : w.heap[b]? = some (.cells cells e fr)) (hu : unm fr cells.size) {off : Nat} (ho : off < cells.size) :
    w.frozen? ⟨b, off, none⟩ = false := by
  have := hu off ho
  simp only [World.frozen?, hb, Bool.and_eq_false_imp, decide_eq_true_eq, decide_eq_false_iff_not]
  intro h1 h2
  exact this ⟨h1, h2⟩

theorem setCell_blk {w : World} {b : Nat} {cells : Array Value} {e : TypeId} {fr : Nat × Nat} (hb : w.heap[b]? = some (.cells cells e fr)) (off : Nat) (v : Value) :
    w.setCell ⟨b, off, none⟩ v = World.setBlk w b (.cells (cells.setIfInBounds off v) e fr) := by
  simp only [World.setCell, World.setBlk]
  congr 1
  apply Array.ext_getElem?
  intro i
  rw [Array.getElem?_modify, Array.getElem?_setIfInBounds]
  by_cases h : b = i
  · subst h
    obtain ⟨hlt, hb'⟩ := Array.getElem?_eq_some_iff.1 hb
    simp [hb', hlt]
  · simp [h]

theorem setBlk_get {w : World} {b : Nat} {o o' : Obj} (hb : w.heap[b]? = some o) : (World.setBlk w b o').heap[b]? = some o' := by
  have hlt : b < w.heap.size := (Array.getElem?_eq_some_iff.1 hb).1
  simp [World.setBlk, hlt]

theorem setBlk_ne {w : World} {b i : Nat} {o : Obj} (h : i ≠ b) : (World.setBlk w b o).heap[i]? = w.heap[i]? := by
  simp only [World.setBlk]
  rw [Array.getElem?_setIfInBounds_ne (by omega)]

theorem setBlk_size {w : World} {b : Nat} {o : Obj} : (World.setBlk w b o).heap.size = w.heap.size := by simp [World.setBlk]

theorem setBlk_setBlk {w : World} {b : Nat} {o o' : Obj} : World.setBlk (World.setBlk w b o) b o' = World.setBlk w b o' := by
  simp only [World.setBlk]
  congr 1
  apply Array.ext_getElem?
  intro i
  by_cases h : b = i
  · subst h; simp [Array.getElem?_setIfInBounds]
  · simp [h]

theorem setBlk_same {w : World} {b : Nat} {o : Obj} (hb : w.heap[b]? = some o) : World.setBlk w b o = w := by
  have : w.heap.setIfInBounds b o = w.heap := by
    apply Array.ext_getElem?
    intro i
    by_cases h : b = i
    · subst h
      obtain ⟨hlt, hb'⟩ := Array.getElem?_eq_some_iff.1 hb
      simp [hb', hlt]
    · rw [Array.getElem?_setIfInBounds_ne (by omega)]
  simp only [World.setBlk, this]

theorem run_store_blk {P : Program} {w : World} {b : Nat} {cells : List Value} {e : TypeId} {fr : Nat × Nat} (hb : w.heap[b]? = some (.cells cells.toArray e fr)) (hu : unm fr cells.length) {off : Nat} (ho : off < cells.length)
    {v : Value} (hv : v.oneCell' = true) : (store ⟨b, off, none⟩ v).run P w = .ok () (World.setBlk w b (.cells (cells.set off v).toArray e fr)) := by
  rw [run_store P w _ v _ hv]
  have hc : w.cell? ⟨b, off, none⟩ = some cells[off] := by simp [World.cell?, hb, ho]
  have hf := unm_frozen hb (by simpa using hu) (off := off) (by simpa using ho)
  simp only [hc, hf, Bool.false_eq_true, if_false, setCell_blk hb, List.setIfInBounds_toArray]

theorem add_zero_spot (b off i : Nat) : (⟨b, off, none⟩ : Addr).add i = ⟨b, off + i, none⟩ := by
  unfold Addr.add
  split
  · rename_i h; subst h; rfl
  · rfl

theorem run_storeCells_blk {P : Program} {b : Nat} {e : TypeId} {fr : Nat × Nat} (off : Nat) : ∀ (vs : List Value) (i : Nat) {w : World} {cells : List Value}, w.heap[b]? = some (.cells cells.toArray e fr) → unm fr cells.length →
    off + i + vs.length ≤ cells.length → (∀ v ∈ vs, v.oneCell' = true) →
    (storeCells ⟨b, off, none⟩ vs i).run P w = .ok () (World.setBlk w b (.cells (cells.take (off + i) ++ vs ++ cells.drop (off + i + vs.length)).toArray e fr))
  | [], i, w, cells, hb, hu, hl, hv => by
    simp only [storeCells, Sem.run_pure, List.length_nil, Nat.add_zero, List.append_nil, List.take_append_drop]
    rw [setBlk_same hb]
  | v :: vs, i, w, cells, hb, hu, hl, hv => by
    simp only [List.length_cons] at hl
    have hlt : off + i < cells.length := by omega
    simp only [storeCells, Sem.run_bind, add_zero_spot, run_store_blk hb hu hlt (hv v (by simp)), Result.andThen_ok]
    rw [run_storeCells_blk off vs (i + 1) (setBlk_get hb) (by simpa using hu) (by simp; omega) (fun x hx => hv x (by simp [hx])), setBlk_setBlk]
    congr 4
    rw [← Nat.add_assoc, List.take_set, List.drop_set_of_lt (by omega)]
    have e1 : (cells.take (off + i + 1)).set (off + i) v = cells.take (off + i) ++ [v] := by
      rw [List.take_succ_eq_append_getElem hlt]
      rw [List.set_append_right _ _ (by simp; omega)]
      simp [Nat.min_eq_left (Nat.le_of_lt hlt)]
    rw [e1]
    simp only [List.append_assoc, List.length_cons, List.cons_append, List.nil_append]
    rw [show off + i + 1 + vs.length = off + i + (vs.length + 1) from by omega]

theorem alloc_get {w : World} {o : Obj} : (w.alloc o).heap[w.heap.size]? = some o := by
  show (w.heap.push o)[w.heap.size]? = _
  simp
theorem alloc_old {w : World} {o : Obj} {i : Nat} (h : i < w.heap.size) : (w.alloc o).heap[i]? = w.heap[i]? := by
  show (w.heap.push o)[i]? = _
  rw [Array.getElem?_push, if_neg (by omega)]
theorem alloc_size {w : World} {o : Obj} : (w.alloc o).heap.size = w.heap.size + 1 := by
  show (w.heap.push o).size = _
  simp

section
variable {ρ ρ' : Nat → Value} {H H' : AHeap} {G O O' : Nat → Prop} {w w' : World} {P : Program}

/-- Own objects' contents turn; nothing else does. -/
def updH (H : AHeap) (id : Nat) (o : AObj) : AHeap := fun j => if j = id then some o else H j

theorem Own_upd {id : Nat} {o o' : AObj} (ho : H id = some o) (ha : o.alive = o'.alive) (b : Nat) : Own ρ (updH H id o') b ↔ Own ρ H b := by
  constructor
  · rintro ⟨j, x, hx, h1, h2⟩
    unfold updH at hx
    split at hx
    · rename_i hj
      subst hj
      simp only [Option.some.injEq] at hx
      subst hx
      exact ⟨j, o, ho, ha.trans h1, h2⟩
    · exact ⟨j, x, hx, h1, h2⟩
  · rintro ⟨j, x, hx, h1, h2⟩
    by_cases hj : j = id
    · subst hj
      rw [ho] at hx
      cases hx
      exact ⟨j, o', by simp [updH], ha.symm.trans h1, h2⟩
    · exact ⟨j, x, by simp [updH, hj, hx], h1, h2⟩

theorem Hot_upd {id : Nat} {o o' : AObj} (ho : H id = some o) (ha : o.alive = o'.alive) : Hot ρ (updH H id o') G = Hot ρ H G := by
  funext b
  exact propext (or_congr_left (Own_upd ho ha b))

/-- A block of an own object is written: what is known of the rest stands. -/
theorem Good.write (hs : Sat ρ H G w) {id : Nat} {o o' : AObj} (ho : H id = some o) (ha : o.alive = true) (ha' : o'.alive = true) {b : Nat} (hb : blk (ρ id) = some b)
    (hvec : ∀ c' e', o' = .vec c' e' → ∃ c e, o = .vec c e ∧ c'.n = c.n ∧ c'.size = c.size)
    {blkobj : Obj} {r : AV} {v : Value}
    (hobj : ObjSat ρ (updH H id o') (Hot ρ H G) (World.setBlk w b blkobj) (ρ id) o')
    (hr : DenV ρ (updH H id o') (Hot ρ H G) (World.setBlk w b blkobj) r v) :
    Good ρ H G w (updH H id o') r v (World.setBlk w b blkobj) := by
  have hh := Hot_upd (ρ := ρ) (G := G) ho (ha.trans ha'.symm)
  have hown : Own ρ H b := ⟨id, o, ho, ha, hb⟩
  have st : Step ρ H (Hot ρ H G) w ρ (updH H id o') (Hot ρ (updH H id o') G) (World.setBlk w b blkobj) := by
    refine ⟨fun _ _ _ => rfl, fun j x hx => ?_, fun c hc => .inl (by rw [hh] at hc; exact hc), fun c hc hO => ?_, by rw [setBlk_size]; exact Nat.le_refl _⟩
    · by_cases hj : j = id
      · subst hj
        rw [ho] at hx
        cases hx
        exact ⟨o', by simp [updH], hvec⟩
      · exact ⟨x, by simp [updH, hj, hx], fun c' e' hc => ⟨c', e', hc, rfl, rfl⟩⟩
    · exact setBlk_ne (fun e => hO (.inl (by subst e; exact hown)))
  refine ⟨ρ, ⟨fun j x hx => ?_, fun i j oi oj c h1 h2 h3 h4 h5 h6 => ?_, fun c hc => ?_, fun c hc => ?_⟩, by rw [hh]; exact hr, st, ⟨rfl, rfl, rfl, fun c hc hO => setBlk_ne (fun e => hO (by subst e; exact hown))⟩⟩
  · by_cases hj : j = id
    · subst hj
      simp only [updH, if_true, Option.some.injEq] at hx
      subst hx
      rw [hh]
      exact hobj
    · have hx' : H j = some x := by simpa [updH, hj] using hx
      refine (hs.obj j x hx').step st (fun c hal hc => setBlk_ne (fun e => hj ?_))
      subst e
      exact hs.inj j id x o c hx' ho hal ha hc hb
  · have f : ∀ i oi, updH H id o' i = some oi → oi.alive = true → ∃ x, H i = some x ∧ x.alive = true := by
      intro i oi hi hal
      by_cases hi' : i = id
      · subst hi'; exact ⟨o, ho, ha⟩
      · exact ⟨oi, by simpa [updH, hi'] using hi, hal⟩
    obtain ⟨x, hx, hxa⟩ := f i oi h1 h3
    obtain ⟨y, hy, hya⟩ := f j oj h2 h4
    exact hs.inj i j x y c hx hy hxa hya h5 h6
  · exact hs.apart c ((Own_upd ho (ha.trans ha'.symm) c).1 hc)
  · rw [setBlk_size]; exact hs.low c hc

/-- A new own object, in a new block. -/
theorem Good.fresh (hs : Sat ρ H G w) {n : Nat} (hn : H n = none) {o : AObj} {obj : Obj} {root : Value} {r : AV} {v : Value}
    {w1 : World} (hw : w1.heap = w.heap) (ht : w1.tape = w.tape) (hos : w1.os = w.os) (hout : w1.output = w.output)
    (hroot : ∀ b, blk root = some b → b = w.heap.size)
    (hobj : ObjSat (fun j => if j = n then root else ρ j) (updH H n o) (Hot (fun j => if j = n then root else ρ j) (updH H n o) G) (w1.alloc obj) root o)
    (hr : DenV (fun j => if j = n then root else ρ j) (updH H n o) (Hot (fun j => if j = n then root else ρ j) (updH H n o) G) (w1.alloc obj) r v) :
    Good ρ H G w (updH H n o) r v (w1.alloc obj) := by
  have hsz : (w1.alloc obj).heap.size = w.heap.size + 1 := by rw [alloc_size, hw]
  have hold : ∀ i, i < w.heap.size → (w1.alloc obj).heap[i]? = w.heap[i]? := fun i hi => by rw [alloc_old (by rw [hw]; exact hi), hw]
  have ne : ∀ j x, H j = some x → j ≠ n := fun j x hx e => by subst e; rw [hn] at hx; cases hx
  have own' : ∀ b, Own (fun j => if j = n then root else ρ j) (updH H n o) b → Own ρ H b ∨ b = w.heap.size := by
    rintro b ⟨j, x, hx, h1, h2⟩
    by_cases hj : j = n
    · subst hj; simp only [if_true] at h2; exact .inr (hroot b h2)
    · simp only [updH, hj, if_false] at hx h2
      exact .inl ⟨j, x, hx, h1, h2⟩
  have st : Step ρ H (Hot ρ H G) w (fun j => if j = n then root else ρ j) (updH H n o) (Hot (fun j => if j = n then root else ρ j) (updH H n o) G) (w1.alloc obj) := by
    refine ⟨fun j x hx => by simp [ne j x hx], fun j x hx => ⟨x, by simp [updH, ne j x hx, hx], fun c' e' hc => ⟨c', e', hc, rfl, rfl⟩⟩, fun b hb => ?_, fun b hb _ => hold b hb, by omega⟩
    rcases hb with hb | hb
    · rcases own' b hb with h1 | h1
      · exact .inl (.inl h1)
      · exact .inr (by omega)
    · exact .inl (.inr hb)
  refine ⟨_, ⟨fun j x hx => ?_, fun i j oi oj b h1 h2 h3 h4 h5 h6 => ?_, fun b hb => ?_, fun b hb => ?_⟩, hr, st, ⟨hos, ht, hout, fun b hb _ => hold b hb⟩⟩
  · by_cases hj : j = n
    · subst hj
      simp only [updH, if_true, Option.some.injEq] at hx
      subst hx
      simp only [if_true]
      exact hobj
    · have hx' : H j = some x := by simpa [updH, hj] using hx
      simp only [hj, if_false]
      exact (hs.obj j x hx').step st (fun b hal hb => hold b (own_lt hs ⟨j, x, hx', hal, hb⟩))
  · by_cases hi : i = n <;> by_cases hj : j = n
    · rw [hi, hj]
    · simp only [updH, hi, hj, if_true, if_false] at h1 h2 h5 h6
      have e := hroot b h5
      have := own_lt hs ⟨j, oj, h2, h4, h6⟩
      omega
    · simp only [updH, hi, hj, if_true, if_false] at h1 h2 h5 h6
      have e := hroot b h6
      have := own_lt hs ⟨i, oi, h1, h3, h5⟩
      omega
    · simp only [updH, hi, hj, if_false] at h1 h2 h5 h6
      exact hs.inj i j oi oj b h1 h2 h3 h4 h5 h6
  · rcases own' b hb with h1 | h1
    · exact hs.apart b h1
    · intro hg
      have := hs.low b hg
      omega
  · have := hs.low b hb
    omega
end
end Go.Sx

/-! Loads, addresses, parts: operations that read. -/
namespace Go.Sx
open Go

def ValOK (P : Program) (ρ : Nat → Value) (H : AHeap) (O : Nat → Prop) (w : World) (q : Res) (s : Sem Value) : Prop :=
  q.up = [] ∧ q.new = [] ∧ ∃ v, s.run P w = .ok v w ∧ ∀ base, DenV ρ H O w (q.r base) v

section
variable {ρ ρ' : Nat → Value} {H H' : AHeap} {G O O' : Nat → Prop} {w w' : World} {P : Program}

theorem plain_ok {need : List Prop} {r : AV} {q : Res} {s : Sem Value} (h : (plain need r).eval H = some q) (f : Needs need → ∃ v, s.run P w = .ok v w ∧ DenV ρ H O w r v) (hn : Needs q.need) : ValOK P ρ H O w q s := by
  simp only [plain, RM.eval, Option.some.injEq] at h
  subst h
  obtain ⟨v, h1, h2⟩ := f hn
  exact ⟨rfl, rfl, v, h1, fun _ => h2⟩

theorem run_isAgg {t : TypeId} {b : Bool} (h : aggT P t = some b) (w : World) : (isAgg t).run P w = .ok b w := by
  unfold aggT at h
  split at h <;> first | (cases h; rename_i ht; simp [isAgg, run_underlying ht]; done) | cases h

theorem range_map_get {f : Nat → Value} {n j : Nat} {v : Value} (h : ((List.range n).map f)[j]? = some v) : j < n ∧ v = f j := by
  by_cases hj : j < n
  · rw [List.getElem?_map, List.getElem?_range hj] at h
    simp at h
    exact ⟨hj, h.symm⟩
  · rw [List.getElem?_eq_none (by simp; omega)] at h
    cases h

theorem run_sizeOf {t : TypeId} {n : Nat} (h : szOf P t = some n) (w : World) : (sizeOf t).run P w = .ok n w := by
  simp only [szOf, Option.map_eq_some_iff] at h
  obtain ⟨i, hi, rfl⟩ := h
  simp [sizeOf, typeInfo, hi]

theorem cell_of_blk {b : Nat} {cells : List Value} {e : TypeId} {fr : Nat × Nat} (hb : w.heap[b]? = some (.cells cells.toArray e fr)) (off : Nat) : w.cell? ⟨b, off, none⟩ = cells[off]? := by
  simp [World.cell?, hb]

/-- A load of several cells. -/
theorem run_loadVar_agg {t : TypeId} {n b off : Nat} {cs : List Value} (ha : aggT P t = some true) (hs : szOf P t = some n) (hl : cs.length = n) (hc : ∀ j v, cs[j]? = some v → w.cell? ⟨b, off + j, none⟩ = some v) :
    (Instr.loadAt t (.pointer (some ⟨b, off, none⟩))).run P w = .ok (.agg cs.toArray) w := by
  subst hl
  have := run_loadCells_list (P := P) (w := w) ⟨b, off, none⟩ cs (fun j v hj => by rw [add_zero_spot]; exact hc j v hj)
  simp [Instr.loadAt, Instr.sureAddr, loadVar, run_isAgg ha, run_sizeOf hs, this]

theorem run_loadVar_one {t : TypeId} {b off : Nat} {v : Value} (ha : aggT P t = some false) (hc : w.cell? ⟨b, off, none⟩ = some v) :
    (Instr.loadAt t (.pointer (some ⟨b, off, none⟩))).run P w = .ok v w := by
  simp [Instr.loadAt, Instr.sureAddr, loadVar, run_isAgg ha, hc]

theorem own_obj (hs : Sat ρ H G w) {id b : Nat} {segs : List AV} {e : TypeId} (ho : H id = some (.own segs e)) (hb : ρ id = .pointer (some ⟨b, 0, none⟩)) :
    ∃ cells fr, w.heap[b]? = some (.cells cells.toArray e fr) ∧ unm fr cells.length ∧ DenSegs ρ H (Hot ρ H G) w segs cells := by
  obtain ⟨b', cells, fr, h1, h2⟩ := hs.obj id _ ho
  rw [hb] at h1
  cases h1
  exact ⟨cells, fr, h2⟩

theorem vec_cells (hs : Sat ρ H G w) {id i b f n cap : Nat} {c : Con} {e : TypeId} (ho : H id = some (.vec c e)) (hi : i < c.n) (hroot : ρ id = .slice (some ⟨b, f, none⟩) n cap) :
    ∃ us : Nat → Nat → Value, ∀ i j, i < c.n → j < c.size → w.cell? ⟨b, f + i * c.size + j, none⟩ = some (us i j) ∧ DenS (Hot ρ H G) w (c.cell i j) (us i j) := by
  obtain ⟨a, cap', h1, h2, h3, h4⟩ := hs.obj id _ ho
  rw [hroot] at h1
  cases h1
  rcases h4 with rfl | ⟨b', o, cells, fr, us, h5, h6, h7, h8, h9⟩
  · omega
  · cases h5
    exact ⟨us, fun i j hi hj => ⟨by rw [cell_of_blk h6]; exact (h9 i j hi hj).1, (h9 i j hi hj).2⟩⟩

theorem DenSegs_svs (n : Nat) (f : Nat → SV) (us : Nat → Value) (h : ∀ i, i < n → DenS O w (f i) (us i)) : DenSegs ρ H O w ((List.range n).map fun i => .s (f i)) ((List.range n).map us) := by
  induction n with
  | zero => simp [DenSegs_nil]
  | succ n ih =>
    rw [List.range_succ, List.map_append, List.map_append]
    exact DenSegs_append.2 ⟨_, _, rfl, ih (fun i hi => h i (by omega)), DenSegs_cons.2 ⟨[us n], [], rfl, by unfold DenC; exact ⟨_, rfl, h n (by omega)⟩, DenSegs_nil.2 rfl⟩⟩

theorem blt_t {a b : Nat} (h : a < b) : a.blt b = true := Nat.ble_eq_true_of_le h
theorem blt_f {a b : Nat} (h : b ≤ a) : a.blt b = false := by
  cases hh : a.blt b
  · rfl
  · exact absurd (Nat.le_of_ble_eq_true hh) (by omega)

theorem CL_segs_ok : ∀ (cs : List CK) (x : CL cs) (us : Nat → Value) (off : Nat), (∀ l, l < CL.wide cs → DenS O w (CL.cell cs x l) (us (off + l))) → Needs (segNeeds (CL.segs cs x)) →
    DenSegs ρ H O w (CL.segs cs x) ((List.range (CL.wide cs)).map fun l => us (off + l))
  | [], x, us, off, h, hn => DenSegs_nil.2 (by simp [CL.wide])
  | c :: cs, x, us, off, h, hn => by
    have key : ∀ a : AV, CL.segs (c :: cs) x = a :: CL.segs cs x.2 → c.wide = 1 → (∀ y, DenS O w (c.cell x.1 0) y → DenC ρ H O w a [y]) → Needs (segNeeds (CL.segs cs x.2)) →
        DenSegs ρ H O w (CL.segs (c :: cs) x) ((List.range (CL.wide (c :: cs))).map fun l => us (off + l)) := by
      intro a e hw ha hn2
      rw [e]
      simp only [CL.wide, hw]
      rw [List.range_add, List.map_append, List.map_map]
      refine DenSegs_cons.2 ⟨_, _, rfl, ?_, ?_⟩
      · have := h 0 (by simp only [CL.wide]; omega)
        simp only [CL.cell, hw, blt_t (show 0 < 1 from by omega), cond_true] at this
        simpa using ha _ this
      · have ih := CL_segs_ok cs x.2 us (off + 1) (fun l hl => ?_) hn2
        · have e2 : (fun l => us (off + 1 + l)) = (fun l => us (off + l)) ∘ (fun x => 1 + x) := by funext l; simp [Function.comp, Nat.add_assoc]
          rw [e2] at ih
          exact ih
        · have := h (1 + l) (by simp only [CL.wide]; omega)
          simp only [CL.cell, hw] at this
          rw [blt_f (show 1 ≤ 1 + l from by omega), cond_false, show 1 + l - 1 = l from by omega, ← Nat.add_assoc] at this
          exact this
    have one : ∀ {sv : SV} {y : Value}, DenS O w sv y → DenC ρ H O w (.s sv) [y] := fun hy => by unfold DenC; exact ⟨_, rfl, hy⟩
    cases c with
    | arr k n =>
      obtain ⟨x1, x2⟩ := x
      change List Int at x1
      simp only [CL.segs, segNeeds] at hn ⊢
      obtain ⟨hl, hn2⟩ := hn
      simp only [CL.wide, CK.wide]
      rw [List.range_add, List.map_append, List.map_map]
      refine DenSegs_cons.2 ⟨_, _, rfl, ?_, ?_⟩
      · unfold DenC
        refine ⟨hl, ?_⟩
        refine List.ext_getElem (by simp [hl]) fun i h1 h2 => ?_
        have hi : i < n := by simpa using h1
        have := h i (by simp only [CL.wide, CK.wide]; omega)
        simp only [CL.cell, CK.wide] at this
        rw [blt_t hi, cond_true] at this
        simp only [CK.cell] at this
        have hx : x1.getD i 0 = x1[i]'(by rw [hl]; exact hi) := by simp [List.getD, hl, hi]
        rw [hx] at this
        simp only [List.getElem_map, List.getElem_range]
        generalize us (off + i) = u at this ⊢
        cases this
        rfl
      · have ih := CL_segs_ok cs x2 us (off + n) (fun l hl => ?_) hn2
        · have e2 : (fun l => us (off + n + l)) = (fun l => us (off + l)) ∘ (fun x => n + x) := by funext l; simp [Function.comp, Nat.add_assoc]
          rw [e2] at ih
          exact ih
        · have := h (n + l) (by simp only [CL.wide, CK.wide]; omega)
          simp only [CL.cell, CK.wide] at this
          rw [blt_f (show n ≤ n + l from by omega), cond_false, show n + l - n = l from by omega, ← Nat.add_assoc] at this
          exact this
    | int k => exact key _ rfl rfl (fun y hy => one hy) (by simpa [CL.segs, segNeeds] using hn)
    | bool => exact key _ rfl rfl (fun y hy => one hy) (by simpa [CL.segs, segNeeds] using hn)
    | str => exact key _ rfl rfl (fun y hy => one hy) (by simpa [CL.segs, segNeeds] using hn)
    | ints k => exact key _ rfl rfl (fun y hy => one hy) (by simpa [CL.segs, segNeeds] using hn)
    | strs => exact key _ rfl rfl (fun y hy => one hy) (by simpa [CL.segs, segNeeds] using hn)
    | bools => exact key _ rfl rfl (fun y hy => one hy) (by simpa [CL.segs, segNeeds] using hn)
    | rows ds => exact key _ rfl rfl (fun y hy => one hy) (by simpa [CL.segs, segNeeds] using hn)

theorem elemLoad_ok {isA : Bool} {c : Con} {i j sz : Nat} {t : TypeId} {q : Res} (h : (elemLoad isA c i j sz).eval H = some q) (hn : Needs q.need) (hag : aggT P t = some isA) (hsz : szOf P t = some sz) {b o : Nat} {us : Nat → Value}
    (hc : ∀ l, l < c.size → w.cell? ⟨b, o + l, none⟩ = some (us l) ∧ DenS O w (c.cell i l) (us l)) : ValOK P ρ H O w q (Instr.loadAt t (.pointer (some ⟨b, o + j, none⟩))) := by
  unfold elemLoad at h
  cases isA
  · simp only [cond_false] at h
    rw [Bool.cond_eq_ite] at h
    split at h
    · rename_i hlt
      have hlt : j < c.size := by simpa [Nat.blt, Nat.lt_iff_add_one_le] using hlt
      exact plain_ok h (fun _ => ⟨us j, run_loadVar_one hag (hc j hlt).1, DenV_s (hc j hlt).2⟩) hn
    · cases h
  · simp only [cond_true] at h
    split at h
    · rename_i cs xs
      split at h
      · rename_i ss hss
        refine plain_ok h (fun hneed => ?_) hn
        have hd := CL_segs_ok (ρ := ρ) (H := H) cs (xs.getD i (CL.d cs)) us 0 (fun l hl => by rw [Nat.zero_add]; exact (hc l hl).2) hneed
        simp only [Nat.zero_add] at hd
        simp only [Option.bind_eq_some_iff] at hss
        obtain ⟨s1, h4, h5⟩ := hss
        obtain ⟨h6, h7⟩ := dropSegs_ok _ j h4 hd
        obtain ⟨h8, h9⟩ := takeSegs_ok s1 sz h5 h7
        refine ⟨_, run_loadVar_agg (cs := (((List.range (CL.wide cs)).map us).drop j).take sz) hag hsz (by simp at h8 ⊢; omega) (fun l v hv => ?_), ofSegs_ok h9⟩
        rw [List.getElem?_take] at hv
        split at hv
        · rw [List.getElem?_drop] at hv
          obtain ⟨hlt, rfl⟩ := range_map_get hv
          rw [Nat.add_assoc]
          exact (hc (j + l) hlt).1
        · cases hv
      · cases h
    · rw [Bool.cond_eq_ite] at h
      split at h
      · rename_i hle
        have hle := Nat.le_of_ble_eq_true hle
        refine plain_ok h (fun _ => ⟨_, run_loadVar_agg (cs := (List.range sz).map fun l => us (j + l)) hag hsz (by simp) (fun l v hv => ?_), ?_⟩) hn
        · obtain ⟨hlt, rfl⟩ := range_map_get hv
          rw [Nat.add_assoc]
          exact (hc (j + l) (by omega)).1
        · unfold DenV
          exact ⟨_, rfl, DenSegs_svs sz (fun l => c.cell i (j + l)) (fun l => us (j + l)) (fun l hl => (hc (j + l) (by omega)).2)⟩
      · cases h


theorem loadR_ok {t : TypeId} {a : AV} {va : Value} {q : Res} (h : (loadR P t a).eval H = some q) (hn : Needs q.need) (hs : Sat ρ H G w) (hd : DenV ρ H (Hot ρ H G) w a va) :
    ValOK P ρ H (Hot ρ H G) w q (Instr.loadAt t va) := by
  unfold loadR at h
  split at h
  · rename_i sz isA hsz hag
    split at h
    · -- ptr
      rename_i id off
      unfold DenV Den1 at hd
      obtain ⟨b, hb, rfl, _⟩ := hd
      simp only [RM.eval] at h
      split at h
      · rename_i segs e ho
        obtain ⟨cells, fr, h1, h2, h3⟩ := own_obj hs ho hb
        cases isA
        · simp only [cond_false] at h
          split at h
          · rename_i v hv
            obtain ⟨u, h4, h5, h6⟩ := cellAt_ok segs off hv h3
            exact plain_ok h (fun _ => ⟨u, run_loadVar_one hag (by rw [cell_of_blk h1]; exact h4), h6⟩) hn
          · cases h
        · simp only [cond_true] at h
          split at h
          · rename_i ss hss
            simp only [Option.bind_eq_some_iff] at hss
            obtain ⟨s1, h4, h5⟩ := hss
            obtain ⟨h6, h7⟩ := dropSegs_ok segs off h4 h3
            obtain ⟨h8, h9⟩ := takeSegs_ok s1 sz h5 h7
            refine plain_ok h (fun _ => ⟨_, run_loadVar_agg (cs := (cells.drop off).take sz) hag hsz (by simp at h8 ⊢; omega) (fun j v hj => ?_), ofSegs_ok h9⟩) hn
            rw [cell_of_blk h1]
            rw [List.getElem?_take] at hj
            split at hj
            · simpa using hj
            · cases hj
          · cases h
      · cases h
    · -- ptrx
      rename_i id off n i
      unfold DenV Den1 at hd
      obtain ⟨hin, b, hb, rfl, _⟩ := hd
      simp only [RM.eval] at h
      split at h
      · rename_i segs e ho
        obtain ⟨cells, fr, h1, h2, h3⟩ := own_obj hs ho hb
        split at h
        · rename_i k m ws hrow
          rw [Bool.cond_eq_ite] at h
          split at h
          · rename_i hc
            simp only [Bool.and_eq_true, Bool.not_eq_true', Nat.beq_eq] at hc
            obtain ⟨rfl, rfl⟩ := hc
            obtain ⟨hl, pre, post, rfl, hp⟩ := rowAt'_ok segs off hrow h3
            have hi : i < ws.length := by omega
            refine plain_ok h (fun _ => ⟨.int k (ws.getD i 0), run_loadVar_one hag ?_, DenV_s (.int _ _)⟩) hn
            rw [cell_of_blk h1, List.append_assoc, List.getElem?_append_right (by omega), List.getElem?_append_left (by simp; omega)]
            rw [show off + i - pre.length = i from by omega]
            simp [hi]
          · cases h
        · cases h
      · cases h
    · -- eptr
      unfold DenV Den1 at hd
      obtain ⟨b, o, us, rfl, _, _, hc⟩ := hd
      exact elemLoad_ok h hn hag hsz hc
    · -- vptr
      rename_i id i j
      unfold DenV Den1 at hd
      obtain ⟨_, o, ho, hv⟩ := hd
      simp only [RM.eval] at h
      split at h
      · rename_i c e ho'
        rw [ho] at ho'
        cases ho'
        obtain ⟨hi, hj, b, f, n, cap, hroot, rfl⟩ := hv c e rfl
        obtain ⟨us, hc⟩ := vec_cells hs ho hi hroot
        exact elemLoad_ok (us := fun l => us i l) h hn hag hsz (fun l hl => hc i l hi hl)
      · cases h
    · cases h
  · cases h
end
end Go.Sx

/-! Addresses, parts, lengths: operations that give a value and leave the world alone. -/
namespace Go.Sx
open Go

section
variable {ρ ρ' : Nat → Value} {H H' : AHeap} {G O O' : Nat → Prop} {w w' : World} {P : Program}

theorem slice_inj {a a' : Option Addr} {n n' c c' : Nat} (h : Value.slice a n c = .slice a' n' c') : a' = a ∧ c' = c := by
  cases h; exact ⟨rfl, rfl⟩

theorem fieldAt_run {t : TypeId} {fs : Array Field} {f : Nat} {fd : Field} {n b off : Nat} (ht : P.underlying t = some (.struct fs)) (hf : fs[f]? = some fd) (hs : szOf P fd.type = some n) (hn : 1 ≤ n) (w : World) :
    (Instr.fieldAt t (.pointer (some ⟨b, off, none⟩)) f).run P w = .ok (.pointer (some ⟨b, off + fd.offset, none⟩)) w := by
  have h0 : ¬ n = 0 := by omega
  simp [Instr.fieldAt, run_underlying ht, hf, Instr.sureAddr, fieldPlace, run_sizeOf hs, h0, add_zero_spot]

theorem fieldAddrR_ok {t : TypeId} {x : AV} {f : Nat} {vx : Value} {q : Res} (h : (fieldAddrR P t x f).eval H = some q) (hn : Needs q.need) (hd : DenV ρ H O w x vx) :
    ValOK P ρ H O w q (Instr.fieldAt t vx f) := by
  unfold fieldAddrR at h
  split at h
  · rename_i fs ht
    split at h
    · rename_i fd hf
      rw [Bool.cond_eq_ite] at h
      split at h
      · rename_i hsz
        obtain ⟨n, hs, hn1⟩ : ∃ n, szOf P fd.type = some n ∧ 1 ≤ n := by
          cases hs : szOf P fd.type with
          | none => simp [hs] at hsz
          | some n => exact ⟨n, rfl, Nat.le_of_ble_eq_true (by simpa [hs] using hsz)⟩
        split at h
        · rename_i id off
          unfold DenV Den1 at hd
          obtain ⟨b, hb, rfl, hi⟩ := hd
          exact plain_ok h (fun _ => ⟨_, fieldAt_run ht hf hs hn1 w, by unfold DenV Den1; exact ⟨b, hb, rfl, hi⟩⟩) hn
        · rename_i c m j
          unfold DenV Den1 at hd
          obtain ⟨b, o, us, rfl, h1⟩ := hd
          exact plain_ok h (fun _ => ⟨_, fieldAt_run ht hf hs hn1 w, by unfold DenV Den1; exact ⟨b, o, us, by rw [Nat.add_assoc], h1⟩⟩) hn
        · rename_i id i j
          simp only [RM.eval] at h
          split at h
          · rename_i c e ho
            rw [Bool.cond_eq_ite] at h
            split at h
            · rename_i hlt
              have hlt : j + fd.offset < c.size := by simpa [Nat.blt, Nat.lt_iff_add_one_le] using hlt
              unfold DenV Den1 at hd
              obtain ⟨h1, o, ho', hv⟩ := hd
              rw [ho] at ho'
              cases ho'
              obtain ⟨hi, hj, b, f', n', cap, hroot, rfl⟩ := hv c e rfl
              refine plain_ok h (fun _ => ⟨_, fieldAt_run ht hf hs hn1 w, ?_⟩) hn
              unfold DenV Den1
              refine ⟨rfl, _, ho, fun c' e' hc => ?_⟩
              cases hc
              exact ⟨hi, hlt, b, f', n', cap, hroot, by rw [Nat.add_assoc]⟩
            · cases h
          · cases h
        · cases h
      · cases h
    · cases h
  · cases h

theorem indexAt_slice_run {t e : TypeId} {n b o len cap : Nat} {k : IntKind} {i : Int} (ht : P.underlying t = some (.slice e)) (hs : szOf P e = some n) (h0 : 0 ≤ i) (h1 : i < len) (w : World) :
    (Instr.indexAt t (.slice (some ⟨b, o, none⟩) len cap) (.int k i)).run P w = .ok (.pointer (some ⟨b, o + i.toNat * n, none⟩)) w := by
  simp [Instr.indexAt, run_underlying ht, asIntOf, run_sizeOf hs, h0, h1, add_zero_spot]

theorem indexAt_array_run {t e : TypeId} {n b o len : Nat} {k : IntKind} {i : Int} (ht : P.underlying t = some (.array len e)) (hs : szOf P e = some n) (h0 : 0 ≤ i) (h1 : i < len) (w : World) :
    (Instr.indexAt t (.pointer (some ⟨b, o, none⟩)) (.int k i)).run P w = .ok (.pointer (some ⟨b, o + i.toNat * n, none⟩)) w := by
  simp [Instr.indexAt, run_underlying ht, asIntOf, Instr.sureAddr, run_sizeOf hs, h0, h1, add_zero_spot]

theorem indexAddrR_ok {t : TypeId} {x i : AV} {vx vi : Value} {q : Res} (h : (indexAddrR P t x i).eval H = some q) (hn : Needs q.need) (hs : Sat ρ H G w) (hd : DenV ρ H (Hot ρ H G) w x vx) (hi : DenV ρ H (Hot ρ H G) w i vi) :
    ValOK P ρ H (Hot ρ H G) w q (Instr.indexAt t vx vi) := by
  unfold indexAddrR at h
  split at h
  · rename_i k lit n e hnum ht
    obtain rfl := num_den hnum hi
    split at h
    · rename_i sz c hsz
      rw [Bool.cond_eq_ite] at h
      split at h
      · rename_i he
        have he : sz = c.size := by simpa using he
        have hx := DenS_of_V (by simp) hd
        cases hx with
        | ro _ a cap us b o h1 h2 h3 h4 h5 =>
          refine plain_ok h (fun hne => ?_) hn
          obtain ⟨h6, h7, _⟩ := hne
          have hlt : n.toNat < c.n := by omega
          obtain ⟨rfl, h8, h9⟩ := h3 (by omega)
          refine ⟨_, indexAt_slice_run ht hsz h6 h7 w, ?_⟩
          unfold DenV Den1
          refine ⟨b, o + n.toNat * c.size, fun j => us n.toNat j, by rw [he]; rfl, h8, h9, fun j hj => ⟨h4 _ _ hlt hj, h5 _ _ hlt hj⟩⟩
      · cases h
    · rename_i sz id hsz
      simp only [RM.eval] at h
      split at h
      · rename_i c e' ho
        rw [Bool.cond_eq_ite] at h
        split at h
        · rename_i he
          simp only [Bool.and_eq_true, Nat.beq_eq] at he
          obtain ⟨rfl, hge⟩ := he
          have hge := Nat.le_of_ble_eq_true hge
          unfold DenV Den1 at hd
          obtain ⟨_, o, ho', hv⟩ := hd
          rw [ho] at ho'
          cases ho'
          obtain rfl := hv c e' rfl
          obtain ⟨a, cap, hr, h2, h3, h4⟩ := hs.obj id _ ho
          refine plain_ok h (fun hne => ?_) hn
          obtain ⟨h6, h7, _⟩ := hne
          rcases h4 with h4 | ⟨b, o, cells, fr, us, rfl, h5, _⟩
          · omega
          · refine ⟨.pointer (some ⟨b, o + n.toNat * c.size, none⟩), by rw [hr]; exact indexAt_slice_run ht hsz h6 h7 w, ?_⟩
            unfold DenV Den1
            refine ⟨rfl, _, ho, fun c' e'' hc => ?_⟩
            cases hc
            exact ⟨by omega, by omega, b, o, c.n, cap, hr, rfl⟩
        · cases h
      · cases h
    · rename_i sz id lo m hsz
      simp only [RM.eval] at h
      split at h
      · rename_i c e' ho
        rw [Bool.cond_eq_ite] at h
        split at h
        · rename_i he
          simp only [Bool.and_eq_true, Nat.beq_eq] at he
          obtain ⟨rfl, hge⟩ := he
          have hge := Nat.le_of_ble_eq_true hge
          unfold DenV Den1 at hd
          obtain ⟨_, o, ho', hv⟩ := hd
          rw [ho] at ho'
          cases ho'
          obtain ⟨hlm, a0, cap0, a', hr0, hcap0, rfl, ha'⟩ := hv c e' rfl
          obtain ⟨a, cap, hr, h2, h3, h4⟩ := hs.obj id _ ho
          obtain ⟨rfl, rfl⟩ := slice_inj (hr0.symm.trans hr)
          refine plain_ok h (fun hne => ?_) hn
          obtain ⟨h6, h7, _⟩ := hne
          rcases h4 with h4 | ⟨b, o, cells, fr, us, rfl, h5, _⟩
          · omega
          · refine ⟨.pointer (some ⟨b, o + lo * c.size + n.toNat * c.size, none⟩), ?_, ?_⟩
            · rw [ha' (by omega)]
              simp only [Option.map_some, add_zero_spot]
              exact indexAt_slice_run ht hsz h6 h7 w
            · unfold DenV Den1
              refine ⟨rfl, _, ho, fun c' e'' hc => ?_⟩
              cases hc
              exact ⟨by omega, by omega, b, o, c.n, cap, hr, by rw [Nat.add_mul, Nat.add_assoc]; rfl⟩
        · cases h
      · cases h
    · cases h
  · rename_i k lit n len e hnum ht
    obtain rfl := num_den hnum hi
    split at h
    · rename_i sz id off hsz
      unfold DenV Den1 at hd
      obtain ⟨b, hb, rfl, hid⟩ := hd
      cases lit
      · simp only [cond_false] at h
        rw [Bool.cond_eq_ite] at h
        split at h
        · rename_i h1
          have h1 : sz = 1 := by simpa using h1
          subst h1
          refine plain_ok h (fun hne => ?_) hn
          obtain ⟨h6, h7, _⟩ := hne
          exact ⟨_, indexAt_array_run ht hsz h6 h7 w, by unfold DenV Den1; exact ⟨by omega, b, hb, by simp, hid⟩⟩
        · cases h
      · simp only [cond_true] at h
        rw [Bool.cond_eq_ite] at h
        split at h
        · rename_i h1
          simp only [Bool.and_eq_true, decide_eq_true_eq] at h1
          exact plain_ok h (fun _ => ⟨_, indexAt_array_run ht hsz h1.1 h1.2 w, by unfold DenV Den1; exact ⟨b, hb, rfl, hid⟩⟩) hn
        · cases h
    · rename_i sz id i0 hsz
      simp only [RM.eval] at h
      split at h
      · rename_i c e' ho
        rw [Bool.cond_eq_ite] at h
        split at h
        · rename_i he
          simp only [Bool.and_eq_true, Nat.beq_eq] at he
          obtain ⟨rfl, hge⟩ := he
          unfold DenV Den1 at hd
          obtain ⟨_, o, ho', hv⟩ := hd
          rw [ho] at ho'
          cases ho'
          obtain ⟨hi0, hc0, b, f, n', cap, hr, rfl⟩ := hv c e' rfl
          refine plain_ok h (fun hne => ?_) hn
          obtain ⟨h6, h7, h8, _⟩ := hne
          refine ⟨_, indexAt_array_run ht hsz h6 h7 w, ?_⟩
          unfold DenV Den1
          refine ⟨rfl, _, ho, fun c' e'' hc => ?_⟩
          cases hc
          exact ⟨by omega, by omega, b, f, n', cap, hr, by rw [Nat.add_mul]; congr 3; omega⟩
        · cases h
      · cases h
    · cases h
  · cases h

theorem indexR_ok {t : TypeId} {x i : AV} {vx vi : Value} {q : Res} (h : (indexR P t x i).eval H = some q) (hn : Needs q.need) (hd : DenV ρ H O w x vx) (hi : DenV ρ H O w i vi) :
    ValOK P ρ H O w q (Instr.index t vx vi) := by
  unfold indexR at h
  split at h
  · rename_i k lit n len e kk m ws hnum ht
    obtain rfl := num_den hnum hi
    rw [Bool.cond_eq_ite] at h
    split at h
    · rename_i hc
      simp only [Bool.and_eq_true, Nat.beq_eq] at hc
      obtain ⟨⟨rfl, hag⟩, hsz⟩ := hc
      have hag' : aggT P e = some false := by cases ha : aggT P e with | none => simp [ha] at hag | some b => simp [ha] at hag; rw [hag]
      have hsz' : szOf P e = some 1 := by cases ha : szOf P e with | none => simp [ha] at hsz | some b => simp [ha] at hsz; rw [hsz]
      unfold DenV at hd
      obtain ⟨hl, rfl⟩ := hd
      refine plain_ok h (fun hne => ?_) hn
      obtain ⟨h6, h7, _⟩ := hne
      have hlt : n.toNat < ws.length := by omega
      refine ⟨.int kk (ws.getD n.toNat 0), ?_, DenV_s (.int _ _)⟩
      simp [Instr.index, run_underlying ht, asIntOf, h6, h7, run_sizeOf hsz', part, run_isAgg hag', hlt]
    · cases h
  · rename_i k lit n s hnum ht
    obtain rfl := num_den hnum hi
    obtain rfl := str_den hd
    refine plain_ok h (fun hne => ?_) hn
    obtain ⟨h6, h7, _⟩ := hne
    have hlt : n.toNat < s.size := by omega
    refine ⟨.int .u8 (byteAt s n.toNat), ?_, DenV_s (.int _ _)⟩
    have hb : s[n.toNat]? = some s.data[n.toNat] := by
      simp only [getElem?, decidableGetElem?]
      rw [dif_pos hlt]
      rfl
    have hlt' : n.toNat < s.data.size := hlt
    simp [Instr.index, run_underlying ht, asIntOf, h6, hb, byteAt]
    rw [Array.getElem?_eq_getElem hlt']
    rfl
  · rename_i k lit n len e segs hnum ht
    obtain rfl := num_den hnum hi
    rw [Bool.cond_eq_ite] at h
    split at h
    · rename_i hc
      simp only [Bool.and_eq_true] at hc
      obtain ⟨hag, hsz⟩ := hc
      have hag' : aggT P e = some false := by cases ha : aggT P e with | none => simp [ha] at hag | some b => simp [ha] at hag; rw [hag]
      have hsz' : szOf P e = some 1 := by cases ha : szOf P e with | none => simp [ha] at hsz | some b => simp [ha] at hsz; rw [hsz]
      unfold DenV at hd
      obtain ⟨cs, rfl, hsegs⟩ := hd
      split at h
      · rename_i v hv
        obtain ⟨u, h4, h5, h6⟩ := cellAt_ok segs _ hv hsegs
        refine plain_ok h (fun hne => ⟨u, ?_, h6⟩) hn
        obtain ⟨h7, h8, _⟩ := hne
        simp [Instr.index, run_underlying ht, asIntOf, h7, h8, run_sizeOf hsz', part, run_isAgg hag', h4]
      · cases h
    · cases h
  · cases h

theorem fieldR_ok {t : TypeId} {x : AV} {f : Nat} {vx : Value} {q : Res} (h : (fieldR P t x f).eval H = some q) (hn : Needs q.need) (hd : DenV ρ H O w x vx) :
    ValOK P ρ H O w q (Instr.field t vx f) := by
  unfold fieldR at h
  split at h
  · rename_i fs segs ht
    unfold DenV at hd
    obtain ⟨cs, rfl, hsegs⟩ := hd
    split at h
    · rename_i fd hf
      split at h
      · rename_i sz hsz hag
        split at h
        · rename_i ss hss
          simp only [Option.bind_eq_some_iff] at hss
          obtain ⟨s1, h4, h5⟩ := hss
          obtain ⟨h6, h7⟩ := dropSegs_ok segs _ h4 hsegs
          obtain ⟨h8, h9⟩ := takeSegs_ok s1 sz h5 h7
          refine plain_ok h (fun _ => ⟨.agg ((cs.drop fd.offset).take sz).toArray, ?_, ofSegs_ok h9⟩) hn
          simp [Instr.field, run_underlying ht, hf, asAgg, part, run_isAgg hag, run_sizeOf hsz, List.extract_eq_take_drop]
        · cases h
      · rename_i sz hsz hag
        split at h
        · rename_i v hv
          obtain ⟨u, h4, h5, h6⟩ := cellAt_ok segs _ hv hsegs
          refine plain_ok h (fun _ => ⟨u, ?_, h6⟩) hn
          simp [Instr.field, run_underlying ht, hf, asAgg, part, run_isAgg hag, h4]
        · cases h
      · cases h
    · cases h
  · cases h

theorem DenL_get : ∀ {xs : List AV} {vs : List Value} {i : Nat} {x : AV}, DenL ρ H O w xs vs → xs[i]? = some x → ∃ v, vs[i]? = some v ∧ DenV ρ H O w x v
  | [], vs, i, x, _, hx => by simp at hx
  | a :: azs, vs, i, x, h, hx => by
    obtain ⟨v, rest, rfl, h1, h2⟩ := DenL_cons.1 h
    cases i with
    | zero => simp at hx; subst hx; exact ⟨v, rfl, h1⟩
    | succ i => obtain ⟨u, h3, h4⟩ := DenL_get (i := i) h2 (by simpa using hx); exact ⟨u, by simpa using h3, h4⟩

theorem extractR_ok {x : AV} {i : Nat} {vx : Value} {q : Res} (h : (extractR x i).eval H = some q) (hn : Needs q.need) (hd : DenV ρ H O w x vx) :
    ValOK P ρ H O w q (Instr.extract vx i) := by
  unfold extractR at h
  split at h
  · rename_i vs
    unfold DenV at hd
    obtain ⟨us, rfl, hl⟩ := hd
    split at h
    · rename_i v hv
      obtain ⟨u, h1, h2⟩ := DenL_get hl hv
      exact plain_ok h (fun _ => ⟨u, by simp [Instr.extract, h1], h2⟩) hn
    · cases h
  · cases h

theorem vec_val (hs : Sat ρ H G w) {id : Nat} {c : Con} {e : TypeId} {v : Value} (ho : H id = some (.vec c e)) (hd : DenV ρ H O w (.vec id) v) : ∃ a cap, v = .slice a c.n cap ∧ ρ id = v ∧ c.n ≤ cap ∧ cap ≤ maxLen := by
  unfold DenV Den1 at hd
  obtain ⟨_, o, ho', hv⟩ := hd
  rw [ho] at ho'
  cases ho'
  obtain ⟨a, cap, h1, h2, h3, _⟩ := hs.obj id _ ho
  exact ⟨a, cap, by rw [hv c e rfl, h1], (hv c e rfl).symm, h2, h3⟩

/-- What a part of an own row is. -/
theorem part_val (hs : Sat ρ H G w) {id lo n : Nat} {c : Con} {e : TypeId} {v : Value} (ho : H id = some (.vec c e)) (hd : DenV ρ H O w (.part id lo n) v) :
    lo + n ≤ c.n ∧ ∃ a cap a', ρ id = .slice a c.n cap ∧ c.n ≤ cap ∧ cap ≤ maxLen ∧ v = .slice a' n (cap - lo) ∧ (cap ≠ lo → a' = a.map (·.add (lo * c.size))) ∧ (cap ≠ 0 → ∃ b o, a = some ⟨b, o, none⟩) := by
  unfold DenV Den1 at hd
  obtain ⟨_, o, ho', hv⟩ := hd
  rw [ho] at ho'
  cases ho'
  obtain ⟨h0, a, cap, a', h1, h2, h3, h4⟩ := hv c e rfl
  obtain ⟨a2, cap2, g1, g2, g3, g4⟩ := hs.obj id _ ho
  obtain ⟨rfl, rfl⟩ := slice_inj (h1.symm.trans g1)
  refine ⟨h0, _, _, a', h1, h2, g3, h3, h4, fun hc => ?_⟩
  rcases g4 with g4 | ⟨b, o, _, _, _, g5, _⟩
  · exact absurd g4 hc
  · exact ⟨b, o, g5⟩

theorem lenR_ok {t ty : TypeId} {ts : List TypeId} {x : AV} {vx : Value} {q : Res} (h : (lenR P t x).eval H = some q) (hn : Needs q.need) (hs : Sat ρ H G w) (hd : DenV ρ H O w x vx) :
    ValOK P ρ H O w q (Builtin.len_ (t :: ts).toArray ty #[vx]) := by
  unfold lenR at h
  split at h
  · rename_i s ht
    obtain rfl := str_den hd
    exact plain_ok h (fun _ => ⟨_, by simp [Builtin.len_, run_underlying ht]; rfl, DenV_s (.int _ _)⟩) hn
  · rename_i n e ht
    exact plain_ok h (fun _ => ⟨_, by cases vx <;> simp [Builtin.len_, run_underlying ht] <;> rfl, DenV_s (.ilit _ _)⟩) hn
  · rename_i e c ht
    have hx := DenS_of_V (by simp) hd
    cases hx
    exact plain_ok h (fun _ => ⟨_, by simp [Builtin.len_, run_underlying ht]; rfl, DenV_s (.int _ _)⟩) hn
  · rename_i e c k ht
    have hx := DenS_of_V (by simp) hd
    cases hx with
    | rot _ _ a n cap h1 h2 =>
      cases h1
      exact plain_ok h (fun _ => ⟨_, by simp [Builtin.len_, run_underlying ht]; rfl, DenV_s (.int _ _)⟩) hn
  · rename_i e ht
    unfold DenV at hd
    obtain ⟨a, rfl⟩ := hd
    exact plain_ok h (fun _ => ⟨_, by simp [Builtin.len_, run_underlying ht]; rfl, DenV_s (.ilit _ _)⟩) hn
  · rename_i e id ht
    simp only [RM.eval] at h
    split at h
    · rename_i c e' ho
      obtain ⟨a, cap, rfl, _⟩ := vec_val hs ho hd
      exact plain_ok h (fun _ => ⟨_, by simp [Builtin.len_, run_underlying ht]; rfl, DenV_s (.int _ _)⟩) hn
    · cases h
  · rename_i e id lo n ht
    simp only [RM.eval] at h
    split at h
    · rename_i c e' ho
      obtain ⟨_, a, cap, a', _, _, _, rfl, _⟩ := part_val hs ho hd
      exact plain_ok h (fun _ => ⟨_, by simp [Builtin.len_, run_underlying ht]; rfl, DenV_s (.int _ _)⟩) hn
    · cases h
  · rename_i kt et id ht
    simp only [RM.eval] at h
    split at h
    · rename_i ck m ho
      unfold DenV Den1 at hd
      obtain ⟨b, hb, rfl, _⟩ := hd
      obtain ⟨b', es, clock, h1, h2, h3⟩ := hs.obj id _ ho
      rw [hb] at h1
      cases h1
      have e1 : (getObj b).run P w = .ok (.map es clock) w := by simp [getObj, Sem.run, h2]
      have e2 : es.size = m.length := by have := congrArg List.length h3.eq; simpa using this
      exact plain_ok h (fun _ => ⟨.int .i64 m.length, by simp [Builtin.len_, run_underlying ht, e1, e2]; rfl, DenV_s (.int _ _)⟩) hn
    · cases h
  · cases h

theorem capR_ok {t ty : TypeId} {ts : List TypeId} {x : AV} {vx : Value} {q : Res} (h : (capR P t x).eval H = some q) (hn : Needs q.need) (hs : Sat ρ H G w) (hd : DenV ρ H O w x vx) :
    ValOK P ρ H O w q (Builtin.cap_ (t :: ts).toArray ty #[vx]) := by
  unfold capR at h
  split at h
  · rename_i e c k ht
    have hx := DenS_of_V (by simp) hd
    cases hx with
    | rot _ _ a n cap h1 h2 => exact plain_ok h (fun _ => ⟨_, by simp [Builtin.cap_, run_underlying ht]; rfl, DenV_s (.caplt _ _ (by omega))⟩) hn
  · rename_i e id ht
    simp only [RM.eval] at h
    split at h
    · rename_i c e' ho
      obtain ⟨a, cap, rfl, _, hle, _⟩ := vec_val hs ho hd
      exact plain_ok h (fun _ => ⟨_, by simp [Builtin.cap_, run_underlying ht]; rfl, DenV_s (.capge _ _ (by omega))⟩) hn
    · cases h
  · rename_i e id lo n ht
    simp only [RM.eval] at h
    split at h
    · rename_i c e' ho
      obtain ⟨_, a, cap, a', _, hle, _, rfl, _⟩ := part_val hs ho hd
      exact plain_ok h (fun _ => ⟨_, by simp [Builtin.cap_, run_underlying ht]; rfl, DenV_s (.capge _ _ (by omega))⟩) hn
    · cases h
  · cases h

theorem eqGuard_slice (op : BinOp) (t : TypeId) (x y : Operand) (a b : Option Addr) (n c m d : Nat) : (eqGuard op t x y (.slice a n c) (.slice b m d)).run P w = .ok () w := by
  cases op <;> simp [eqGuard]

theorem nilR_ok {op : BinOp} {t : TypeId} {x : AV} {ox oy : Operand} {vx vy : Value} {q : Res} (h : (nilR P op t x).eval H = some q) (hn : Needs q.need) (hs : Sat ρ H G w)
    (hx : DenV ρ H O w x vx) (hy : vy = .slice none 0 0) : ValOK P ρ H O w q (do eqGuard op t ox oy vx vy; binOp op t vx vy : Sem Value) := by
  subst hy
  have key : ∀ e, P.underlying t = some (.slice e) → (op = .eql ∨ op = .neq) → ∀ a n c n', vx = .slice a n c → (a = none → n' = 0) → (plain [] (.s (.anyb n' (isEql op)))).eval H = some q → ValOK P ρ H O w q (do eqGuard op t ox oy vx (.slice none 0 0); binOp op t vx (.slice none 0 0) : Sem Value) := by
    rintro e ht hop a n c n' rfl ha h
    refine plain_ok h (fun _ => ?_) hn
    rcases hop with rfl | rfl
    · exact ⟨.bool a.isNone, by simp [eqGuard_slice, Lib.run_eql_slice_nil w t e a n c 0 0 ht], DenV_s (.anyb _ _ _ (fun e => ha (by simpa [isEql] using e)))⟩
    · exact ⟨.bool (!a.isNone), by simp [eqGuard_slice, run_neq_slice_nil_any w t e a n c 0 0 ht], DenV_s (.anyb _ _ _ (fun e => ha (by simpa [isEql] using e)))⟩
  have key2 : ∀ x, DenV ρ H O w x vx → (op = .eql ∨ op = .neq) → (match P.underlying t with
    | some (.slice _) =>
      match x with
      | .s (.ro c) => plain [] (.s (.anyb c.n (isEql op)))
      | .emp => plain [] (.s (.anyb 0 (isEql op)))
      | .vec id => .look id fun o => match o with
        | some (.vec c _) => plain [] (.s (.anyb c.n (isEql op)))
        | _ => .fail "== nil: no row"
      | _ => .fail "== nil"
    | _ => .fail "== nil: the type" : RM Res).eval H = some q → ValOK P ρ H O w q (do eqGuard op t ox oy vx (.slice none 0 0); binOp op t vx (.slice none 0 0) : Sem Value) := by
    intro x hx hop h
    split at h
    · rename_i e ht
      split at h
      · have h1 := DenS_of_V (by simp) hx
        cases h1 with
        | ro c a cap us b o q1 q2 q3 q4 q5 => exact key e ht hop _ _ _ _ rfl (fun ha => Decidable.byContradiction fun hn0 => by have := (q3 (Nat.pos_of_ne_zero hn0)).1; rw [ha] at this; cases this) h
      · unfold DenV at hx
        obtain ⟨a, rfl⟩ := hx
        exact key e ht hop _ _ _ _ rfl (fun _ => rfl) h
      · simp only [RM.eval] at h
        split at h
        · rename_i ho
          obtain ⟨a, cap, rfl, hroot, hle, _⟩ := vec_val hs ho hx
          refine key e ht hop _ _ _ _ rfl (fun ha => ?_) h
          obtain ⟨a2, cap2, hroot2, _, _, h3⟩ := hs.obj _ _ ho
          rw [hroot] at hroot2
          cases hroot2
          rcases h3 with h3 | ⟨_, _, _, _, _, h3, _⟩
          · omega
          · rw [ha] at h3; cases h3
        · cases h
      · cases h
    · cases h
  unfold nilR at h
  split at h
  · exact key2 x hx (.inl rfl) h
  · exact key2 x hx (.inr rfl) h
  · cases h

theorem capCmpR_ok {op : BinOp} {t : TypeId} {x y : AV} {ox oy : Operand} {vx vy : Value} {q : Res} (h : (capCmpR op x y).eval H = some q) (hn : Needs q.need)
    (hx : DenV ρ H O w x vx) (hy : DenV ρ H O w y vy) : ValOK P ρ H O w q (do eqGuard op t ox oy vx vy; binOp op t vx vy : Sem Value) := by
  unfold capCmpR at h
  split at h
  · rename_i l a b h1
    obtain rfl := num_den h1 hx
    have hy := DenS_of_V (by simp) hy
    cases hy with
    | capge _ n hge =>
      refine plain_ok h (fun hne => ?_) hn
      obtain ⟨h3, _⟩ := hne
      refine ⟨.bool false, ?_, DenV_s (.blit _)⟩
      have : ¬ a > n := by omega
      simp [eqGuard_int, binOp, Op.intCmp, this]
  · rename_i l a b h1
    obtain rfl := num_den h1 hx
    have hy := DenS_of_V (by simp) hy
    cases hy with
    | caplt _ n hlt =>
      refine plain_ok h (fun hne => ?_) hn
      obtain ⟨h3, _⟩ := hne
      refine ⟨.bool true, ?_, DenV_s (.blit _)⟩
      have : a > n := by omega
      simp [eqGuard_int, binOp, Op.intCmp, this]
  · cases h

theorem relax_den {x : AV} {v : Value} (h : DenV ρ H O w x v) : DenV ρ H O w (relax x) v := by
  unfold relax
  split
  · have h1 := DenS_of_V (by simp) h
    cases h1
    unfold DenV
    exact ⟨none, rfl⟩
  · exact h

theorem nils_den {x : AV} {v : Value} (h : DenV ρ H O w x v) (hx : isNils x = true) : v = .slice none 0 0 := by
  unfold isNils at hx
  split at hx
  · have h1 := DenS_of_V (by simp) h
    cases h1
    rfl
  · cases hx

theorem minR_ok {ts : Array TypeId} {ty : TypeId} {mx : Bool} {x y : AV} {vx vy : Value} {q : Res} (h : (minR mx x y).eval H = some q) (hn : Needs q.need) (hx : DenV ρ H O w x vx) (hy : DenV ρ H O w y vy) :
    ValOK P ρ H O w q (if mx then Builtin.max_ ts ty #[vx, vy] else Builtin.min_ ts ty #[vx, vy]) := by
  unfold minR at h
  split at h
  · rename_i k lx a k' ly b h1 h2
    obtain rfl := num_den h1 hx
    obtain rfl := num_den h2 hy
    rw [Bool.cond_eq_ite] at h
    split at h
    · rename_i hk
      obtain rfl := kindEq_eq hk
      cases mx
      · exact plain_ok h (fun _ => ⟨_, by simp [run_min_int2, imin], mkInt_den _ _ _⟩) hn
      · exact plain_ok h (fun _ => ⟨_, by simp [run_max_int2, imax], mkInt_den _ _ _⟩) hn
    · cases h
  · cases h

theorem nilCheckR_ok {x : AV} {vx : Value} {q : Res} (h : (nilCheckR x).eval H = some q) (hn : Needs q.need) (hd : DenV ρ H O w x vx) (e : Operand → Value) (o : Oper) (y : Operand) (ho : o.op = .nilCheck y) (he : e y = vx) :
    q.up = [] ∧ q.new = [] ∧ (execOp e o).run P w = .ok (.value vx) w ∧ ∀ base, DenV ρ H O w (q.r base) vx := by
  have fin : ∀ r, (plain [] r).eval H = some q → r = x → (execOp e o).run P w = .ok (.value vx) w → q.up = [] ∧ q.new = [] ∧ (execOp e o).run P w = .ok (.value vx) w ∧ ∀ base, DenV ρ H O w (q.r base) vx := by
    intro r hr hx hrun
    simp only [plain, RM.eval, Option.some.injEq] at hr
    subst hr; subst hx
    exact ⟨rfl, rfl, hrun, fun _ => hd⟩
  unfold nilCheckR at h
  split at h
  · unfold DenV Den1 at hd; obtain ⟨b, _, rfl, _⟩ := hd; exact fin _ h rfl (by simp [execOp, ho, he])
  · unfold DenV Den1 at hd; obtain ⟨_, b, _, rfl, _⟩ := hd; exact fin _ h rfl (by simp [execOp, ho, he])
  · unfold DenV Den1 at hd; obtain ⟨b, o', us, rfl, _⟩ := hd; exact fin _ h rfl (by simp [execOp, ho, he])
  · unfold DenV at hd; obtain ⟨vs, rfl, _⟩ := hd; exact fin _ h rfl (by simp [execOp, ho, he])
  · have h1 := DenS_of_V (by simp) hd; cases h1; exact fin _ h rfl (by simp [execOp, ho, he])
  · cases h

theorem makeFuncR_ok {fn : Fn} {first caps : List AV} {vf vc : List Value} {q : Res} (h : (makeFuncR fn first caps).eval H = some q) (hn : Needs q.need) (hf : DenL ρ H O w first vf) (hc : DenL ρ H O w caps vc) :
    ValOK P ρ H O w q (Instr.makeFunc fn vf.toArray vc.toArray) := by
  unfold makeFuncR at h
  split at h
  · rename_i f
    obtain rfl := DenL_nil.1 hf
    obtain rfl := DenL_nil.1 hc
    exact plain_ok h (fun _ => ⟨_, rfl, DenV_s (.fn0 f)⟩) hn
  · rename_i f c cs
    obtain rfl := DenL_nil.1 hf
    exact plain_ok h (fun _ => ⟨_, rfl, by unfold DenV; exact ⟨vc, rfl, hc⟩⟩) hn
  · rename_i f c cs
    obtain rfl := DenL_nil.1 hc
    exact plain_ok h (fun _ => ⟨_, rfl, by unfold DenV; exact ⟨vf, rfl, hf⟩⟩) hn
  · cases h
end
end Go.Sx

/-! Pieces of strings and rows; conversions. -/
namespace Go.Sx
open Go

section
variable {ρ ρ' : Nat → Value} {H H' : AHeap} {G O O' : Nat → Prop} {w w' : World} {P : Program}

def DenOpt (ρ : Nat → Value) (H : AHeap) (O : Nat → Prop) (w : World) : Option AV → Option Value → Prop
  | none, none => True
  | some a, some v => DenV ρ H O w a v
  | _, _ => False

theorem numOr_den {d n : Int} {o : Option AV} {vo : Option Value} (h : numOr d o = some n) (hd : DenOpt ρ H O w o vo) : (vo = none ∧ n = d) ∨ ∃ k, vo = some (.int k n) := by
  cases o with
  | none =>
    cases vo with
    | none => simp only [numOr, Option.some.injEq] at h; exact .inl ⟨rfl, h.symm⟩
    | some v => exact hd.elim
  | some a =>
    cases vo with
    | none => exact hd.elim
    | some v =>
      simp only [numOr, Option.map_eq_some_iff] at h
      obtain ⟨⟨k, l, m⟩, h1, rfl⟩ := h
      exact .inr ⟨k, by rw [num_den h1 hd]⟩

theorem con_n_sub (c : Con) {l h : Nat} (_hl : l ≤ h) (hh : h ≤ c.n) : (conSub c l h).n = h - l := by
  cases c <;> simp only [conSub, Con.n, List.length_drop, List.length_take] at * <;> omega

theorem con_size_sub (c : Con) (l h : Nat) : (conSub c l h).size = c.size := by cases c <;> rfl

theorem getD_sub {α : Type} (zs : List α) (d : α) {l h i : Nat} (hi : i < h - l) : ((zs.take h).drop l).getD i d = zs.getD (l + i) d := by
  simp only [List.getD, List.getElem?_drop, List.getElem?_take]
  rw [if_pos (by omega)]

theorem con_cell_sub (c : Con) {l h i : Nat} (j : Nat) (hi : i < h - l) : (conSub c l h).cell i j = c.cell (l + i) j := by
  cases c <;> simp only [conSub, Con.cell, getD_sub _ _ hi]

theorem bytes_slice {s : ByteArray} {lo hi : Option Value} {l h : Int} (hl : (lo = none ∧ l = 0) ∨ ∃ k, lo = some (.int k l)) (hh : (hi = none ∧ h = (s.size : Int)) ∨ ∃ k, hi = some (.int k h))
    (h0 : 0 ≤ l) (h1 : l ≤ h) (h2 : h ≤ s.size) {t : TypeId} (ht : P.underlying t = some .string) (w : World) :
    (Instr.sliceAt t (.string s) lo hi none).run P w = .ok (.string (s.extract l.toNat h.toNat)) w := by
  have hle : l ≤ ((h.toNat : Nat) : Int) := by omega
  rcases hl with ⟨rfl, rfl⟩ | ⟨k, rfl⟩ <;> rcases hh with ⟨rfl, rfl⟩ | ⟨k', rfl⟩
  · simp [Instr.sliceAt, Instr.slice, run_underlying ht, Instr.sliceBounds]
  · simp [Instr.sliceAt, Instr.slice, run_underlying ht, Instr.sliceBounds, run_sliceBound _ _ _ _ _ h1 h2]
  · simp [Instr.sliceAt, Instr.slice, run_underlying ht, Instr.sliceBounds, run_sliceBound _ _ _ _ _ h0 h1]
  · simp [Instr.sliceAt, Instr.slice, run_underlying ht, Instr.sliceBounds, run_sliceBound _ _ _ _ _ (show 0 ≤ h by omega) h2, run_sliceBound _ _ _ _ _ h0 hle]

theorem row_slice {a : Option Addr} {n cap : Nat} {lo hi : Option Value} {l h : Int} (hl : (lo = none ∧ l = 0) ∨ ∃ k, lo = some (.int k l)) (hh : (hi = none ∧ h = (n : Int)) ∨ ∃ k, hi = some (.int k h))
    (h0 : 0 ≤ l) (h1 : l ≤ h) (h2 : h ≤ cap) {t e : TypeId} (ht : P.underlying t = some (.slice e)) {sz : Nat} (hs : szOf P e = some sz) (w : World) :
    (Instr.sliceAt t (.slice a n cap) lo hi none).run P w = .ok (.slice (if cap = l.toNat then a else a.map (·.add (l.toNat * sz))) (h.toNat - l.toNat) (cap - l.toNat)) w := by
  have hle : l ≤ ((h.toNat : Nat) : Int) := by omega
  rcases hl with ⟨rfl, rfl⟩ | ⟨k, rfl⟩ <;> rcases hh with ⟨rfl, rfl⟩ | ⟨k', rfl⟩
  · simp [Instr.sliceAt, Instr.slice, run_underlying ht, Instr.sliceBounds, run_sizeOf hs]
  · simp [Instr.sliceAt, Instr.slice, run_underlying ht, Instr.sliceBounds, run_sliceBound _ _ _ _ _ h1 h2, run_sizeOf hs]
  · simp [Instr.sliceAt, Instr.slice, run_underlying ht, Instr.sliceBounds, run_sliceBound _ _ _ _ _ h0 h1, run_sizeOf hs]
  · simp [Instr.sliceAt, Instr.slice, run_underlying ht, Instr.sliceBounds, run_sliceBound _ _ _ _ _ (show 0 ≤ h by omega) h2, run_sliceBound _ _ _ _ _ h0 hle, run_sizeOf hs]

theorem array_slice {b o n : Nat} {lo hi : Option Value} {l h : Int} (hl : (lo = none ∧ l = 0) ∨ ∃ k, lo = some (.int k l)) (hh : (hi = none ∧ h = (n : Int)) ∨ ∃ k, hi = some (.int k h))
    (h0 : 0 ≤ l) (h1 : l ≤ h) (h2 : h ≤ n) {t e : TypeId} (ht : P.underlying t = some (.array n e)) (hs : szOf P e = some 1) (w : World) :
    ∃ a, (Instr.sliceAt t (.pointer (some ⟨b, o, none⟩)) lo hi none).run P w = .ok (.slice a (h.toNat - l.toNat) (n - l.toNat)) w ∧ (h.toNat - l.toNat ≠ 0 → a = some ⟨b, o + l.toNat, none⟩) := by
  have hle : l ≤ ((h.toNat : Nat) : Int) := by omega
  refine ⟨some (if n = l.toNat then ⟨b, o, none⟩ else (⟨b, o, none⟩ : Addr).add (l.toNat * 1)), ?_, fun hne => by rw [if_neg (by omega), add_zero_spot, Nat.mul_one]⟩
  rcases hl with ⟨rfl, rfl⟩ | ⟨k, rfl⟩ <;> rcases hh with ⟨rfl, rfl⟩ | ⟨k', rfl⟩
  · simp [Instr.sliceAt, Instr.sureAddr, run_underlying ht, Instr.sliceBounds, run_sizeOf hs]
  · simp [Instr.sliceAt, Instr.sureAddr, run_underlying ht, Instr.sliceBounds, run_sliceBound _ _ _ _ _ h1 h2, run_sizeOf hs]
  · simp [Instr.sliceAt, Instr.sureAddr, run_underlying ht, Instr.sliceBounds, run_sliceBound _ _ _ _ _ h0 h1, run_sizeOf hs]
  · simp [Instr.sliceAt, Instr.sureAddr, run_underlying ht, Instr.sliceBounds, run_sliceBound _ _ _ _ _ (show 0 ≤ h by omega) h2, run_sliceBound _ _ _ _ _ h0 hle, run_sizeOf hs]

theorem ro_sub {c : Con} {v : Value} (hx : DenS O w (.ro c) v) {l h : Nat} (hl : l ≤ h) (hh : h ≤ c.n) : ∃ a cap, v = .slice a c.n cap ∧ c.n ≤ cap ∧
    ∀ sz, sz = c.size → DenS O w (.ro (conSub c l h)) (.slice (if cap = l then a else a.map (·.add (l * sz))) (h - l) (cap - l)) := by
  cases hx with
  | ro _ a cap us b o h1 h2 h3 h4 h5 =>
    refine ⟨a, cap, rfl, h1, ?_⟩
    rintro sz rfl
    have hn := con_n_sub c hl hh
    have hsz := con_size_sub c l h
    have key := DenS.ro (O := O) (w := w) (conSub c l h) (if cap = l then a else a.map (·.add (l * c.size))) (cap - l) (fun i j => us (l + i) j) b (o + l * c.size) (by omega) (by omega)
      (fun h0 => by
        obtain ⟨rfl, h6, h7⟩ := h3 (by omega)
        refine ⟨?_, h6, h7⟩
        rw [if_neg (by omega)]
        simp only [Option.map_some, add_zero_spot])
      (fun i j hi hj => by
        rw [hn] at hi
        rw [hsz] at hj ⊢
        have := h4 (l + i) j (by omega) hj
        rw [show o + l * c.size + i * c.size + j = o + (l + i) * c.size + j from by rw [Nat.add_mul]; omega]
        exact this)
      (fun i j hi hj => by
        rw [hn] at hi
        rw [hsz] at hj
        rw [con_cell_sub c j hi]
        exact h5 _ _ (by omega) hj)
    rw [hn] at key
    exact key

theorem addr_add (a : Option Addr) (hf : ∃ b o, a = some ⟨b, o, none⟩) (x y : Nat) : (a.map (·.add x)).map (·.add y) = a.map (·.add (x + y)) := by
  obtain ⟨b, o, rfl⟩ := hf
  simp only [Option.map_some, add_zero_spot, Nat.add_assoc]

theorem partR_ok {t e e' : TypeId} {c : Con} {id lo0 n : Nat} {lo hi mx : Option AV} {vlo vhi vmx : Option Value} {q : Res} (h : (partR P e c id lo0 n lo hi mx).eval H = some q) (hn : Needs q.need)
    (ht : P.underlying t = some (.slice e)) (ho : H id = some (.vec c e')) {a a' : Option Addr} {cap : Nat} (hr : ρ id = .slice a c.n cap) (hcap : c.n ≤ cap) (hln : lo0 + n ≤ c.n) (ha' : cap ≠ lo0 → a' = a.map (·.add (lo0 * c.size)))
    (hf : cap ≠ 0 → ∃ b o, a = some ⟨b, o, none⟩) (hlo : DenOpt ρ H O w lo vlo) (hhi : DenOpt ρ H O w hi vhi) (hmx : DenOpt ρ H O w mx vmx) :
    ValOK P ρ H O w q (Instr.sliceAt t (.slice a' n (cap - lo0)) vlo vhi vmx) := by
  unfold partR at h
  split at h
  · rename_i sz hsz
    rw [Bool.cond_eq_ite] at h
    split at h
    · rename_i hz
      have hz : sz = c.size := by simpa using hz
      subst hz
      split at h
      · obtain rfl : vmx = none := by cases vmx <;> first | rfl | exact hmx.elim
        split at h
        · rename_i l hh h1 h2
          refine plain_ok h (fun hne => ?_) hn
          obtain ⟨h3, h4, h5, _⟩ := hne
          refine ⟨_, row_slice (numOr_den h1 hlo) (numOr_den h2 hhi) h3 h4 (by omega) ht hsz w, ?_⟩
          unfold DenV Den1
          refine ⟨rfl, _, ho, fun c' e'' hc => ?_⟩
          cases hc
          refine ⟨by omega, a, cap, _, hr, hcap, by rw [Nat.sub_sub], fun hne => ?_⟩
          have hc0 : cap ≠ lo0 := by omega
          rw [if_neg (by omega), ha' hc0, addr_add _ (hf (by omega)), Nat.add_mul]
        · cases h
      · rename_i m
        split at h
        · rename_i l kh lh hh km lm m' h1 h2 h3
          refine plain_ok h (fun hne => ?_) hn
          obtain ⟨g1, g2, g3, g4, _⟩ := hne
          simp only [Option.bind_eq_some_iff] at h2
          obtain ⟨ha, rfl, h2⟩ := h2
          cases vmx with
          | none => exact hmx.elim
          | some vm =>
            cases vhi with
            | none => exact hhi.elim
            | some vh =>
              obtain rfl := num_den h3 hmx
              obtain rfl := num_den h2 hhi
              have e1 : m' ≤ (((cap - lo0 : Nat) : Int)) := by omega
              have e2 : hh ≤ ((m'.toNat : Nat) : Int) := by omega
              have e3 : l ≤ ((hh.toNat : Nat) : Int) := by omega
              rcases numOr_den h1 hlo with ⟨rfl, rfl⟩ | ⟨k1, rfl⟩
              · exact ⟨_, by simp [Instr.sliceAt, Instr.slice, run_underlying ht, Instr.sliceBounds, run_sliceBound _ _ _ _ _ (show 0 ≤ m' by omega) e1, run_sliceBound _ _ _ _ _ (show 0 ≤ hh by omega) e2, run_sizeOf hsz]; rfl, by unfold DenV; trivial⟩
              · exact ⟨_, by simp [Instr.sliceAt, Instr.slice, run_underlying ht, Instr.sliceBounds, run_sliceBound _ _ _ _ _ (show 0 ≤ m' by omega) e1, run_sliceBound _ _ _ _ _ (show 0 ≤ hh by omega) e2, run_sliceBound _ _ _ _ _ g1 e3, run_sizeOf hsz]; rfl, by unfold DenV; trivial⟩
        · cases h
    · cases h
  · cases h

theorem sliceR_ok (hs : Sat ρ H G w) {t : TypeId} {x : AV} {lo hi mx : Option AV} {vx : Value} {vlo vhi vmx : Option Value} {q : Res} (h : (sliceR P t x lo hi mx).eval H = some q) (hn : Needs q.need)
    (hd : DenV ρ H O w x vx) (hlo : DenOpt ρ H O w lo vlo) (hhi : DenOpt ρ H O w hi vhi) (hmx : DenOpt ρ H O w mx vmx) :
    ValOK P ρ H O w q (Instr.sliceAt t vx vlo vhi vmx) := by
  unfold sliceR at h
  split at h
  · rename_i s ht
    obtain rfl := str_den hd
    split at h
    · rename_i l hh h1 h2 
      obtain rfl : vmx = none := by cases vmx <;> first | rfl | exact hmx.elim
      refine plain_ok h (fun hne => ?_) hn
      obtain ⟨h3, h4, h5, _⟩ := hne
      exact ⟨_, bytes_slice (numOr_den h1 hlo) (numOr_den h2 hhi) h3 h4 h5 ht w, DenV_s (.str _)⟩
    · cases h
  · rename_i e ht
    unfold DenV at hd
    obtain ⟨a, rfl⟩ := hd
    split at h
    · rename_i sz l hh hsz h1 h2
      obtain rfl : vmx = none := by cases vmx <;> first | rfl | exact hmx.elim
      refine plain_ok h (fun hne => ?_) hn
      obtain ⟨rfl, rfl, _⟩ := hne
      exact ⟨_, row_slice (numOr_den h1 hlo) (numOr_den h2 hhi) (by omega) (by omega) (by omega) ht hsz w, by unfold DenV; exact ⟨a, by simp⟩⟩
    · cases h
  · rename_i e c ht
    have hx := DenS_of_V (by simp) hd
    split at h
    · rename_i sz hsz
      rw [Bool.cond_eq_ite] at h
      split at h
      · rename_i hz
        have hz : sz = c.size := by simpa using hz
        split at h
        · obtain rfl : vmx = none := by cases vmx <;> first | rfl | exact hmx.elim
          split at h
          · rename_i l hh h1 h2
            refine plain_ok h (fun hne => ?_) hn
            obtain ⟨h3, h4, h5, _⟩ := hne
            obtain ⟨a, cap, rfl, hle, hsub⟩ := ro_sub hx (l := l.toNat) (h := hh.toNat) (by omega) (by omega)
            exact ⟨_, row_slice (numOr_den h1 hlo) (numOr_den h2 hhi) h3 h4 (by omega) ht hsz w, DenV_s (hsub sz hz)⟩
          · cases h
        · rename_i m
          split at h
          · rename_i l kh lh hh km lm m' h1 h2 h3
            refine plain_ok h (fun hne => ?_) hn
            obtain ⟨rfl, rfl, rfl, _⟩ := hne
            simp only [Option.bind_eq_some_iff] at h2
            obtain ⟨ha, rfl, h2⟩ := h2
            cases vmx with
            | none => exact hmx.elim
            | some vm =>
              cases vhi with
              | none => exact hhi.elim
              | some vh =>
                obtain rfl := num_den h3 hmx
                obtain rfl := num_den h2 hhi
                cases hx with
                | ro _ a cap us b o g1 g2 g3 g4 g5 =>
                  refine ⟨.slice a 0 0, ?_, by unfold DenV; exact ⟨a, rfl⟩⟩
                  have hb : ∀ (k : IntKind) (y : Nat) (code : BoundsCode) (w : World), (Instr.sliceBound (.int k 0) y code).run P w = .ok 0 w := fun k y code w => by
                    rw [run_sliceBound _ _ _ _ _ (by omega) (by omega)]; rfl
                  rcases numOr_den h1 hlo with ⟨rfl, _⟩ | ⟨k1, rfl⟩
                  · simp [Instr.sliceAt, Instr.slice, run_underlying ht, Instr.sliceBounds, hb, run_sizeOf hsz]
                  · simp [Instr.sliceAt, Instr.slice, run_underlying ht, Instr.sliceBounds, hb, run_sizeOf hsz]
          · cases h
      · cases h
    · cases h
  · rename_i e c k ht
    have hx := DenS_of_V (by simp) hd
    obtain ⟨a0, n0, cap0, rfl, hx, hlt⟩ : ∃ a n cap, vx = .slice a n cap ∧ DenS O w (.ro c) vx ∧ cap < k := by
      cases hx with
      | rot _ _ a n cap h1 h2 => exact ⟨a, n, cap, rfl, h1, h2⟩
    split at h
    · rename_i sz hsz
      rw [Bool.cond_eq_ite] at h
      split at h
      · rename_i hz
        have hz : sz = c.size := by simpa using hz
        obtain rfl : vmx = none := by cases vmx <;> first | rfl | exact hmx.elim
        split at h
        · rename_i hh h2
          obtain rfl : vlo = none := by cases vlo <;> first | rfl | exact hlo.elim
          refine plain_ok h (fun hne => ?_) hn
          obtain ⟨h4, h5, _⟩ := hne
          obtain ⟨a, cap, e0, hle, hsub⟩ := ro_sub hx (l := 0) (h := hh.toNat) (by omega) (by omega)
          cases e0
          have hd2 := hsub sz hz
          exact ⟨_, row_slice (l := 0) (.inl ⟨rfl, rfl⟩) (numOr_den h2 hhi) (by omega) h4 (by omega) ht hsz w, DenV_s (.rot _ _ _ _ _ hd2 (by omega))⟩
        · rename_i l hh h2
          split at h
          · rename_i kl ll l' h1
            refine plain_ok h (fun hne => ?_) hn
            obtain ⟨h3, h4, h5, _⟩ := hne
            obtain ⟨a, cap, e0, hle, hsub⟩ := ro_sub hx (l := l'.toNat) (h := hh.toNat) (by omega) (by omega)
            cases e0
            have h1' : numOr 0 (some l) = some l' := by simp [numOr, h1]
            exact ⟨_, row_slice (numOr_den h1' hlo) (numOr_den h2 hhi) h3 h4 (by omega) ht hsz w, DenV_s (hsub sz hz)⟩
          · cases h
        · cases h
      · cases h
    · cases h
  · rename_i e id ht
    simp only [RM.eval] at h
    split at h
    · rename_i c e' ho
      obtain ⟨a, cap, rfl, hr, hle, _⟩ := vec_val hs ho hd
      have hobj := hs.obj id _ ho
      rw [hr] at hobj
      obtain ⟨a2, cap2, g1, _, _, g4⟩ := hobj
      cases g1
      have hf : cap ≠ 0 → ∃ b o, a = some ⟨b, o, none⟩ := fun hc => by
        rcases g4 with g4 | ⟨b, o, _, _, _, g5, _⟩
        · exact absurd g4 hc
        · exact ⟨b, o, g5⟩
      have := partR_ok (a' := a) h hn ht ho hr hle (by omega) (fun hc => by
        obtain ⟨b, o, rfl⟩ := hf hc
        simp [add_zero_spot]) hf hlo hhi hmx
      simpa using this
    · cases h
  · rename_i e id lo0 n ht
    simp only [RM.eval] at h
    split at h
    · rename_i c e' ho
      obtain ⟨h0, a, cap, a', h1, h2, h3, rfl, h4, h5⟩ := part_val hs ho hd
      exact partR_ok h hn ht ho h1 h2 h0 h4 h5 hlo hhi hmx
    · cases h
  · rename_i n e id off ht
    split at h
    · rename_i sz l hh hsz h1 h2
      obtain rfl : vmx = none := by cases vmx <;> first | rfl | exact hmx.elim
      rw [Bool.cond_eq_ite] at h
      split at h
      · rename_i h1s
        obtain rfl : sz = 1 := by simpa using h1s
        unfold DenV Den1 at hd
        obtain ⟨b, hb, rfl, hi⟩ := hd
        refine plain_ok h (fun hne => ?_) hn
        obtain ⟨h3, h4, h5, _⟩ := hne
        obtain ⟨a, e1, e2⟩ := array_slice (b := b) (o := off) (numOr_den h1 hlo) (numOr_den h2 hhi) h3 h4 h5 ht hsz w
        refine ⟨_, e1, ?_⟩
        unfold DenV Den1
        exact ⟨rfl, b, a, _, hb, rfl, e2, hi⟩
      · cases h
    · cases h
  · rename_i n e id i j ht
    split at h
    · rename_i sz l hh hsz h1 h2
      obtain rfl : vmx = none := by cases vmx <;> first | rfl | exact hmx.elim
      simp only [RM.eval] at h
      split at h
      · rename_i c e' ho
        rw [Bool.cond_eq_ite] at h
        split at h
        · rename_i h1s
          simp only [Bool.and_eq_true, Nat.beq_eq] at h1s
          obtain ⟨rfl, hjn⟩ := h1s
          have hjn := Nat.le_of_ble_eq_true hjn
          unfold DenV Den1 at hd
          obtain ⟨h0, o, ho', hv⟩ := hd
          rw [ho] at ho'
          cases ho'
          obtain ⟨g1, g2, b, f, n', cap, g3, rfl⟩ := hv c e' rfl
          refine plain_ok h (fun hne => ?_) hn
          obtain ⟨h3, h4, h5, _⟩ := hne
          obtain ⟨a, e1, e2⟩ := array_slice (b := b) (o := f + i * c.size + j) (numOr_den h1 hlo) (numOr_den h2 hhi) h3 h4 h5 ht hsz w
          refine ⟨_, e1, ?_⟩
          unfold DenV Den1
          refine ⟨rfl, _, ho, fun c2 e2' hc => ?_⟩
          cases hc
          exact ⟨g1, by omega, b, f, n', cap, a, _, g3, rfl, fun hz => by rw [e2 hz, Nat.add_assoc]⟩
        · cases h
      · cases h
    · cases h
  · cases h

/-- The bytes of a row of numbers. -/
theorem loadBytesStr (zs : List Int) : ∀ (l : List Value) (s : ByteArray) (w : World), l = zs.map (Value.int .u8) →
    (forIn (m := Sem) l s fun c s => do
      match c with
      | .int .u8 n => pure (ForInStep.yield (s.push (UInt8.ofNat n.toNat)))
      | _ => do
        stuck "bytesToString: byte expected"
        pure (ForInStep.yield s)).run P w = .ok ⟨s.data ++ (zs.map fun n => UInt8.ofNat n.toNat).toArray⟩ w := by
  induction zs with
  | nil => intro l s w h; subst h; simp
  | cons z zs ih =>
    intro l s w h
    subst h
    simp only [List.map_cons, List.forIn_cons, Sem.run_bind, Sem.run_pure, Result.andThen_ok]
    rw [ih _ _ _ rfl]
    congr 2
    simp [ByteArray.push]

/-- A slice that shows a row, whoever owns it. -/
def RowVal (O : Nat → Prop) (w : World) (c : Con) (v : Value) : Prop :=
  ∃ (a : Option Addr) (cap : Nat) (us : Nat → Nat → Value), v = .slice a c.n cap ∧ c.n ≤ cap ∧ cap ≤ maxLen ∧ (0 < c.n → ∃ b o, a = some ⟨b, o, none⟩ ∧ b < w.heap.size ∧
    ∀ i j, i < c.n → j < c.size → w.cell? ⟨b, o + i * c.size + j, none⟩ = some (us i j) ∧ DenS O w (c.cell i j) (us i j))

theorem nilCon_n (sh : Shape) (size : Nat) : (nilCon sh size).n = 0 := by cases sh <;> rfl

theorem rowOf_ok {sh : Shape} {size : Nat} {x : AV} {k : Con → Option Nat → RM Res} {v : Value} {q : Res} (h : (rowOf sh size x k).eval H = some q) (hs : Sat ρ H G w) (hd : DenV ρ H (Hot ρ H G) w x v) :
    ∃ c idy, (k c idy).eval H = some q ∧ RowVal (Hot ρ H G) w c v := by
  unfold rowOf at h
  split at h
  · split at h
    · rename_i c
      have hx := DenS_of_V (by simp) hd
      cases hx with
      | ro _ a cap us b o g1 g2 g3 g4 g5 =>
        refine ⟨c, none, h, a, cap, us, rfl, g1, g2, fun h0 => ?_⟩
        obtain ⟨rfl, _, h2⟩ := g3 h0
        exact ⟨b, o, rfl, h2, fun i j hi hj => ⟨g4 i j hi hj, g5 i j hi hj⟩⟩
    · cases h
  · unfold DenV at hd
    obtain ⟨a, rfl⟩ := hd
    exact ⟨_, none, h, a, 0, fun _ _ => undef, by rw [nilCon_n], by rw [nilCon_n]; exact Nat.le_refl _, by simp [maxLen], by rw [nilCon_n]; omega⟩
  · rename_i id
    simp only [RM.eval] at h
    split at h
    · rename_i c e ho
      refine ⟨c, some id, h, ?_⟩
      unfold DenV Den1 at hd
      obtain ⟨_, o, ho', hv⟩ := hd
      rw [ho] at ho'
      cases ho'
      obtain rfl := hv c e rfl
      obtain ⟨a, cap, h1, h2, h3, h4⟩ := hs.obj id _ ho
      rcases h4 with rfl | ⟨b, o, cells, fr, us, rfl, h5, h6, h7, h8⟩
      · exact ⟨a, 0, fun _ _ => undef, h1, h2, h3, fun h0 => by omega⟩
      · refine ⟨_, cap, us, h1, h2, h3, fun _ => ⟨b, o, rfl, (Array.getElem?_eq_some_iff.1 h5).1, fun i j hi hj => ?_⟩⟩
        obtain ⟨h9, h10⟩ := h8 i j hi hj
        exact ⟨by rw [cell_of_blk h5]; exact h9, h10⟩
    · cases h
  · rename_i id lo n
    simp only [RM.eval] at h
    split at h
    · rename_i c e ho
      refine ⟨_, some id, h, ?_⟩
      obtain ⟨g0, a, cap, a', g1, g2, g3, rfl, g4, g5⟩ := part_val hs ho hd
      have hn : (conSub c lo (lo + n)).n = n := by rw [con_n_sub c (by omega) g0]; omega
      have hsz := con_size_sub c lo (lo + n)
      obtain ⟨a2, cap2, k1, k2, k3, k4⟩ := hs.obj id _ ho
      rw [g1] at k1
      cases k1
      rcases k4 with rfl | ⟨b, o, cells, fr, us, rfl, h5, h6, h7, h8⟩
      · exact ⟨a', 0 - lo, fun _ _ => undef, by rw [hn], by rw [hn]; omega, by omega, fun h0 => by rw [hn] at h0; omega⟩
      · refine ⟨a', cap - lo, fun i j => us (lo + i) j, by rw [hn], by rw [hn]; omega, by omega, fun h0 => ?_⟩
        rw [hn] at h0
        refine ⟨b, o + lo * c.size, by rw [g4 (by omega)]; simp [add_zero_spot], (Array.getElem?_eq_some_iff.1 h5).1, fun i j hi hj => ?_⟩
        rw [hn] at hi
        rw [hsz] at hj ⊢
        obtain ⟨h9, h10⟩ := h8 (lo + i) j (by omega) hj
        refine ⟨?_, by rw [con_cell_sub c j (by omega)]; exact h10⟩
        rw [cell_of_blk h5, show o + lo * c.size + i * c.size + j = o + (lo + i) * c.size + j from by rw [Nat.add_mul]; omega]
        exact h9
    · cases h
  · cases h

theorem getD_map_ints (zs : List Int) : zs.map (Value.int .u8) = (List.range zs.length).map fun i => Value.int .u8 (zs.getD i 0) := by
  apply List.ext_getElem
  · simp
  · intro i h1 h2
    simp at h1
    simp [h1]

theorem bytesToString_nums {zs : List Int} {a : Option Addr} {cap : Nat} (h3 : 0 < zs.length → ∃ b o, a = some ⟨b, o, none⟩ ∧ ∀ j, j < zs.length → w.cell? ⟨b, o + j, none⟩ = some (.int .u8 (zs.getD j 0))) :
    (Conv.bytesToString (.slice a zs.length cap)).run P w = .ok (.string (bytesStr zs)) w := by
  cases a with
  | none =>
    have : zs.length = 0 := by
      rcases Nat.eq_zero_or_pos zs.length with h0 | h0
      · exact h0
      · obtain ⟨b, o, e, _⟩ := h3 h0
        cases e
    obtain rfl := List.eq_nil_of_length_eq_zero this
    rfl
  | some a =>
    have hload : (loadCells a zs.length).run P w = .ok (zs.map (Value.int .u8)).toArray w := by
      rcases Nat.eq_zero_or_pos zs.length with h0 | h0
      · obtain rfl := List.eq_nil_of_length_eq_zero h0
        rfl
      · obtain ⟨b, o, e, hc⟩ := h3 h0
        cases e
        rw [getD_map_ints]
        refine run_loadCells w _ _ (fun i => Value.int .u8 (zs.getD i 0)) (fun j hj => ?_)
        rw [add_zero_spot]
        exact hc j hj
    simp only [Conv.bytesToString, Sem.run_bind, hload, Result.andThen_ok]
    rw [← Array.forIn_toList]
    have := loadBytesStr (P := P) zs (zs.map (Value.int .u8)) ByteArray.empty w rfl
    erw [this]
    simp [bytesStr]
theorem bytesToString_row {zs : List Int} {v : Value} (h : RowVal O w (.ints .u8 zs) v) : (Conv.bytesToString v).run P w = .ok (.string (bytesStr zs)) w := by
  obtain ⟨a, cap, us, rfl, h1, h2, h3⟩ := h
  simp only [Con.n] at h1 h3 ⊢
  refine bytesToString_nums fun h0 => ?_
  obtain ⟨b, o, e, _, hc⟩ := h3 h0
  refine ⟨b, o, e, fun j hj => ?_⟩
  obtain ⟨g1, g2⟩ := hc j 0 hj (by simp [Con.size])
  simp only [Con.size, Nat.mul_one, Nat.add_zero, Con.cell] at g1 g2
  rw [g1]
  generalize us j 0 = u at g2 ⊢
  cases g2
  rfl

/-- Some of the numbers of an own array, read in place. -/
theorem sub_cells (hs : Sat ρ H G w) {id b m off n : Nat} {k : IntKind} {ws : List Int} {e : TypeId} (ho : H id = some (.own [.ints k m ws] e)) (hb : ρ id = .pointer (some ⟨b, 0, none⟩)) (hnm : off + n ≤ m) :
    ((ws.drop off).take n).length = n ∧ ∀ j, j < n → w.cell? ⟨b, off + j, none⟩ = some (.int k (((ws.drop off).take n).getD j 0)) := by
  obtain ⟨cells, fr, e1, _, e2⟩ := own_obj hs ho hb
  obtain ⟨c1, c2, rfl, e3, e4⟩ := DenSegs_cons.1 e2
  obtain ⟨e5, rfl⟩ := DenC_ints.1 e3
  obtain rfl := DenSegs_nil.1 e4
  refine ⟨by rw [List.length_take, List.length_drop]; omega, fun j hj => ?_⟩
  rw [cell_of_blk e1, List.append_nil, List.getElem?_map]
  have hlt : off + j < ws.length := by omega
  rw [List.getElem?_eq_getElem hlt]
  simp [List.getD, List.getElem?_take, hj, List.getElem?_drop, hlt]

theorem convertR_ok {src dst : TypeId} {x : AV} {vx : Value} {q : Res} (h : (convertR P src dst x).eval H = some q) (hn : Needs q.need) (hs : Sat ρ H G w) (hd : DenV ρ H (Hot ρ H G) w x vx) :
    ValOK P ρ H (Hot ρ H G) w q (convert src dst vx) := by
  unfold convertR at h
  split at h
  · rename_i d k hsrc hdst
    split at h
    · rename_i k' lit n hnum
      obtain rfl := num_den hnum hd
      have hrun : (convert src dst (.int k' n)).run P w = .ok (.int k (k.wrap n)) w := by
        simp [convert, run_underlying hsrc, run_underlying hdst, Conv.intToInt]
      rw [Bool.cond_eq_ite] at h
      split at h
      · exact plain_ok h (fun _ => ⟨_, hrun, DenV_s (.ilit _ _)⟩) hn
      · rw [Bool.cond_eq_ite] at h
        split at h
        · rename_i hk
          simp only [Bool.and_eq_true] at hk
          obtain rfl := isI64_eq hk.1
          refine plain_ok h (fun hne => ⟨_, hrun, ?_⟩) hn
          rw [wrap_i64_in hne.1]
          exact DenV_s (.int _ _)
        · exact plain_ok h (fun _ => ⟨_, hrun, DenV_s (.int _ _)⟩) hn
    · cases h
  · rename_i hsrc hdst
    split at h
    · rename_i s
      obtain rfl := str_den hd
      exact plain_ok h (fun _ => ⟨_, by simp [convert, run_underlying hsrc, run_underlying hdst], DenV_s (.str _)⟩) hn
    · cases h
  · rename_i e hsrc hdst
    split at h
    · rename_i hk
      have he : P.underlying e = some (.int .u8) := by
        unfold kindOf at hk
        split at hk <;> first | (cases hk; assumption) | cases hk
      split at h
      · rename_i id off n
        simp only [RM.eval] at h
        split at h
        · rename_i m ws e' ho
          unfold DenV Den1 at hd
          obtain ⟨_, b, a, cap, hb, rfl, ha, _⟩ := hd
          refine plain_ok h (fun hne => ⟨_, ?_, DenV_s (.str _)⟩) hn
          have hnm : off + n ≤ m := hne.1
          obtain ⟨hl, hc⟩ := sub_cells hs ho hb hnm
          have := bytesToString_nums (P := P) (w := w) (zs := (ws.drop off).take n) (a := a) (cap := cap) (fun h0 => ⟨b, off, ha (by omega), fun j hj => hc j (by omega)⟩)
          rw [hl] at this
          simp [convert, run_underlying hsrc, run_underlying hdst, run_underlying he, this]
        · cases h
      · obtain ⟨c, idy, h1, h2⟩ := rowOf_ok h hs hd
        split at h1
        · rename_i zs
          refine plain_ok h1 (fun _ => ⟨.string (bytesStr zs), ?_, DenV_s (.str _)⟩) hn
          obtain ⟨a, cap, us, rfl, _⟩ := id h2
          simp [convert, run_underlying hsrc, run_underlying hdst, run_underlying he, bytesToString_row h2]
        · cases h1
    · cases h
  · cases h
end
end Go.Sx

/-! Stores, and new objects. -/
namespace Go.Sx
open Go

def findUp : List (Nat × AObj) → Nat → Option AObj
  | [], _ => none
  | (id, o) :: us, j => match findUp us j with
    | some x => some x
    | none => if j = id then some o else none

/-- The own objects behind an operation. -/
def resH (H : AHeap) (up : List (Nat × AObj)) (base : Nat) (new : List AObj) : AHeap := fun j =>
  match findUp up j with
  | some o => some o
  | none => if base ≤ j ∧ j < base + new.length then new[j - base]? else H j

section
variable {ρ ρ' : Nat → Value} {H H' : AHeap} {G O O' : Nat → Prop} {w w' : World} {P : Program}

theorem resH_nil (base : Nat) : resH H [] base [] = H := by
  funext j
  simp only [resH, findUp, List.length_nil, Nat.add_zero]
  rw [if_neg (by omega)]
theorem resH_up (id : Nat) (o : AObj) (base : Nat) : resH H [(id, o)] base [] = updH H id o := by
  funext j
  simp only [resH, findUp, updH, List.length_nil, Nat.add_zero]
  by_cases h : j = id
  · simp [h]
  · simp only [h, if_false]
    rw [if_neg (by omega)]
theorem resH_new (base : Nat) (o : AObj) : resH H [] base [o] = updH H base o := by
  funext j
  simp only [resH, findUp, updH, List.length_singleton]
  by_cases h : j = base
  · subst h; simp
  · rw [if_neg (by omega)]
    simp [h]
theorem resH_both (id base : Nat) (x o : AObj) (h : id ≠ base) : resH H [(id, x)] base [o] = updH (updH H id x) base o := by
  funext j
  simp only [resH, findUp, updH, List.length_singleton]
  by_cases h1 : j = id
  · subst h1; simp [h]
  · by_cases h2 : j = base
    · subst h2; simp [h1]
    · simp only [h1, h2, if_false]
      rw [if_neg (by omega)]

theorem den_undef : DenV ρ H O w (.tup []) undef := by
  unfold DenV
  exact ⟨[], rfl, DenL_nil.2 rfl⟩

theorem write_step {id : Nat} {o o' : AObj} (ho : H id = some o) (ha : o.alive = true) {b : Nat} (hb : blk (ρ id) = some b)
    (hvec : ∀ c' e', o' = .vec c' e' → ∃ c e, o = .vec c e ∧ c'.n = c.n ∧ c'.size = c.size) (blkobj : Obj) :
    Step ρ H (Hot ρ H G) w ρ (updH H id o') (Hot ρ H G) (World.setBlk w b blkobj) := by
  have hown : Own ρ H b := ⟨id, o, ho, ha, hb⟩
  refine ⟨fun _ _ _ => rfl, fun j x hx => ?_, fun c hc => .inl hc, fun c hc hO => setBlk_ne (fun e => hO (.inl (by subst e; exact hown))), by rw [setBlk_size]; exact Nat.le_refl _⟩
  by_cases hj : j = id
  · subst hj
    rw [ho] at hx
    cases hx
    exact ⟨o', by simp [updH], hvec⟩
  · exact ⟨x, by simp [updH, hj, hx], fun c' e' hc => ⟨c', e', hc, rfl, rfl⟩⟩

theorem Good.writeOwn (hs : Sat ρ H G w) {id b : Nat} {segs segs' : List AV} {e : TypeId} (ho : H id = some (.own segs e)) (hb : ρ id = .pointer (some ⟨b, 0, none⟩))
    {cells cells' : List Value} {fr : Nat × Nat} (h1 : w.heap[b]? = some (.cells cells.toArray e fr)) (hu : unm fr cells.length) (hl : cells'.length = cells.length)
    (hd : DenSegs ρ H (Hot ρ H G) w segs' cells') :
    Good ρ H G w (updH H id (.own segs' e)) (.tup []) undef (World.setBlk w b (.cells cells'.toArray e fr)) := by
  have hbk : blk (ρ id) = some b := by rw [hb]; rfl
  have st := write_step (G := G) (w := w) (o' := .own segs' e) ho rfl hbk (by simp) (.cells cells'.toArray e fr)
  exact Good.write hs ho rfl rfl hbk (by simp) ⟨b, cells', fr, hb, setBlk_get h1, by rw [hl]; exact hu, hd.step st⟩ den_undef

theorem run_storeAt {t : TypeId} {b off : Nat} {v : Value} {n : Nat} (hs : szOf P t = some n) (hl : v.cells.toList.length = n) {w' : World}
    (h : (storeCells ⟨b, off, none⟩ v.cells.toList 0).run P w = .ok () w') : (Instr.storeAt t (.pointer (some ⟨b, off, none⟩)) v).run P w = .ok () w' := by
  have : v.cells.size = n := by simpa using hl
  simp [Instr.storeAt, Instr.sureAddr, storeVar, run_sizeOf hs, this, h]

theorem cells_one {v : Value} (h : v.oneCell' = true) : v.cells.toList = [v] := by
  cases v <;> first | rfl | (simp [Value.oneCell'] at h)

theorem take_set_drop {α : Type} (l : List α) (i : Nat) (x : α) (h : i < l.length) : l.take i ++ [x] ++ l.drop (i + 1) = l.set i x := by
  rw [List.set_eq_take_append_cons_drop, if_pos h]
  simp

theorem den_ro_nil {c c' : Con} {v : Value} (h0 : c.n = 0) (h1 : c'.n = 0) (h : DenS O w (.ro c) v) : DenS O w (.ro c') v := by
  cases h with
  | ro _ a cap us b o h2 h3 h4 h5 h6 =>
    have := DenS.ro (O := O) (w := w) c' a cap us b o (by omega) h3 (fun h => by omega) (fun i j hi hj => by omega) (fun i j hi hj => by omega)
    rw [h1] at this
    rw [h0]
    exact this

theorem svInt_ok {k : IntKind} {v : SV} {n : Int} {u : Value} (h : svInt k v = some n) (hu : DenS O w v u) : DenS O w (.int k n) u := by
  unfold svInt at h
  split at h
  · rw [Bool.cond_eq_ite] at h
    split at h
    · rename_i hk
      obtain rfl := kindEq_eq hk
      cases h
      exact hu
    · cases h
  · rw [Bool.cond_eq_ite] at h
    split at h
    · rename_i hk
      obtain rfl := kindEq_eq hk
      cases h
      cases hu
      exact .int _ _
    · cases h
  · cases h

theorem svBool_ok {v : SV} {n : Bool} {u : Value} (h : svBool v = some n) (hu : DenS O w v u) : DenS O w (.bool n) u := by
  unfold svBool at h
  split at h <;> cases h <;> cases hu <;> exact .bool _

theorem svStr_ok {v : SV} {n : ByteArray} {u : Value} (h : svStr v = some n) (hu : DenS O w v u) : DenS O w (.str n) u := by
  unfold svStr at h
  split at h <;> cases h
  exact hu

theorem svInts_ok {k : IntKind} {v : SV} {n : List Int} {u : Value} (h : svInts k v = some n) (hu : DenS O w v u) : DenS O w (.ro (.ints k n)) u := by
  unfold svInts at h
  split at h
  · rw [Bool.cond_eq_ite] at h
    split at h
    · rename_i hk
      obtain rfl := kindEq_eq hk
      cases h
      exact hu
    · cases h
  · cases h
    exact den_ro_nil (by rfl) (by rfl) hu
  · cases h

theorem svStrs_ok {v : SV} {n : List ByteArray} {u : Value} (h : svStrs v = some n) (hu : DenS O w v u) : DenS O w (.ro (.strs n)) u := by
  unfold svStrs at h
  split at h <;> cases h
  · exact hu
  · exact den_ro_nil (by rfl) (by rfl) hu

theorem svBools_ok {v : SV} {n : List Bool} {u : Value} (h : svBools v = some n) (hu : DenS O w v u) : DenS O w (.ro (.bools n)) u := by
  unfold svBools at h
  split at h <;> cases h
  · exact hu
  · exact den_ro_nil (by rfl) (by rfl) hu

theorem svRows_ok {cs : List CK} {v : SV} {n : List (CL cs)} {u : Value} (h : svRows cs v = some n) (hu : DenS O w v u) : DenS O w (.ro (.typ cs n)) u := by
  unfold svRows at h
  split at h
  · simp only [Option.map_eq_some_iff] at h
    obtain ⟨⟨e⟩, _, h2⟩ := h
    subst e
    rw [castL_rfl] at h2
    subst h2
    exact hu
  · cases h
    exact den_ro_nil (by rfl) (by rfl) hu
  · cases h

theorem CK_set_ok {c : CK} {x y : c.V} {j : Nat} {v : SV} (h : c.set x j v = some y) : c.wide = 1 ∧ ∀ (O : Nat → Prop) (w : World) (u : Value), DenS O w v u → ∀ l, DenS O w (c.cell y l) u := by
  cases c with
  | int k => exact ⟨rfl, fun _ _ _ hu _ => svInt_ok h hu⟩
  | bool => exact ⟨rfl, fun _ _ _ hu _ => svBool_ok h hu⟩
  | str => exact ⟨rfl, fun _ _ _ hu _ => svStr_ok h hu⟩
  | ints k => exact ⟨rfl, fun _ _ _ hu _ => svInts_ok h hu⟩
  | strs => exact ⟨rfl, fun _ _ _ hu _ => svStrs_ok h hu⟩
  | bools => exact ⟨rfl, fun _ _ _ hu _ => svBools_ok h hu⟩
  | rows cs => exact ⟨rfl, fun _ _ _ hu _ => svRows_ok h hu⟩
  | arr k n => cases h

theorem CL_set_ok : ∀ {cs : List CK} {x y : CL cs} {j : Nat} {v : SV}, CL.set cs x j v = some y → (∀ (O : Nat → Prop) (w : World) (u : Value), DenS O w v u → DenS O w (CL.cell cs y j) u) ∧ ∀ j', j' ≠ j → CL.cell cs y j' = CL.cell cs x j'
  | [], x, y, j, v, h => by cases h
  | c :: cs, x, y, j, v, h => by
    simp only [CL.set] at h
    rw [Bool.cond_eq_ite] at h
    split at h
    · rename_i hlt
      obtain ⟨z, h1, rfl⟩ := Option.map_eq_some_iff.1 h
      obtain ⟨h2, h3⟩ := CK_set_ok h1
      refine ⟨fun O w u hu => by simp only [CL.cell, hlt, cond_true]; exact h3 O w u hu _, fun j' hj' => ?_⟩
      have h4 : j < 1 := by rw [h2] at hlt; exact Nat.le_of_ble_eq_true hlt
      simp only [CL.cell, h2, blt_f (show 1 ≤ j' from by omega), cond_false]
    · rename_i hlt
      obtain ⟨z, h1, rfl⟩ := Option.map_eq_some_iff.1 h
      have hlt : j.blt c.wide = false := Bool.eq_false_iff.2 hlt
      have hge : c.wide ≤ j := by
        rcases Nat.lt_or_ge j c.wide with h5 | h5
        · rw [blt_t h5] at hlt; cases hlt
        · exact h5
      obtain ⟨h2, h3⟩ := CL_set_ok h1
      refine ⟨fun O w u hu => by simp only [CL.cell, hlt, cond_false]; exact h2 O w u hu, fun j' hj' => ?_⟩
      simp only [CL.cell]
      rcases Nat.lt_or_ge j' c.wide with h5 | h5
      · rw [blt_t h5, cond_true, cond_true]
      · rw [blt_f h5, cond_false, cond_false]
        exact h3 _ (by omega)

theorem CL_setRow_ok : ∀ {cs : List CK} {x y : CL cs} {j : Nat} {k : IntKind} {n : Nat} {ws : List Int}, CL.setRow cs x j k n ws = some y →
    (∀ l, l < n → CL.cell cs y (j + l) = .int k (ws.getD l 0)) ∧ ∀ j', (j' < j ∨ j + n ≤ j') → CL.cell cs y j' = CL.cell cs x j'
  | [], x, y, j, k, n, ws, h => by cases h
  | c :: cs, x, y, j, k, n, ws, h => by
    simp only [CL.setRow] at h
    rw [Bool.cond_eq_ite] at h
    split at h
    · rename_i hj
      obtain rfl : j = 0 := Nat.eq_of_beq_eq_true hj
      obtain ⟨z, h1, rfl⟩ := Option.map_eq_some_iff.1 h
      cases c with
      | arr k' n' =>
        simp only [CK.setRow] at h1
        rw [Bool.cond_eq_ite] at h1
        split at h1
        · rename_i hk
          simp only [Bool.and_eq_true] at hk
          obtain rfl := kindEq_eq hk.1
          obtain rfl := Nat.eq_of_beq_eq_true hk.2
          cases h1
          refine ⟨fun l hl => ?_, fun j' hj' => ?_⟩
          · rw [Nat.zero_add]
            simp only [CL.cell, CK.wide, blt_t hl, cond_true, CK.cell]
          · simp only [CL.cell, CK.wide, blt_f (show n ≤ j' from by omega), cond_false]
        · cases h1
      | _ => cases h1
    · rw [Bool.cond_eq_ite] at h
      split at h
      · rename_i hle
        have hle := Nat.le_of_ble_eq_true hle
        obtain ⟨z, h1, rfl⟩ := Option.map_eq_some_iff.1 h
        obtain ⟨h2, h3⟩ := CL_setRow_ok h1
        refine ⟨fun l hl => ?_, fun j' hj' => ?_⟩
        · simp only [CL.cell, blt_f (show c.wide ≤ j + l from by omega), cond_false]
          rw [show j + l - c.wide = j - c.wide + l from by omega]
          exact h2 l hl
        · simp only [CL.cell]
          rcases Nat.lt_or_ge j' c.wide with h5 | h5
          · rw [blt_t h5, cond_true, cond_true]
          · rw [blt_f h5, cond_false, cond_false]
            exact h3 _ (by omega)
      · cases h

theorem con_setRow {c : Con} {i j : Nat} {k : IntKind} {n : Nat} {ws : List Int} {c' : Con} (h : conSetRow c i j k n ws = some c') (hi : i < c.n) :
    c'.n = c.n ∧ c'.size = c.size ∧ (∀ l, l < n → c'.cell i (j + l) = .int k (ws.getD l 0)) ∧ ∀ i' j', (i' ≠ i ∨ j' < j ∨ j + n ≤ j') → c'.cell i' j' = c.cell i' j' := by
  cases c <;> simp only [conSetRow, reduceCtorEq] at h
  rename_i cs xs
  simp only [Option.map_eq_some_iff] at h
  obtain ⟨y, h1, rfl⟩ := h
  simp only [Con.n] at hi
  obtain ⟨h2, h3⟩ := CL_setRow_ok h1
  refine ⟨by simp [Con.n], rfl, fun l hl => ?_, fun i' j' hne => ?_⟩
  · simp only [Con.cell]
    rw [show (xs.set i y).getD i (CL.d cs) = y from by simp [List.getD, hi]]
    exact h2 l hl
  · simp only [Con.cell]
    by_cases hii : i' = i
    · subst hii
      rw [show (xs.set i' y).getD i' (CL.d cs) = y from by simp [List.getD, hi]]
      exact h3 j' (by omega)
    · have : i ≠ i' := fun e => hii e.symm
      simp [List.getD, List.getElem?_set_ne this]

theorem con_set (c : Con) {i j : Nat} {v : SV} {c' : Con} (h : conSet c i j v = some c') : c'.n = c.n ∧ c'.size = c.size := by
  cases c <;> simp only [conSet] at h
  case recs => simp only [Option.some.injEq] at h; subst h; exact ⟨rfl, rfl⟩
  case typ =>
    simp only [Option.map_eq_some_iff] at h
    obtain ⟨y, _, rfl⟩ := h
    simp [Con.n, Con.size]
  all_goals
    split at h <;> first
      | (simp only [Option.some.injEq] at h; subst h; simp [Con.n, Con.size]; done)
      | (rw [Bool.cond_eq_ite] at h; split at h <;> first | (simp only [Option.some.injEq] at h; subst h; simp [Con.n, Con.size]; done) | cases h)
      | cases h

/-- What the row shows behind a store into one of its cells. -/
theorem con_set_cell (c : Con) {i j : Nat} {v : SV} {c' : Con} (h : conSet c i j v = some c') (hi : i < c.n) (hj : j < c.size) {u : Value} (hu : DenS O w v u) :
    DenS O w (c'.cell i j) u ∧ ∀ i' j', i' < c.n → j' < c.size → (i' ≠ i ∨ j' ≠ j) → c'.cell i' j' = c.cell i' j' := by
  cases c <;> simp only [conSet] at h
  case ints k zs =>
    simp only [Con.n, Con.size] at hi hj
    split at h <;> first
      | cases h
      | (rw [Bool.cond_eq_ite] at h
         split at h
         · rename_i hk
           obtain rfl := kindEq_eq hk
           simp only [Option.some.injEq] at h
           subst h
           cases hu
           simp only [Con.cell, Con.n, Con.size]
           refine ⟨by simp [List.getD, hi]; exact .int _ _, fun i' j' hi' hj' hne => ?_⟩
           have : i ≠ i' := by omega
           simp [List.getD, List.getElem?_set_ne this]
         · cases h)
  case strs zs =>
    simp only [Con.n, Con.size] at hi hj
    split at h <;> simp only [Option.some.injEq, reduceCtorEq] at h
    subst h
    cases hu
    simp only [Con.cell, Con.n, Con.size]
    refine ⟨by simp [List.getD, hi]; exact .str _, fun i' j' hi' hj' hne => ?_⟩
    have : i ≠ i' := by omega
    simp [List.getD, List.getElem?_set_ne this]
  case bools zs =>
    simp only [Con.n, Con.size] at hi hj
    split at h <;> simp only [Option.some.injEq, reduceCtorEq] at h
    all_goals
      subst h
      cases hu
      simp only [Con.cell, Con.n, Con.size]
      refine ⟨by simp [List.getD, hi]; exact .bool _, fun i' j' hi' hj' hne => ?_⟩
      have : i ≠ i' := by omega
      simp [List.getD, List.getElem?_set_ne this]
  case typ cs xs =>
    simp only [Con.n, Con.size] at hi hj
    simp only [Option.map_eq_some_iff] at h
    obtain ⟨y, h1, rfl⟩ := h
    obtain ⟨h2, h3⟩ := CL_set_ok h1
    simp only [Con.cell, Con.n, Con.size]
    refine ⟨by rw [show (xs.set i y).getD i (CL.d cs) = y from by simp [List.getD, hi]]; exact h2 O w u hu, fun i' j' hi' hj' hne => ?_⟩
    by_cases hii : i' = i
    · subst hii
      rw [show (xs.set i' y).getD i' (CL.d cs) = y from by simp [List.getD, hi]]
      exact h3 j' (by omega)
    · have : i ≠ i' := fun e => hii e.symm
      simp [List.getD, List.getElem?_set_ne this]
  case recs s n get =>
    simp only [Option.some.injEq] at h
    subst h
    simp only [Con.cell]
    refine ⟨by simp [hu], fun i' j' _ _ hne => ?_⟩
    have : (i' == i && j' == j) = false := by
      rcases hne with h | h <;> simp [h]
    simp [this]

theorem con_sets1 : ∀ (by_ : List AV) (c : Con) {i j : Nat} {c' : Con} {vs : List Value}, conSets1 c i j by_ = some c' → DenSegs ρ H O w by_ vs → i < c.n → j + wides by_ ≤ c.size →
    c'.n = c.n ∧ c'.size = c.size ∧ vs.length = wides by_ ∧ (∀ l u, vs[l]? = some u → DenS O w (c'.cell i (j + l)) u) ∧
    ∀ i' j', i' < c.n → j' < c.size → (i' ≠ i ∨ j' < j ∨ j + wides by_ ≤ j') → c'.cell i' j' = c.cell i' j'
  | [], c, i, j, c', vs, h, hd, hi, hj => by
    simp only [conSets1, Option.some.injEq] at h
    subst h
    obtain rfl := DenSegs_nil.1 hd
    exact ⟨rfl, rfl, rfl, by simp, fun _ _ _ _ _ => rfl⟩
  | a :: azs, c, i, j, c', vs, h, hd, hi, hj => by
    cases a with
    | s v =>
      simp only [conSets1, Option.bind_eq_some_iff] at h
      obtain ⟨c1, h1, h2⟩ := h
      obtain ⟨cs1, cs2, rfl, hv, hr⟩ := DenSegs_cons.1 hd
      unfold DenC at hv
      obtain ⟨u, rfl, hu⟩ := hv
      simp only [wides, AV.wide] at hj
      obtain ⟨n1, s1⟩ := con_set c h1
      obtain ⟨g1, g2⟩ := con_set_cell c h1 hi (by omega) hu
      obtain ⟨k1, k2, k3, k4, k5⟩ := con_sets1 azs c1 h2 hr (by omega) (by omega)
      refine ⟨k1.trans n1, k2.trans s1, by simp [k3, wides, AV.wide]; omega, fun l x hx => ?_, fun i' j' hi' hj' hne => ?_⟩
      · cases l with
        | zero =>
          simp at hx
          subst hx
          rw [Nat.add_zero, k5 i j (by omega) (by omega) (by omega)]
          exact g1
        | succ l =>
          have := k4 l x (by simpa using hx)
          rw [show j + (l + 1) = j + 1 + l from by omega]
          exact this
      · simp only [wides, AV.wide] at hne
        rw [k5 i' j' (by omega) (by omega) (by omega)]
        exact g2 i' j' hi' hj' (by omega)
    | ints k n ws =>
      simp only [conSets1, Option.bind_eq_some_iff] at h
      obtain ⟨c1, h1, h2⟩ := h
      obtain ⟨cs1, cs2, rfl, hv, hr⟩ := DenSegs_cons.1 hd
      unfold DenC at hv
      obtain ⟨hl, rfl⟩ := hv
      simp only [wides, AV.wide] at hj
      obtain ⟨n1, s1, g1, g2⟩ := con_setRow h1 hi
      obtain ⟨k1, k2, k3, k4, k5⟩ := con_sets1 azs c1 h2 hr (by omega) (by omega)
      refine ⟨k1.trans n1, k2.trans s1, by simp [k3, wides, AV.wide, hl], fun l x hx => ?_, fun i' j' hi' hj' hne => ?_⟩
      · rcases Nat.lt_or_ge l n with h5 | h5
        · rw [List.getElem?_append_left (by simp; omega)] at hx
          simp only [List.getElem?_map, Option.map_eq_some_iff] at hx
          obtain ⟨z, hz, rfl⟩ := hx
          rw [k5 i (j + l) (by omega) (by omega) (by omega), g1 l h5, show ws.getD l 0 = z from by simp [List.getD, hz]]
          exact .int _ _
        · rw [List.getElem?_append_right (by simp; omega)] at hx
          simp only [List.length_map, hl] at hx
          have := k4 (l - n) x hx
          rw [show j + n + (l - n) = j + l from by omega] at this
          exact this
      · simp only [wides, AV.wide] at hne
        rw [k5 i' j' (by omega) (by omega) (by omega)]
        exact g2 i' j' (by omega)
    | _ => simp [conSets1] at h

theorem clSets_eq (cs : List CK) : ∀ (by_ : List AV) (xs : List (CL cs)) (i j : Nat), i < xs.length → (clSets cs (xs.getD i (CL.d cs)) j by_).map (fun y => Con.typ cs (xs.set i y)) = conSets1 (.typ cs xs) i j by_
  | [], xs, i, j, hi => by
    simp only [clSets, conSets1, Option.map_some, Option.some.injEq, Con.typ.injEq, heq_eq_eq, true_and]
    have : xs.getD i (CL.d cs) = xs[i] := by simp [List.getD, hi]
    rw [this, List.set_getElem_self]
  | a :: azs, xs, i, j, hi => by
    have step : ∀ (y : CL cs) (k : Nat), (clSets cs y k azs).map (fun y => Con.typ cs (xs.set i y)) = conSets1 (.typ cs (xs.set i y)) i k azs := fun y k => by
      rw [← clSets_eq cs azs (xs.set i y) i k (by rw [List.length_set]; exact hi)]
      have : (xs.set i y).getD i (CL.d cs) = y := by simp [List.getD, hi]
      rw [this]
      congr 1
      funext z
      rw [List.set_set]
    cases a with
    | s v =>
      simp only [clSets, conSets1, conSet]
      cases CL.set cs (xs.getD i (CL.d cs)) j v with
      | none => rfl
      | some y => exact step y (j + 1)
    | ints k n ws =>
      simp only [clSets, conSets1, conSetRow]
      cases CL.setRow cs (xs.getD i (CL.d cs)) j k n ws with
      | none => rfl
      | some y => exact step y (j + n)
    | _ => rfl
theorem con_sets : ∀ (by_ : List AV) (c : Con) {i j : Nat} {c' : Con} {vs : List Value}, conSets c i j by_ = some c' → DenSegs ρ H O w by_ vs → i < c.n → j + wides by_ ≤ c.size →
    c'.n = c.n ∧ c'.size = c.size ∧ vs.length = wides by_ ∧ (∀ l u, vs[l]? = some u → DenS O w (c'.cell i (j + l)) u) ∧
    ∀ i' j', i' < c.n → j' < c.size → (i' ≠ i ∨ j' < j ∨ j + wides by_ ≤ j') → c'.cell i' j' = c.cell i' j' := by
  intro by_ c i j c' vs h hd hi hj
  refine con_sets1 by_ c ?_ hd hi hj
  cases c with
  | typ cs xs => rw [← h]; exact (clSets_eq cs by_ xs i j hi).symm
  | _ => exact h

theorem mid_get (l vs : List Value) (o : Nat) (h : o + vs.length ≤ l.length) (i : Nat) : (l.take o ++ vs ++ l.drop (o + vs.length))[i]? = if o ≤ i ∧ i < o + vs.length then vs[i - o]? else l[i]? := by
  have hto : (l.take o).length = o := by simp; omega
  by_cases h1 : i < o
  · rw [if_neg (by omega), List.append_assoc, List.getElem?_append_left (by omega), List.getElem?_take, if_pos h1]
  · by_cases h2 : i < o + vs.length
    · rw [if_pos (by omega), List.getElem?_append_left (by simp; omega), List.getElem?_append_right (by omega), hto]
    · rw [if_neg (by omega), List.getElem?_append_right (by simp; omega), List.getElem?_drop]
      congr 1
      simp
      omega

theorem get_getD {α : Type} (l : List α) (i : Nat) (d : α) (h : i < l.length) : l[i]? = some (l.getD i d) := by
  simp [List.getD, List.getElem?_eq_getElem h]

theorem idx_ne {size i i' j j' f : Nat} (hj : j < size) (hj' : j' < size) (h : f + i * size + j = f + i' * size + j') : i = i' ∧ j = j' := by
  have h1 : i * size + j = i' * size + j' := by omega
  have h2 : (i * size + j) / size = i := by rw [Nat.mul_comm, Nat.mul_add_div (by omega), Nat.div_eq_of_lt hj]; rfl
  have h3 : (i' * size + j') / size = i' := by rw [Nat.mul_comm, Nat.mul_add_div (by omega), Nat.div_eq_of_lt hj']; rfl
  have : i = i' := by rw [← h2, ← h3, h1]
  subst this
  exact ⟨rfl, by omega⟩

theorem storeR_ok {t : TypeId} {a x : AV} {va vx : Value} {q : Res} (h : (storeR P t a x).eval H = some q) (hs : Sat ρ H G w)
    (ha : DenV ρ H (Hot ρ H G) w a va) (hx : DenV ρ H (Hot ρ H G) w x vx) :
    ∃ w', (Instr.storeAt t va vx).run P w = .ok () w' ∧ ∀ base, Good ρ H G w (resH H q.up base q.new) (q.r base) undef w' := by
  unfold storeR at h
  split at h
  · rename_i sz isA hsz hag
    split at h
    · -- ptr
      rename_i id off
      unfold DenV Den1 at ha
      obtain ⟨b, hb, rfl, _⟩ := ha
      simp only [RM.eval] at h
      split at h
      · rename_i segs e ho
        obtain ⟨cells, fr, h1, h2, h3⟩ := own_obj hs ho hb
        cases isA
        · simp only [cond_false] at h
          rw [Bool.cond_eq_ite] at h
          split at h
          · rename_i hc
            simp only [Bool.and_eq_true, Nat.beq_eq] at hc
            obtain ⟨hsg, rfl⟩ := hc
            split at h
            · rename_i segs' hset
              simp only [RM.eval, Option.some.injEq] at h
              subst h
              obtain ⟨h4, h5⟩ := setCellAt_ok segs off hset h3 hsg hx
              obtain ⟨h6, h7⟩ := DenC_of_single hsg hx
              refine ⟨_, run_storeAt hsz (by rw [cells_one h7]; rfl) (run_storeCells_blk off _ 0 h1 h2 (by rw [cells_one h7]; simp; omega) (by rw [cells_one h7]; simpa using h7)), fun base => ?_⟩
              simp only [resH_up, cells_one h7, Nat.add_zero, List.length_singleton]
              exact Good.writeOwn hs ho hb h1 h2 (by simp; omega) (by rw [take_set_drop _ _ _ h4]; exact h5)
            · cases h
          · cases h
        · simp only [cond_true] at h
          split at h
          · rename_i by_ hby
            rw [Bool.cond_eq_ite] at h
            split at h
            · rename_i hc
              simp only [Bool.and_eq_true, Nat.beq_eq] at hc
              obtain ⟨hw, _⟩ := hc
              split at h
              · rename_i segs' hput
                simp only [RM.eval, Option.some.injEq] at h
                subst h
                have h4 := segsQ_ok hby hx
                have h5 := DenSegs_len h4
                obtain ⟨h6, h7⟩ := putSegs_ok hput h3 h4
                refine ⟨_, run_storeAt hsz (h5.trans hw) (run_storeCells_blk off _ 0 h1 h2 (by omega) (segs_one by_ h4)), fun base => ?_⟩
                simp only [resH_up, Nat.add_zero]
                exact Good.writeOwn hs ho hb h1 h2 (by simp only [List.length_append, List.length_take, List.length_drop]; omega) h7
              · cases h
            · cases h
          · cases h
      · cases h
    · -- ptrx
      rename_i id off n i
      unfold DenV Den1 at ha
      obtain ⟨hin, b, hb, rfl, _⟩ := ha
      simp only [RM.eval] at h
      split at h
      · rename_i segs e ho
        obtain ⟨cells, fr, h1, h2, h3⟩ := own_obj hs ho hb
        split at h
        · rename_i k m ws k' l y hrow hnum
          rw [Bool.cond_eq_ite] at h
          split at h
          · rename_i hc
            simp only [Bool.and_eq_true, Bool.not_eq_true', Nat.beq_eq] at hc
            obtain ⟨⟨⟨rfl, hk⟩, rfl⟩, rfl⟩ := hc
            obtain rfl := kindEq_eq hk
            split at h
            · rename_i segs' hset
              simp only [RM.eval, Option.some.injEq] at h
              subst h
              obtain rfl := num_den hnum hx
              obtain ⟨hl, pre, post, rfl, hp⟩ := rowAt'_ok segs off hrow h3
              have h4 := setRowAt_ok segs off hrow hset (by simp) h3 hp
              have hlt : off + i < (pre ++ ws.map (Value.int k) ++ post).length := by simp; omega
              refine ⟨_, run_storeAt hsz rfl (run_storeCells_blk (off + i) [.int k y] 0 h1 h2 (by simp; omega) (by simp [Value.oneCell'])), fun base => ?_⟩
              simp only [resH_up, Nat.add_zero, List.length_singleton]
              refine Good.writeOwn hs ho hb h1 h2 (by rw [take_set_drop _ _ _ hlt]; simp) ?_
              rw [take_set_drop _ _ _ hlt, List.append_assoc, List.set_append_right _ _ (by omega), List.set_append_left _ _ (by simp; omega), show off + i - pre.length = i from by omega, ← List.append_assoc]
              rw [List.map_set] at h4
              exact h4
            · cases h
          · cases h
        · cases h
      · cases h
    · -- vptr
      rename_i id i j
      unfold DenV Den1 at ha
      obtain ⟨_, o, ho, hv⟩ := ha
      simp only [RM.eval] at h
      split at h
      · rename_i c e ho'
        rw [ho] at ho'
        cases ho'
        obtain ⟨hi, hj, b, f, n, cap, hroot, rfl⟩ := hv c e rfl
        split at h
        · rename_i by_ hby
          rw [Bool.cond_eq_ite] at h
          split at h
          · rename_i hc
            simp only [Bool.and_eq_true, Nat.beq_eq] at hc
            obtain ⟨hw, hle⟩ := hc
            have hle := Nat.le_of_ble_eq_true hle
            split at h
            · rename_i c' hset
              simp only [RM.eval, Option.some.injEq] at h
              subst h
              have h4 := segsQ_ok hby hx
              obtain ⟨k1, k2, k3, k4, k5⟩ := con_sets by_ c hset h4 hi (by omega)
              obtain ⟨a, cap', h5, h6, h7, h8⟩ := hs.obj id _ ho
              rw [hroot] at h5
              cases h5
              rcases h8 with rfl | ⟨b', o', cells, fr, us, e1, g1, g2, g3, g4⟩
              · omega
              · cases e1
                have hbk : blk (ρ id) = some b := by
                  rw [hroot]
                  simp only [blk]
                  rw [if_neg (by omega)]
                have hmul : i * c.size + c.size ≤ cap * c.size := by
                  rw [← Nat.succ_mul]
                  exact Nat.mul_le_mul_right _ (by omega)
                have hlen : f + i * c.size + j + vx.cells.toList.length ≤ cells.length := by omega
                have st := write_step (G := G) (w := w) (o' := .vec c' e) ho rfl hbk (fun c1 e1 hc1 => by cases hc1; exact ⟨c, e, rfl, k1, k2⟩)
                  (.cells (cells.take (f + i * c.size + j) ++ vx.cells.toList ++ cells.drop (f + i * c.size + j + vx.cells.toList.length)).toArray e fr)
                refine ⟨_, run_storeAt hsz (k3.trans hw) (run_storeCells_blk (f + i * c.size + j) _ 0 g1 g2.unm (by omega) (segs_one by_ h4)), fun base => ?_⟩
                simp only [resH_up, Nat.add_zero]
                refine Good.write hs ho rfl rfl hbk (fun c1 e1 hc1 => by cases hc1; exact ⟨c, e, rfl, k1, k2⟩) ?_ den_undef
                refine ⟨some ⟨b, f, none⟩, cap, by rw [hroot, k1], by omega, h7, .inr ⟨b, f, _, fr, fun i' j' => if i' = i ∧ j ≤ j' ∧ j' < j + wides by_ then (vx.cells.toList.getD (j' - j) undef) else us i' j', rfl, setBlk_get g1, ?_, ?_, ?_⟩⟩
                · exact g2.over (segs_one by_ h4) hlen
                · simp only [List.length_append, List.length_take, List.length_drop]
                  rw [k2]; omega
                · intro i' j' hi' hj'
                  rw [k1] at hi'
                  rw [k2] at hj'
                  rw [k2, mid_get _ _ _ hlen]
                  dsimp only
                  by_cases hin : i' = i ∧ j ≤ j' ∧ j' < j + wides by_
                  · obtain ⟨rfl, h9, h10⟩ := hin
                    rw [if_pos ⟨by omega, by omega⟩, if_pos ⟨rfl, h9, h10⟩]
                    have hx1 : j' - j < vx.cells.toList.length := by omega
                    refine ⟨by rw [show f + i' * c.size + j' - (f + i' * c.size + j) = j' - j from by omega]; exact get_getD _ _ _ hx1, ?_⟩
                    have := k4 (j' - j) _ (get_getD _ _ undef hx1)
                    rw [show j + (j' - j) = j' from by omega] at this
                    exact this.step st.hot st.heap st.size
                  · rw [if_neg hin]
                    have hout : ¬ (f + i * c.size + j ≤ f + i' * c.size + j' ∧ f + i' * c.size + j' < f + i * c.size + j + vx.cells.toList.length) := by
                      rintro ⟨h9, h10⟩
                      have hd : f + i * c.size + (f + i' * c.size + j' - (f + i * c.size)) = f + i' * c.size + j' := by omega
                      obtain ⟨h11, h12⟩ := idx_ne (f := f) (i := i) (i' := i') (j := f + i' * c.size + j' - (f + i * c.size)) (by omega) hj' hd
                      subst h11
                      exact hin ⟨rfl, by omega, by omega⟩
                    rw [if_neg hout, k5 i' j' hi' hj' (by omega)]
                    obtain ⟨h9, h10⟩ := g4 i' j' hi' hj'
                    exact ⟨h9, h10.step st.hot st.heap st.size⟩
            · cases h
          · cases h
        · cases h
      · cases h
    · cases h
  · cases h
end
end Go.Sx

/-! New objects: variables, aggregates, slices. -/
namespace Go.Sx
open Go

section
variable {ρ ρ' : Nat → Value} {H H' : AHeap} {G O O' : Nat → Prop} {w w' : World} {P : Program}

theorem svOf_ok {v : Value} {x : SV} (h : svOf v = some x) : DenS O w x v := by
  unfold svOf at h
  split at h <;> simp only [Option.some.injEq, reduceCtorEq] at h <;> subst h
  · exact .blit _
  · exact .ilit _ _
  · exact .str _
  · exact .nilp
  · exact .nili
  · exact .nilf
  · exact .nilm

theorem av1Of_ok {v : Value} {a : AV} (h : av1Of v = some a) : DenC ρ H O w a [v] := by
  unfold av1Of at h
  split at h
  · simp only [Option.some.injEq] at h
    subst h
    unfold DenC
    exact ⟨_, rfl, none, rfl⟩
  · simp only [Option.map_eq_some_iff] at h
    obtain ⟨x, h1, rfl⟩ := h
    unfold DenC
    exact ⟨v, rfl, svOf_ok h1⟩

theorem allOf_ok : ∀ (vs : List Value) {azs : List AV}, allOf vs = some azs → DenSegs ρ H O w azs vs
  | [], azs, h => by simp only [allOf, Option.some.injEq] at h; subst h; exact DenSegs_nil.2 rfl
  | v :: vs, azs, h => by
    simp only [allOf] at h
    split at h
    · rename_i a azs' h1 h2
      simp only [Option.some.injEq] at h
      subst h
      exact DenSegs_cons.2 ⟨[v], vs, rfl, av1Of_ok h1, allOf_ok vs h2⟩
    · cases h

theorem zeroNums_ok (k : IntKind) : ∀ (cs : List Value), zeroNums k cs = true → cs = (List.replicate cs.length (0 : Int)).map (Value.int k)
  | [], _ => rfl
  | v :: vs, h => by
    unfold zeroNums at h
    split at h
    · rename_i hc; cases hc
    · rename_i k' vs' hc
      cases hc
      simp only [Bool.and_eq_true] at h
      obtain rfl := kindEq_eq h.1
      have := zeroNums_ok k vs h.2
      simp only [List.length_cons, List.replicate_succ, List.map_cons, List.cons.injEq, true_and]
      exact this
    · cases h

theorem zeroFold (P : Program) (d : Nat) (ih : ∀ t cs segs, zeroSegs P d t cs = some segs → DenSegs ρ H O w segs cs) : ∀ (fs : List Field) (s0 s1 : List AV) (r0 r1 : List Value),
    fs.foldl (fun acc f => match acc, szOf P f.type with
        | some (segs, rest), some n => (zeroSegs P d f.type (rest.take n)).map fun s => (segs ++ s, rest.drop n)
        | _, _ => none) (some (s0, r0)) = some (s1, r1) → ∃ s' c, s1 = s0 ++ s' ∧ r0 = c ++ r1 ∧ DenSegs ρ H O w s' c
  | [], s0, s1, r0, r1, h => by
    simp only [List.foldl_nil, Option.some.injEq, Prod.mk.injEq] at h
    obtain ⟨rfl, rfl⟩ := h
    exact ⟨[], [], by simp, rfl, DenSegs_nil.2 rfl⟩
  | f :: fs, s0, s1, r0, r1, h => by
    simp only [List.foldl_cons] at h
    have hnone : ∀ (fs : List Field), fs.foldl (fun (acc : Option (List AV × List Value)) f => match acc, szOf P f.type with
        | some (segs, rest), some n => (zeroSegs P d f.type (rest.take n)).map fun s => (segs ++ s, rest.drop n)
        | _, _ => none) none = none := by
      intro fs
      induction fs with
      | nil => rfl
      | cons f fs ih => simp only [List.foldl_cons]; exact ih
    cases hsz : szOf P f.type with
    | none => rw [hsz] at h; simp only [hnone] at h; cases h
    | some n =>
      rw [hsz] at h
      simp only [] at h
      cases hz : zeroSegs P d f.type (r0.take n) with
      | none => rw [hz] at h; simp only [Option.map_none, hnone] at h; cases h
      | some s =>
        rw [hz] at h
        simp only [Option.map_some] at h
        obtain ⟨s', c, rfl, h1, h2⟩ := zeroFold P d ih fs _ _ _ _ h
        refine ⟨s ++ s', r0.take n ++ c, by simp, ?_, DenSegs_append.2 ⟨_, _, rfl, ih _ _ _ hz, h2⟩⟩
        rw [List.append_assoc, ← h1, List.take_append_drop]

theorem zeroSegs_ok (P : Program) : ∀ (d : Nat) (t : TypeId) (cs : List Value) (segs : List AV), zeroSegs P d t cs = some segs → DenSegs ρ H O w segs cs
  | 0, t, cs, segs, h => by simp [zeroSegs] at h
  | d + 1, t, cs, segs, h => by
    simp only [zeroSegs] at h
    split at h
    · simp only [Option.bind_eq_some_iff] at h
      obtain ⟨⟨s, rest⟩, h1, h2⟩ := h
      obtain ⟨s', c, rfl, rfl, h3⟩ := zeroFold P d (zeroSegs_ok P d) _ _ _ _ _ h1
      simp only [] at h2
      split at h2
      · simp only [Option.some.injEq] at h2
        subst h2
        simpa using h3
      · cases h2
    · split at h
      · rename_i k hk
        rw [Bool.cond_eq_ite] at h
        split at h
        · rename_i hc
          simp only [Bool.and_eq_true, beq_iff_eq] at hc
          obtain ⟨hz, rfl⟩ := hc
          simp only [Option.some.injEq] at h
          subst h
          exact DenSegs_cons.2 ⟨cs, [], by simp, DenC_ints.2 ⟨by simp, zeroNums_ok k cs hz⟩, DenSegs_nil.2 rfl⟩
        · exact allOf_ok cs h
      · exact allOf_ok cs h
    · exact allOf_ok cs h

theorem segs_ofSegs (segs : List AV) : (AV.ofSegs segs).segs? = some segs := by
  unfold AV.ofSegs
  split <;> rfl

theorem zeroOf_ok {t : TypeId} {segs : List AV} (h : (zeroOf P t).bind AV.segs? = some segs) : ∃ i v, P.info? t = some i ∧ i.zero = some v ∧ DenSegs ρ H O w segs v.cells.toList := by
  simp only [Option.bind_eq_some_iff] at h
  obtain ⟨z, h1, h2⟩ := h
  unfold zeroOf at h1
  split at h1
  · rename_i cs hz ha
    simp only [Option.bind_eq_some_iff] at hz
    obtain ⟨i, hi, hz⟩ := hz
    simp only [Option.map_eq_some_iff] at h1
    obtain ⟨ss, h3, rfl⟩ := h1
    rw [segs_ofSegs] at h2
    simp only [Option.some.injEq] at h2
    subst h2
    exact ⟨i, _, hi, hz, by simpa [Value.cells] using zeroSegs_ok P 20 t _ _ h3⟩
  · skip
    rename_i v hz ha
    simp only [Option.bind_eq_some_iff] at hz
    obtain ⟨i, hi, hz⟩ := hz
    refine ⟨i, v, hi, hz, ?_⟩
    have hc := av1Of_ok (ρ := ρ) (H := H) (O := O) (w := w) h1
    have hv : v.oneCell' = true ∧ z.segs? = some [z] := by
      unfold av1Of at h1
      split at h1
      · simp only [Option.some.injEq] at h1; subst h1; exact ⟨rfl, rfl⟩
      · simp only [Option.map_eq_some_iff] at h1
        obtain ⟨x, h3, rfl⟩ := h1
        refine ⟨(svOf_ok (O := O) (w := w) h3).one, ?_⟩
        unfold svOf at h3
        split at h3 <;> simp only [Option.some.injEq, reduceCtorEq] at h3 <;> subst h3 <;> rfl
    rw [hv.2] at h2
    simp only [Option.some.injEq] at h2
    subst h2
    rw [cells_one hv.1]
    exact DenSegs_cons.2 ⟨[v], [], rfl, hc, DenSegs_nil.2 rfl⟩
  · cases h1

theorem fresh_own (hs : Sat ρ H G w) {n : Nat} (hn : H n = none) {segs : List AV} {e : TypeId} {cells : List Value} (hd : DenSegs ρ H (Hot ρ H G) w segs cells) :
    Good ρ H G w (updH H n (.own segs e)) (.ptr n 0) (.pointer (some ⟨w.heap.size, 0, none⟩)) (w.alloc (.cells cells.toArray e)) := by
  have st : Step ρ H (Hot ρ H G) w (fun j => if j = n then .pointer (some ⟨w.heap.size, 0, none⟩) else ρ j) (updH H n (.own segs e)) (Hot (fun j => if j = n then .pointer (some ⟨w.heap.size, 0, none⟩) else ρ j) (updH H n (.own segs e)) G) (w.alloc (.cells cells.toArray e)) := by
    have ne : ∀ j x, H j = some x → j ≠ n := fun j x hx e => by subst e; rw [hn] at hx; cases hx
    refine ⟨fun j x hx => by simp [ne j x hx], fun j x hx => ⟨x, by simp [updH, ne j x hx, hx], fun c' e' hc => ⟨c', e', hc, rfl, rfl⟩⟩, fun b hb => ?_, fun b hb _ => alloc_old hb, by rw [alloc_size]; omega⟩
    rcases hb with ⟨j, x, hx, h1, h2⟩ | hb
    · by_cases hj : j = n
      · subst hj; simp only [if_true, blk, Option.some.injEq] at h2; exact .inr (by omega)
      · simp only [updH, hj, if_false] at hx h2
        exact .inl (.inl ⟨j, x, hx, h1, h2⟩)
    · exact .inl (.inr hb)
  refine Good.fresh (root := .pointer (some ⟨w.heap.size, 0, none⟩)) hs hn rfl rfl rfl rfl (fun b hb => by simpa [blk] using hb.symm) ?_ ?_
  · exact ⟨w.heap.size, cells, (0, 0), rfl, alloc_get, fun off _ h => by omega, hd.step st⟩
  · unfold DenV Den1
    exact ⟨w.heap.size, by simp, rfl, by simp [updH]⟩

theorem fresh_strs (hs : Sat ρ H G w) {n : Nat} (hn : H n = none) {k : Nat} (hk : 1 ≤ k) (hk2 : k ≤ maxLen) {e : TypeId} :
    Good ρ H G w (updH H n (.vec (.strs (List.replicate k ByteArray.empty)) e)) (.vptr n 0 0) (.pointer (some ⟨w.heap.size, 0, none⟩)) (w.alloc (.cells (List.replicate k (Value.string ByteArray.empty)).toArray e)) := by
  have hblk : ∀ b, blk (.slice (some ⟨w.heap.size, 0, none⟩) k k) = some b → b = w.heap.size := by
    intro b hb
    simp only [blk] at hb
    split at hb
    · cases hb
    · simpa using hb.symm
  refine Good.fresh (root := .slice (some ⟨w.heap.size, 0, none⟩) k k) hs hn rfl rfl rfl rfl hblk ?_ ?_
  · refine ⟨some ⟨w.heap.size, 0, none⟩, k, by simp [Con.n], by simp [Con.n], hk2, .inr ⟨w.heap.size, 0, List.replicate k (Value.string ByteArray.empty), (0, 0), fun _ _ => .string ByteArray.empty, rfl, alloc_get, ⟨fun off _ h => by omega, fun u hu => ?_⟩, by simp [Con.size], fun i j hi hj => ?_⟩⟩
    · rw [(List.mem_replicate.1 hu).2]; rfl
    · simp only [Con.n, List.length_replicate] at hi
      simp only [Con.size] at hj ⊢
      obtain rfl : j = 0 := by omega
      refine ⟨by simp [hi], ?_⟩
      simp only [Con.cell]
      rw [show (List.replicate k ByteArray.empty).getD i ByteArray.empty = ByteArray.empty from by simp [List.getD, hi]]
      exact DenS.str _
  · unfold DenV Den1
    exact ⟨rfl, .vec (.strs (List.replicate k ByteArray.empty)) e, by simp [updH], fun c' e' hc => by
      cases hc
      exact ⟨by simp [Con.n]; omega, by simp [Con.size], w.heap.size, 0, k, k, by simp, by simp [Con.size]⟩⟩

theorem arrStrs_ok {t : TypeId} {n : Nat} (h : arrStrs P t = some n) : 1 ≤ n ∧ n ≤ 4096 ∧ ∃ i v, P.info? t = some i ∧ i.zero = some v ∧ v.cells = (List.replicate n (Value.string ByteArray.empty)).toArray := by
  unfold arrStrs at h
  split at h
  · rename_i m e i _ hi
    split at h
    · rename_i z _ hz
      rw [Bool.cond_eq_ite] at h
      split at h
      · rename_i hc
        simp only [Option.some.injEq] at h
        subst h
        simp only [Bool.and_eq_true, Nat.beq_eq] at hc
        obtain ⟨⟨⟨c1, c2⟩, c3⟩, c4⟩ := hc
        have c1 := Nat.le_of_ble_eq_true c1
        refine ⟨by omega, Nat.le_of_ble_eq_true c2, i, z, hi, hz, ?_⟩
        rw [List.all_eq_true] at c4
        have : z.cells.toList = List.replicate m (Value.string ByteArray.empty) := List.eq_replicate_iff.2 ⟨by rw [Array.length_toList]; exact c3, fun b hb => by
          have := c4 b hb
          split at this
          · rename_i s
            have h0 : s.size = 0 := by simpa using this
            have : s = ByteArray.empty := ByteArray.ext (Array.eq_empty_of_size_eq_zero h0)
            rw [this]
          · cases this⟩
        rw [← this]
      · cases h
    · cases h
  · cases h

theorem allocR_ok {t : TypeId} {q : Res} (h : (allocR P t).eval H = some q) (hs : Sat ρ H G w) {base : Nat} (hb : ∀ i, i < q.new.length → H (base + i) = none) (old : Value) :
    ∃ v w', (Instr.alloc t true old).run P w = .ok v w' ∧ Good ρ H G w (resH H q.up base q.new) (q.r base) v w' := by
  unfold allocR at h
  split at h
  · rename_i n hz
    simp only [RM.eval, Option.some.injEq] at h
    subst h
    obtain ⟨h1, h2, i, v, hi, hv, hc⟩ := arrStrs_ok hz
    have hn : H base = none := by simpa using hb 0 (by simp)
    refine ⟨.pointer (some ⟨w.heap.size, 0, none⟩), w.alloc (.cells v.cells t), ?_, ?_⟩
    · simp [Instr.alloc, zeroValue, typeInfo, hi, hv, newVar, newRow]; try rfl
    · simp only [resH_new]
      have := fresh_strs hs hn h1 (by unfold maxLen; omega) (e := t)
      rw [hc]
      simpa using this
  split at h
  · rename_i segs hz
    simp only [RM.eval, Option.some.injEq] at h
    subst h
    obtain ⟨i, v, hi, hv, hd⟩ := zeroOf_ok (ρ := ρ) (H := H) (O := Hot ρ H G) (w := w) hz
    have hn : H base = none := by simpa using hb 0 (by simp)
    refine ⟨.pointer (some ⟨w.heap.size, 0, none⟩), w.alloc (.cells v.cells t), ?_, ?_⟩
    · simp [Instr.alloc, zeroValue, typeInfo, hi, hv, newVar, newRow]; try rfl
    · simp only [resH_new]
      have := fresh_own hs hn (e := t) hd
      simpa using this
  · cases h

theorem boxR_ok {t : TypeId} {x : AV} {vx : Value} {q : Res} (h : (boxR t x).eval H = some q) (hs : Sat ρ H G w) (hd : DenV ρ H (Hot ρ H G) w x vx) {base : Nat} (hb : ∀ i, i < q.new.length → H (base + i) = none) :
    ∃ v w', (Instr.box t vx).run P w = .ok v w' ∧ Good ρ H G w (resH H q.up base q.new) (q.r base) v w' := by
  unfold boxR at h
  split at h
  · rename_i segs hz
    simp only [RM.eval, Option.some.injEq] at h
    subst h
    have hn : H base = none := by simpa using hb 0 (by simp)
    refine ⟨.pointer (some ⟨w.heap.size, 0, none⟩), w.alloc (.cells vx.cells t), ?_, ?_⟩
    · simp [Instr.box, newVar, newRow]; try rfl
    · simp only [resH_new]
      have := fresh_own hs hn (e := t) (segsQ_ok hz hd)
      simpa using this
  · cases h
end
end Go.Sx

/-! Composite values and slices written out. -/
namespace Go.Sx
open Go

section
variable {ρ ρ' : Nat → Value} {H H' : AHeap} {G O O' : Nat → Prop} {w w' : World} {P : Program}

theorem foldl_set (off : Nat) : ∀ (vs : List Value) (k : Nat) (cells : Array Value), off + k + vs.length ≤ cells.size →
    ((vs.zipIdx k).foldl (fun (cs : Array Value) (x : Value × Nat) => cs.setIfInBounds (off + x.2) x.1) cells).toList = cells.toList.take (off + k) ++ vs ++ cells.toList.drop (off + k + vs.length)
  | [], k, cells, _ => by simp
  | v :: vs, k, cells, h => by
    simp only [List.length_cons] at h
    simp only [List.zipIdx_cons, List.foldl_cons]
    rw [foldl_set off vs (k + 1) _ (by simp; omega)]
    have hlt : off + k < cells.toList.length := by simp; omega
    simp only [Array.toList_setIfInBounds]
    rw [← Nat.add_assoc, List.take_set, List.drop_set_of_lt (by omega)]
    have e1 : (cells.toList.take (off + k + 1)).set (off + k) v = cells.toList.take (off + k) ++ [v] := by
      rw [List.take_succ_eq_append_getElem hlt]
      rw [List.set_append_right _ _ (by simp; omega)]
      simp at hlt
      simp [Nat.min_eq_left (Nat.le_of_lt hlt)]
    rw [e1]
    simp only [List.append_assoc, List.length_cons, List.cons_append, List.nil_append]
    rw [show off + k + 1 + vs.length = off + k + (vs.length + 1) from by omega]

theorem fill_ok {place : Nat → Option (Nat × Nat)} {ev : Operand → AV} {e : Operand → Value} : ∀ (l : List (Nat × Operand)) (segs ss : List AV) (cells : Array Value), (∀ p ∈ l, DenV ρ H O w (ev p.2) (e p.2)) →
    putAll place segs (l.map fun p => (p.1, ev p.2)) = some ss → DenSegs ρ H O w segs cells.toList →
    ∃ cells', Instr.fill place cells (l.map fun p => (p.1, e p.2)) = some cells' ∧ DenSegs ρ H O w ss cells'.toList
  | [], segs, ss, cells, _, h, hd => by
    simp only [List.map_nil, putAll, Option.some.injEq] at h
    subst h
    exact ⟨cells, rfl, hd⟩
  | (i, x) :: l, segs, ss, cells, hp, h, hd => by
    simp only [List.map_cons, putAll] at h
    split at h
    · rename_i off size by_ hpl hby
      rw [Bool.cond_eq_ite] at h
      split at h
      · rename_i hc
        simp only [Bool.and_eq_true, Nat.beq_eq] at hc
        simp only [Option.bind_eq_some_iff] at h
        obtain ⟨s1, h1, h2⟩ := h
        have hx := segsQ_ok hby (hp (i, x) (by simp))
        have hlen := DenSegs_len hx
        obtain ⟨h3, h4⟩ := putSegs_ok h1 hd hx
        simp only [Array.length_toList] at hlen h3
        obtain ⟨cells', h5, h6⟩ := fill_ok l s1 ss ((e x).cells.zipIdx.foldl (fun cs (c, j) => cs.setIfInBounds (off + j) c) cells) (fun p hp' => hp p (by simp [hp'])) h2 (by
          rw [← Array.foldl_toList, Array.toList_zipIdx]
          have := foldl_set off (e x).cells.toList 0 cells (by simpa using h3)
          simp only [Nat.add_zero] at this
          rw [this]
          exact h4)
        refine ⟨cells', ?_, h6⟩
        simp only [List.map_cons, Instr.fill, hpl]
        rw [if_neg (by simp; omega)]
        exact h5
      · cases h
    · cases h

theorem mapM_places (P : Program) (w : World) : ∀ (fs : List Field), fs.all (fun f => (szOf P f.type).isSome) = true →
    (fs.mapM (m := Sem) fun f => do pure (f.offset, ← sizeOf f.type)).run P w = .ok (fs.map fun f => (f.offset, (szOf P f.type).getD 0)) w
  | [], _ => by simp
  | f :: fs, h => by
    simp only [List.all_cons, Bool.and_eq_true] at h
    obtain ⟨n, hn⟩ := Option.isSome_iff_exists.1 h.1
    have ih := mapM_places P w fs h.2
    simp only [List.mapM_cons, Sem.run_bind, run_sizeOf hn, Result.andThen_ok, Sem.run_pure, ih, List.map_cons, hn, Option.getD_some]

theorem buildR_ok {t : TypeId} {ps : Array (Nat × Operand)} {ev : Operand → AV} {e : Operand → Value} {q : Res} (h : (buildR P t (ps.toList.map fun p => (p.1, ev p.2))).eval H = some q) (hn : Needs q.need)
    (hp : ∀ p ∈ ps, DenV ρ H O w (ev p.2) (e p.2)) : ValOK P ρ H O w q (Instr.build t (ps.map fun (i, x) => (i, e x))) := by
  have hp' : ∀ p ∈ ps.toList, DenV ρ H O w (ev p.2) (e p.2) := fun p hm => hp p (Array.mem_toList_iff.1 hm)
  unfold buildR at h
  split at h
  · rename_i segs fs hz ht
    obtain ⟨i, v, hi, hv, hd⟩ := zeroOf_ok (ρ := ρ) (H := H) (O := O) (w := w) hz
    rw [Bool.cond_eq_ite] at h
    split at h
    · rename_i hall
      split at h
      · rename_i ss hss
        have hm : (fs.mapM (m := Sem) fun f => do pure (f.offset, ← sizeOf f.type)).run P w = .ok (fs.toList.map fun f => (f.offset, (szOf P f.type).getD 0)).toArray w := by
          rw [Array.mapM_eq_mapM_toList]
          simp only [Sem.run_map, mapM_places P w fs.toList hall, Result.andThen_ok]
        have hplace : (fun i => ((fs.toList.map fun (f : Field) => (f.offset, (szOf P f.type).getD 0)).toArray)[i]?) = (fun (i : Nat) => (fs[i]?).bind fun (f : Field) => (szOf P f.type).map fun n => (f.offset, n)) := by
          funext i
          simp only [List.getElem?_toArray, List.getElem?_map, Array.getElem?_toList]
          cases hf : fs[i]? with
          | none => rfl
          | some f =>
            have hmem : f ∈ fs.toList := Array.mem_toList_iff.2 (Array.mem_of_getElem? hf)
            obtain ⟨n, hn⟩ := Option.isSome_iff_exists.1 (List.all_eq_true.1 hall f hmem)
            simp [hn]
        obtain ⟨cells', h1, h2⟩ := fill_ok ps.toList segs ss v.cells hp' hss hd
        refine plain_ok h (fun _ => ⟨.agg cells', ?_, by simpa using ofSegs_ok h2⟩) hn
        rw [← hplace] at h1
        simp only [Instr.build, zeroValue, typeInfo, Sem.run_bind, run_program, Result.andThen_ok, hi, Sem.run_pure, hv, run_underlying ht, hm]
        simp only [Array.toList_map]
        erw [h1]
        rfl
      · cases h
    · cases h
  · rename_i segs n el hz ht
    obtain ⟨i, v, hi, hv, hd⟩ := zeroOf_ok (ρ := ρ) (H := H) (O := O) (w := w) hz
    split at h
    · rename_i sz hsz
      split at h
      · rename_i ss hss
        obtain ⟨cells', h1, h2⟩ := fill_ok ps.toList segs ss v.cells hp' hss hd
        refine plain_ok h (fun _ => ⟨.agg cells', ?_, by simpa using ofSegs_ok h2⟩) hn
        simp only [Instr.build, zeroValue, typeInfo, Sem.run_bind, run_program, Result.andThen_ok, hi, Sem.run_pure, hv, run_underlying ht, run_sizeOf hsz]
        simp only [Array.toList_map]
        erw [h1]
        rfl
      · cases h
    · cases h
  · cases h
end
end Go.Sx

/-! Slices written out. -/
namespace Go.Sx
open Go

section
variable {ρ ρ' : Nat → Value} {H H' : AHeap} {G O O' : Nat → Prop} {w w' : World} {P : Program}

/-- Values of one cell each, side by side. -/
def Pts (O : Nat → Prop) (w : World) (l : List SV) (cs : List Value) : Prop := l.length = cs.length ∧ ∀ (i : Nat) (v : SV), l[i]? = some v → ∃ u, cs[i]? = some u ∧ DenS O w v u

theorem Pts_nil : Pts O w [] ([] : List Value) := ⟨rfl, by simp⟩
theorem Pts_cons {v : SV} {l : List SV} {cs : List Value} (h : Pts O w (v :: l) cs) : ∃ u cs', cs = u :: cs' ∧ DenS O w v u ∧ Pts O w l cs' := by
  obtain ⟨h1, h2⟩ := h
  cases cs with
  | nil => simp at h1
  | cons u cs' =>
    obtain ⟨u', h3, h4⟩ := h2 0 v rfl
    simp at h3
    subst h3
    exact ⟨_, _, rfl, h4, by simpa using h1, fun i x hx => by simpa using h2 (i + 1) x (by simpa using hx)⟩
theorem Pts_mk {v : SV} {l : List SV} {u : Value} {cs : List Value} (h1 : DenS O w v u) (h2 : Pts O w l cs) : Pts O w (v :: l) (u :: cs) :=
  ⟨by simp [h2.1], fun i x hx => by
    cases i with
    | zero => simp at hx; subst hx; exact ⟨u, rfl, h1⟩
    | succ i => simpa using h2.2 i x (by simpa using hx)⟩

theorem svs_ok : ∀ (azs : List AV) {l : List SV} {cs : List Value}, svs azs = some l → DenSegs ρ H O w azs cs → Pts O w l cs
  | [], l, cs, h, hd => by
    simp only [svs, Option.some.injEq] at h
    subst h
    obtain rfl := DenSegs_nil.1 hd
    exact Pts_nil
  | a :: azs, l, cs, h, hd => by
    obtain ⟨c1, c2, rfl, h1, h2⟩ := DenSegs_cons.1 hd
    rcases isInts a with ⟨k, n, ws, rfl⟩ | ha
    · simp [svs] at h
    · have hs : svs (a :: azs) = match a.sv?, svs azs with | some v, some vs => some (v :: vs) | _, _ => none := by
        cases a <;> first | rfl | (exact (ha _ _ _ rfl).elim)
      rw [hs] at h
      split at h
      · rename_i v vs hv hvs
        simp only [Option.some.injEq] at h
        subst h
        cases a with
        | s x =>
          unfold DenC at h1
          obtain ⟨u, rfl, hu⟩ := h1
          have : x = v := by cases x <;> simp only [AV.sv?, Option.some.injEq, reduceCtorEq] at hv <;> exact hv
          subst this
          exact Pts_mk hu (svs_ok azs hvs h2)
        | emp =>
          unfold DenC at h1
          obtain ⟨u, rfl, x, rfl⟩ := h1
          simp only [AV.sv?, Option.some.injEq] at hv
          subst hv
          exact Pts_mk (.ro (.recs 1 0 fun _ _ => .junk) x 0 (fun _ _ => undef) 0 0 (Nat.le_refl _) (by simp [maxLen]) (by simp [Con.n]) (by simp [Con.n]) (by simp [Con.n])) (svs_ok azs hvs h2)
        | _ => simp [AV.sv?] at hv
      · cases h

theorem numsOf_ok (k : IntKind) : ∀ (l : List SV) {zs : List Int} {cs : List Value}, numsOf k l = some zs → Pts O w l cs → zs.length = cs.length ∧ ∀ i, i < zs.length → ∃ u, cs[i]? = some u ∧ DenS O w (.int k (zs.getD i 0)) u
  | [], zs, cs, h, hp => by
    simp only [numsOf, Option.some.injEq] at h
    subst h
    exact ⟨hp.1, by simp⟩
  | v :: l, zs, cs, h, hp => by
    obtain ⟨u, cs', rfl, hu, hp'⟩ := Pts_cons hp
    have key : ∀ k' n, DenS O w (.int k' n) u → (bif kindEq k k' then (numsOf k l).map (n :: ·) else none) = some zs → zs.length = (u :: cs').length ∧ ∀ i, i < zs.length → ∃ x, (u :: cs')[i]? = some x ∧ DenS O w (.int k (zs.getD i 0)) x := by
      intro k' n hd h
      rw [Bool.cond_eq_ite] at h
      split at h
      · rename_i hk
        obtain rfl := kindEq_eq hk
        simp only [Option.map_eq_some_iff] at h
        obtain ⟨zs', h1, rfl⟩ := h
        obtain ⟨h2, h3⟩ := numsOf_ok k l h1 hp'
        refine ⟨by simp [h2], fun i hi => ?_⟩
        cases i with
        | zero => exact ⟨u, rfl, by simpa using hd⟩
        | succ i => simpa using h3 i (by simpa using hi)
      · cases h
    cases v <;> simp only [numsOf, reduceCtorEq] at h
    case int k' n => exact key k' n hu h
    case ilit k' n => cases hu; exact key k' n (.int _ _) h

theorem strsOf_ok : ∀ (l : List SV) {zs : List ByteArray} {cs : List Value}, strsOf l = some zs → Pts O w l cs → zs.length = cs.length ∧ ∀ i, i < zs.length → ∃ u, cs[i]? = some u ∧ DenS O w (.str (zs.getD i ByteArray.empty)) u
  | [], zs, cs, h, hp => by
    simp only [strsOf, Option.some.injEq] at h
    subst h
    exact ⟨hp.1, by simp⟩
  | v :: l, zs, cs, h, hp => by
    obtain ⟨u, cs', rfl, hu, hp'⟩ := Pts_cons hp
    cases v <;> simp only [strsOf, reduceCtorEq] at h
    simp only [Option.map_eq_some_iff] at h
    obtain ⟨zs', h1, rfl⟩ := h
    obtain ⟨h2, h3⟩ := strsOf_ok l h1 hp'
    refine ⟨by simp [h2], fun i hi => ?_⟩
    cases i with
    | zero => exact ⟨u, rfl, by simpa using hu⟩
    | succ i => simpa using h3 i (by simpa using hi)

theorem boolsOf_ok : ∀ (l : List SV) {zs : List Bool} {cs : List Value}, boolsOf l = some zs → Pts O w l cs → zs.length = cs.length ∧ ∀ i, i < zs.length → ∃ u, cs[i]? = some u ∧ DenS O w (.bool (zs.getD i false)) u
  | [], zs, cs, h, hp => by
    simp only [boolsOf, Option.some.injEq] at h
    subst h
    exact ⟨hp.1, by simp⟩
  | v :: l, zs, cs, h, hp => by
    obtain ⟨u, cs', rfl, hu, hp'⟩ := Pts_cons hp
    cases v <;> simp only [boolsOf, reduceCtorEq] at h
    case bool b =>
      simp only [Option.map_eq_some_iff] at h
      obtain ⟨zs', h1, rfl⟩ := h
      obtain ⟨h2, h3⟩ := boolsOf_ok l h1 hp'
      refine ⟨by simp [h2], fun i hi => ?_⟩
      cases i with
      | zero => exact ⟨u, rfl, by simpa using hu⟩
      | succ i => simpa using h3 i (by simpa using hi)
    case blit b =>
      simp only [Option.map_eq_some_iff] at h
      obtain ⟨zs', h1, rfl⟩ := h
      obtain ⟨h2, h3⟩ := boolsOf_ok l h1 hp'
      refine ⟨by simp [h2], fun i hi => ?_⟩
      cases i with
      | zero => cases hu; exact ⟨_, rfl, by simpa using DenS.bool _⟩
      | succ i => simpa using h3 i (by simpa using hi)

theorem CL_ofs_ok {cs : List CK} {f : Nat → SV} {x : CL cs} (h : CL.ofs cs f = some x) : ∀ j, j < CL.wide cs → ∀ (O : Nat → Prop) (w : World) (u : Value), DenS O w (f j) u → DenS O w (CL.cell cs x j) u := by
  unfold CL.ofs at h
  generalize CL.wide cs = m at h
  induction m generalizing x with
  | zero => intro j hj; omega
  | succ m ih =>
    rw [List.range_succ, List.foldl_append] at h
    simp only [List.foldl_cons, List.foldl_nil, Option.bind_eq_some_iff] at h
    obtain ⟨y, h1, h2⟩ := h
    obtain ⟨h3, h4⟩ := CL_set_ok h2
    intro j hj O w u hu
    by_cases hjm : j = m
    · subst hjm; exact h3 O w u hu
    · rw [h4 j hjm]
      exact ih h1 j (by omega) O w u hu

theorem typOf_ok {cs : List CK} {size : Nat} {cells : List SV} : ∀ {n i : Nat} {xs : List (CL cs)}, typOf cs size cells i n = some xs → xs.length = n ∧ ∀ k, k < n → ∀ j, j < CL.wide cs → ∀ (O : Nat → Prop) (w : World) (u : Value),
    DenS O w (cells.getD ((i + k) * size + j) .junk) u → DenS O w (CL.cell cs (xs.getD k (CL.d cs)) j) u
  | 0, i, xs, h => by
    simp only [typOf, Option.some.injEq] at h
    subst h
    exact ⟨rfl, fun k hk => by omega⟩
  | n + 1, i, xs, h => by
    simp only [typOf] at h
    split at h
    · rename_i x ys h1 h2
      simp only [Option.some.injEq] at h
      subst h
      obtain ⟨h3, h4⟩ := typOf_ok h2
      refine ⟨by simp [h3], fun k hk j hj O w u hu => ?_⟩
      cases k with
      | zero => exact CL_ofs_ok h1 j hj O w u (by simpa using hu)
      | succ k =>
        have := h4 k (by omega) j hj O w u (by rw [show i + 1 + k = i + (k + 1) from by omega]; exact hu)
        simpa using this
    · cases h

theorem conOf_ok {sh : Shape} {size n : Nat} {l : List SV} {cs : List Value} (hp : Pts O w l cs) (hl : l.length = n * size) (hn : (conOf sh size n l).n = n) (hs : (conOf sh size n l).size = size) :
    ∀ i j, i < n → j < size → ∃ u, cs[i * size + j]? = some u ∧ DenS O w ((conOf sh size n l).cell i j) u := by
  have hd : ∀ i j, i < n → j < size → ∃ u, cs[i * size + j]? = some u ∧ DenS O w ((Con.recs size n fun i j => l.getD (i * size + j) .junk).cell i j) u := by
    intro i j hi hj
    have hlt : i * size + j < l.length := by
      rw [hl]
      have : (i + 1) * size ≤ n * size := Nat.mul_le_mul_right _ (by omega)
      rw [Nat.succ_mul] at this
      omega
    obtain ⟨u, h1, h2⟩ := hp.2 (i * size + j) l[i * size + j] (by simp [hlt])
    refine ⟨u, h1, ?_⟩
    simp only [Con.cell, List.getD, List.getElem?_eq_getElem hlt, Option.getD_some]
    exact h2
  unfold conOf at hn hs ⊢
  cases sh with
  | ints k =>
    cases hx : numsOf k l with
    | none => simp only [hx, Option.elim] at hn hs ⊢; exact hd
    | some zs =>
      simp only [hx, Option.elim, Con.n, Con.size] at hn hs ⊢
      subst hs
      intro i j hi hj
      obtain rfl : j = 0 := by omega
      obtain ⟨h1, h2⟩ := numsOf_ok k l hx hp
      simpa [Con.cell] using h2 i (by omega)
  | strs =>
    cases hx : strsOf l with
    | none => simp only [hx, Option.elim] at hn hs ⊢; exact hd
    | some zs =>
      simp only [hx, Option.elim, Con.n, Con.size] at hn hs ⊢
      subst hs
      intro i j hi hj
      obtain rfl : j = 0 := by omega
      obtain ⟨h1, h2⟩ := strsOf_ok l hx hp
      simpa [Con.cell] using h2 i (by omega)
  | bools =>
    cases hx : boolsOf l with
    | none => simp only [hx, Option.elim] at hn hs ⊢; exact hd
    | some zs =>
      simp only [hx, Option.elim, Con.n, Con.size] at hn hs ⊢
      subst hs
      intro i j hi hj
      obtain rfl : j = 0 := by omega
      obtain ⟨h1, h2⟩ := boolsOf_ok l hx hp
      simpa [Con.cell] using h2 i (by omega)
  | typ ck =>
    simp only [Bool.cond_eq_ite] at hn hs ⊢
    by_cases hw : (CL.wide ck).beq size = true
    · simp only [hw, if_true] at hn hs ⊢
      cases hx : typOf ck size l 0 n with
      | none => simp only [hx, Option.elim] at hn hs ⊢; exact hd
      | some zs =>
        simp only [hx, Option.elim, Con.n, Con.size] at hn hs ⊢
        intro i j hi hj
        obtain ⟨h1, h2⟩ := typOf_ok hx
        obtain ⟨u, h3, h4⟩ := hd i j hi hj
        exact ⟨u, h3, h2 i hi j (by omega) O w u (by rw [Nat.zero_add]; exact h4)⟩
    · simp only [hw] at hn hs ⊢
      exact hd
  | other => exact hd

theorem rep_length {α : Type} (l : List α) : ∀ n, (rep n l).length = n * l.length
  | 0 => by simp [rep]
  | n + 1 => by simp [rep, rep_length l n, Nat.succ_mul, Nat.add_comm]

theorem rep_get {α : Type} (l : List α) : ∀ (n k : Nat), k < n * l.length → (rep n l)[k]? = l[k % l.length]?
  | 0, k, h => by simp at h
  | n + 1, k, h => by
    simp only [rep]
    by_cases hk : k < l.length
    · rw [List.getElem?_append_left hk, Nat.mod_eq_of_lt hk]
    · rw [List.getElem?_append_right (by omega), rep_get l n (k - l.length) (by rw [Nat.succ_mul] at h; omega)]
      congr 1
      rw [Nat.mod_eq_sub_mod (by omega : l.length ≤ k)]

theorem DenSegs_rep {z : List AV} {cs : List Value} (h : DenSegs ρ H O w z cs) : ∀ n, DenSegs ρ H O w (rep n z) (rep n cs)
  | 0 => DenSegs_nil.2 rfl
  | n + 1 => DenSegs_append.2 ⟨_, _, rfl, h, DenSegs_rep h n⟩

theorem range_rep (zc : Array Value) (n : Nat) : ((Array.range (n * zc.size)).map (zc[· % zc.size]!)).toList = rep n zc.toList := by
  apply List.ext_getElem?
  intro k
  simp only [Array.toList_map, Array.toList_range, List.getElem?_map]
  by_cases hk : k < n * zc.size
  · rw [List.getElem?_range hk, rep_get _ _ _ (by simpa using hk)]
    have hz : 0 < zc.size := by
      rcases Nat.eq_zero_or_pos zc.size with h0 | h0
      · rw [h0] at hk; omega
      · exact h0
    have hm : k % zc.size < zc.size := Nat.mod_lt _ hz
    simp [hm]
  · rw [List.getElem?_eq_none (by simp; omega), List.getElem?_eq_none (by rw [rep_length]; simp; omega)]
    rfl
end
end Go.Sx
