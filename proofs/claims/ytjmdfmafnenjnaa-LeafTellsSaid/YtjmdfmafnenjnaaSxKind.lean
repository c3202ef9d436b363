import Derived.WalkKit
/-! What a record's cells are, told ahead of all values. -/
namespace Go.Sx
open Go

/-- One part of a record: one cell, or a row of numbers in place. -/
inductive CK where
  | int (k : IntKind)
  | bool
  | str
  | ints (k : IntKind)
  | strs
  | bools
  | rows (cs : List CK)
  | arr (k : IntKind) (n : Nat)

mutual
def CK.V : CK → Type
  | .int _ => Int
  | .bool => Bool
  | .str => ByteArray
  | .ints _ => List Int
  | .strs => List ByteArray
  | .bools => List Bool
  | .rows cs => List (CL cs)
  | .arr _ _ => List Int
def CL : List CK → Type
  | [] => Unit
  | c :: cs => c.V × CL cs
end

def CK.d : (c : CK) → c.V
  | .int _ => (0 : Int)
  | .bool => false
  | .str => ByteArray.empty
  | .ints _ => ([] : List Int)
  | .strs => ([] : List ByteArray)
  | .bools => ([] : List Bool)
  | .rows cs => ([] : List (CL cs))
  | .arr _ n => List.replicate n (0 : Int)

def CL.d : (cs : List CK) → CL cs
  | [] => ()
  | c :: cs => (c.d, CL.d cs)

def CK.wide : CK → Nat
  | .arr _ n => n
  | _ => 1

def CL.wide : List CK → Nat
  | [] => 0
  | c :: cs => c.wide + CL.wide cs

def kEq (a b : IntKind) : Option (PLift (a = b)) := if h : a = b then some ⟨h⟩ else none

mutual
def CK.eq : (a b : CK) → Option (PLift (a = b))
  | .int k, .int k' => (kEq k k').map fun h => ⟨congrArg CK.int h.down⟩
  | .bool, .bool => some ⟨rfl⟩
  | .str, .str => some ⟨rfl⟩
  | .ints k, .ints k' => (kEq k k').map fun h => ⟨congrArg CK.ints h.down⟩
  | .strs, .strs => some ⟨rfl⟩
  | .bools, .bools => some ⟨rfl⟩
  | .rows a, .rows b => (CL.eq a b).map fun h => ⟨congrArg CK.rows h.down⟩
  | .arr k n, .arr k' n' => if h : n = n' then (kEq k k').map fun h' => ⟨by rw [h, h'.down]⟩ else none
  | _, _ => none
def CL.eq : (a b : List CK) → Option (PLift (a = b))
  | [], [] => some ⟨rfl⟩
  | a :: as, b :: bs => match CK.eq a b, CL.eq as bs with
    | some h, some h' => some ⟨by rw [h.down, h'.down]⟩
    | _, _ => none
  | _, _ => none
end

def castL {a b : List CK} (h : PLift (a = b)) (xs : List (CL a)) : List (CL b) := h.down ▸ xs

/-! maps: entries in the row in which they came -/
def mget {V : Type} (m : List (Int × V)) (k : Int) : Option V := (m.find? fun p => p.1 == k).map (·.2)
def mhas {V : Type} (m : List (Int × V)) (k : Int) : Bool := m.any fun p => p.1 == k
def mput {V : Type} (m : List (Int × V)) (k : Int) (v : V) : List (Int × V) := if mhas m k = true then m.map fun p => if p.1 == k then (k, v) else p else m ++ [(k, v)]
def mdel {V : Type} (m : List (Int × V)) (k : Int) : List (Int × V) := m.filter fun p => p.1 != k

theorem castL_rfl {a : List CK} (h : PLift (a = a)) (xs : List (CL a)) : castL h xs = xs := rfl
end Go.Sx
