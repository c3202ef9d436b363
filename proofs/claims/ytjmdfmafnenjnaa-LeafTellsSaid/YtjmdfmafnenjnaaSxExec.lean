import Derived.Test.YtjmdfmafnenjnaaSxBase
/-! The executor: over the model's own code, abstract values in the slots. -/
namespace Go.Sx
open Go

inductive RM (α : Type) where
  | ret (a : α)
  | look (id : Nat) (k : Option AObj → RM α)
  | fail (why : String)

def RM.eval {α : Type} (H : AHeap) : RM α → Option α
  | .ret a => some a
  | .look id k => (k (H id)).eval H
  | .fail _ => none

def RM.ids {α : Type} (H : AHeap) : RM α → List Nat
  | .ret _ => []
  | .look id k => id :: (k (H id)).ids H
  | .fail _ => []

def RM.why {α : Type} (H : AHeap) : RM α → String
  | .ret _ => ""
  | .look _ k => (k (H id)).why H
  | .fail w => w
where id : Nat := 0

structure Res where
  need : List Prop
  up : List (Nat × AObj)
  new : List AObj
  r : Nat → AV

def plain (need : List Prop) (r : AV) : RM Res := .ret ⟨need, [], [], fun _ => r⟩
def orFail (why : String) : Option (List Prop × AV) → RM Res
  | some (need, r) => plain need r
  | none => .fail why

def inI64 (n : Int) : Prop := -9223372036854775808 ≤ n ∧ n ≤ 9223372036854775807

def kindEq : IntKind → IntKind → Bool
  | .i8, .i8 | .i16, .i16 | .i32, .i32 | .i64, .i64 | .u8, .u8 | .u16, .u16 | .u32, .u32 | .u64, .u64 => true
  | _, _ => false

def isI64 : IntKind → Bool
  | .i64 => true
  | _ => false

def bitop (op : BinOp) (k : IntKind) (x y : Int) : Int :=
  let a := BitVec.ofInt k.bits x
  let b := BitVec.ofInt k.bits y
  match op with
  | .and => k.wrap (a &&& b).toNat
  | .or => k.wrap (a ||| b).toNat
  | .xor => k.wrap (a ^^^ b).toNat
  | _ => k.wrap (a &&& ~~~b).toNat

def mkInt (lit : Bool) (k : IntKind) (n : Int) : AV := .s (if lit then .ilit k n else .int k n)
def mkBool (lit : Bool) (b : Bool) : AV := .s (if lit then .blit b else .bool b)

/-- A sum, difference, product: bare where it is an int and fits (which is owed), else wrapped. -/
def arithR (lit : Bool) (k : IntKind) (n : Int) : List Prop × AV :=
  bif lit then ([], .s (.ilit k (k.wrap n)))
  else bif isI64 k then ([inI64 n], .s (.int k n)) else ([], .s (.int k (k.wrap n)))

def intBin (op : BinOp) (k : IntKind) (lx ly : Bool) (x y : Int) : Option (List Prop × AV) :=
  let lit := lx && ly
  match op with
  | .add => some (arithR lit k (x + y))
  | .sub => some (arithR lit k (x - y))
  | .mul => some (arithR lit k (x * y))
  | .quo => some (bif lit then ([y ≠ 0], .s (.ilit k (k.wrap (x.tdiv y)))) else bif isI64 k then ([y ≠ 0, inI64 (x.tdiv y)], .s (.int k (x.tdiv y))) else ([y ≠ 0], .s (.int k (k.wrap (x.tdiv y)))))
  | .rem => some ([y ≠ 0], mkInt lit k (x.tmod y))
  | .and | .or | .xor | .andNot => some ([], mkInt lit k (bitop op k x y))
  | .eql => some ([], mkBool lit (x == y))
  | .neq => some ([], mkBool lit (x != y))
  | .lss => some ([], mkBool lit (decide (x < y)))
  | .leq => some ([], mkBool lit (decide (x ≤ y)))
  | .gtr => some ([], mkBool lit (decide (x > y)))
  | .geq => some ([], mkBool lit (decide (x ≥ y)))
  | _ => none

def shiftR (op : BinOp) (k : IntKind) (lit : Bool) (x y : Int) : Option (List Prop × AV) :=
  match op with
  | .shl => some ([0 ≤ y], mkInt lit k (k.wrap (x * 2 ^ (min y.toNat k.bits))))
  | .shr => some ([0 ≤ y], mkInt lit k (x.fdiv (2 ^ (min y.toNat k.bits))))
  | _ => none

def slt (x y : ByteArray) : Bool := Op.bytesLess x.data.toList y.data.toList

def strBin (op : BinOp) (x y : ByteArray) : Option (List Prop × AV) :=
  match op with
  | .add => some ([x.size + y.size ≤ 4611686018427387904], .s (.str (x ++ y)))
  | .eql => some ([], .s (.bool (decide (x = y))))
  | .neq => some ([], .s (.bool (!decide (x = y))))
  | .lss => some ([], .s (.bool (slt x y)))
  | .leq => some ([], .s (.bool (slt x y || decide (x = y))))
  | .gtr => some ([], .s (.bool !(slt x y || decide (x = y))))
  | .geq => some ([], .s (.bool !(slt x y)))
  | _ => none

/-- The number in a value, its kind, and whether it is a literal. -/
def AV.num? : AV → Option (IntKind × Bool × Int)
  | .s (.int k n) => some (k, false, n)
  | .s (.ilit k n) => some (k, true, n)
  | _ => none

def AV.truth? : AV → Option (Bool × Bool)
  | .s (.bool b) => some (false, b)
  | .s (.blit b) => some (true, b)
  | _ => none

def unR (op : UnOp) (x : AV) : Option (List Prop × AV) :=
  match op, x with
  | .not, .s (.bool b) => some ([], .s (.bool !b))
  | .not, .s (.blit b) => some ([], .s (.blit !b))
  | .neg, .s (.int k n) => some (arithR false k (0 - n))
  | .neg, .s (.ilit k n) => some (arithR true k (0 - n))
  | _, _ => none

def pickR (c a b : AV) : Option (List Prop × AV) :=
  match c with
  | .s (.blit true) => some ([], a)
  | .s (.blit false) => some ([], b)
  | .s (.bool c) =>
    match a.truth?, b.truth? with
    | some (_, x), some (_, y) => some ([], .s (.bool (bif c then x else y)))
    | _, _ =>
      match a.num?, b.num? with
      | some (k, _, x), some (k', _, y) => bif kindEq k k' then some ([], .s (.int k (bif c then x else y))) else none
      | _, _ => none
  | _ => none

/-! ### types -/
def szOf (P : Program) (t : TypeId) : Option Nat := (P.info? t).map (·.size)
def aggT (P : Program) (t : TypeId) : Option Bool :=
  match P.underlying t with
  | some (.struct _) | some (.array _ _) => some true
  | some _ => some false
  | none => none
def kindOf (P : Program) (t : TypeId) : Option IntKind :=
  match P.underlying t with
  | some (.int k) => some k
  | _ => none

/-! ### parts -/
def AV.wide : AV → Nat
  | .ints _ n _ => n
  | _ => 1

def dropSegs : List AV → Nat → Option (List AV)
  | segs, 0 => some segs
  | [], _ + 1 => none
  | a :: as, n + 1 => bif a.wide.ble (n + 1) then dropSegs as (n + 1 - a.wide) else none

def takeSegs : List AV → Nat → Option (List AV)
  | _, 0 => some []
  | [], _ + 1 => none
  | a :: as, n + 1 => bif a.wide.ble (n + 1) && (1 : Nat).ble a.wide then (takeSegs as (n + 1 - a.wide)).map (a :: ·) else none

/-- One cell at a place, also inside a row of numbers. -/
def cellAt : List AV → Nat → Option AV
  | [], _ => none
  | .ints k n ws :: as, off => bif off.blt n then some (.s (.int k (ws.getD off 0))) else cellAt as (off - n)
  | a :: _, 0 => some a
  | _ :: as, off + 1 => cellAt as off

def setCellAt : List AV → Nat → AV → Option (List AV)
  | [], _, _ => none
  | .ints k n ws :: as, off, v => bif off.blt n then
      (match v.num? with
       | some (k', _, x) => bif kindEq k k' then some (.ints k n (ws.set off x) :: as) else none
       | none => none)
      else (setCellAt as (off - n) v).map (.ints k n ws :: ·)
  | _ :: as, 0, v => some (v :: as)
  | a :: as, off + 1, v => (setCellAt as off v).map (a :: ·)

/-- A row of numbers that begins at a place. -/
def rowAt' : List AV → Nat → Option (IntKind × Nat × List Int)
  | .ints k n ws :: as, off => bif off.beq 0 then some (k, n, ws) else bif off.blt n then none else rowAt' as (off - n)
  | _ :: as, off + 1 => rowAt' as off
  | _, _ => none

def setRowAt : List AV → Nat → List Int → Option (List AV)
  | .ints k n ws :: as, off, ws' => bif off.beq 0 then some (.ints k n ws' :: as) else bif off.blt n then none else (setRowAt as (off - n) ws').map (.ints k n ws :: ·)
  | a :: as, off + 1, ws' => (setRowAt as off ws').map (a :: ·)
  | _, _, _ => none

def AV.single : AV → Bool
  | .s .junk | .agg _ | .ints _ _ _ | .tup _ => false
  | _ => true

/-- A value's parts, if it may be stored. -/
def AV.segs? : AV → Option (List AV)
  | .agg segs => some segs
  | .ints k n ws => some [.ints k n ws]
  | .tup _ | .s .junk => none
  | a => some [a]

def AV.ofSegs : List AV → AV
  | [.ints k n ws] => .ints k n ws
  | segs => .agg segs

def wides : List AV → Nat
  | [] => 0
  | a :: as => a.wide + wides as

/-- Parts with other ones in their place. -/
def putSegs (segs : List AV) (off : Nat) (by_ : List AV) : Option (List AV) :=
  match takeSegs segs off, dropSegs segs (off + wides by_) with
  | some pre, some post => some (pre ++ by_ ++ post)
  | _, _ => none

/-! ### equality of records -/
def eqFs (P : Program) (rec : TypeId → List AV → List AV → Option Bool) : List Field → List AV → List AV → Option Bool
  | [], _, _ => some true
  | f :: fs, xs, ys => bif f.name == "_" then eqFs P rec fs xs ys else
    match szOf P f.type, aggT P f.type with
    | some sz, some isA => bif isA || sz.beq 1 then (match (dropSegs xs f.offset).bind (takeSegs · sz), (dropSegs ys f.offset).bind (takeSegs · sz) with
      | some a, some b => (match rec f.type a b, eqFs P rec fs xs ys with
        | some p, some q => some (p && q)
        | _, _ => none)
      | _, _ => none) else none
    | _, _ => none

/-- Whether the parts of two values of a type are the same. -/
def eqC (P : Program) : Nat → TypeId → List AV → List AV → Option Bool
  | 0, _, _, _ => none
  | d + 1, t, xs, ys =>
    match P.underlying t with
    | some (.int _) => (match xs, ys with
      | [x], [y] => (match x.num?, y.num? with
        | some (k, _, a), some (k', _, b) => bif kindEq k k' then some (a == b) else none
        | _, _ => none)
      | _, _ => none)
    | some .bool => (match xs, ys with
      | [x], [y] => (match x.truth?, y.truth? with
        | some (_, a), some (_, b) => some (a == b)
        | _, _ => none)
      | _, _ => none)
    | some .string => (match xs, ys with
      | [.s (.str a)], [.s (.str b)] => some (decide (a = b))
      | _, _ => none)
    | some (.array n e) => (match xs, ys with
      | [.ints k m ws], [.ints k' m' ws'] =>
        (match P.underlying e with
         | some (.int k'') => bif (1 : Nat).ble d && kindEq k k' && kindEq k k'' && n == m && m == m' && (P.info? e).any (fun i => i.size == 1) then some (decide (ws = ws')) else none
         | _ => none)
      | _, _ => none)
    | some (.struct fs) => bif P.stoodInHeld t then none else eqFs P (eqC P d) fs.toList xs ys
    | _ => none

/-- '==' at a type that is no number and no string. -/
def eqR (P : Program) (t : TypeId) (x y : AV) : Option (Bool × Bool) :=
  match P.underlying t, x, y with
  | some .bool, x, y => match x.truth?, y.truth? with
    | some (lx, a), some (ly, b) => some (lx && ly, a == b)
    | _, _ => none
  | some (.array n e), .ints k m ws, .ints k' m' ws' =>
    match P.underlying e with
    | some (.int k'') => bif kindEq k k' && kindEq k k'' && n == m && m == m' && (P.info? e).any (fun i => i.size == 1) && !P.eqGuardType P.depth t then some (false, decide (ws = ws')) else none
    | _ => none
  | some (.pointer _), .s .nilp, .s .nilp => some (true, true)
  | some (.pointer _), .s .nilp, .ptr _ _ | some (.pointer _), .ptr _ _, .s .nilp => some (true, false)
  | some (.struct _), .agg xs, .agg ys => bif P.eqGuardType P.depth t then none else (eqC P 20 t xs ys).map fun b => (false, b)
  | _, _, _ => none

def binR (P : Program) (op : BinOp) (t : TypeId) (x y : AV) : Option (List Prop × AV) :=
  match x, y with
  | .s (.str a), .s (.str b) => strBin op a b
  | x, y =>
    match x.num?, y.num? with
    | some (k, lx, a), some (k', ly, b) =>
      match op with
      | .shl | .shr => shiftR op k (lx && ly) a b
      | _ => bif kindEq k k' then intBin op k lx ly a b else none
    | _, _ =>
      match op with
      | .eql => (eqR P t x y).map fun (l, b) => ([], mkBool l b)
      | .neq => (eqR P t x y).map fun (l, b) => ([], mkBool l (!b))
      | _ => none

/-! ### zero values and constants -/
def svOf : Value → Option SV
  | .bool b => some (.blit b)
  | .int k n => some (.ilit k n)
  | .string s => some (.str s)
  | .pointer none => some .nilp
  | .nilIface => some .nili
  | .nilFunc => some .nilf
  | .map none => some .nilm
  | _ => none

def av1Of : Value → Option AV
  | .slice none 0 0 => some .emp
  | v => (svOf v).map .s

def allOf : List Value → Option (List AV)
  | [] => some []
  | v :: vs => match av1Of v, allOf vs with
    | some a, some as => some (a :: as)
    | _, _ => none

def zeroNums (k : IntKind) : List Value → Bool
  | [] => true
  | .int k' 0 :: vs => kindEq k k' && zeroNums k vs
  | _ => false

/-- The parts of a zero value, by its type: rows of numbers are kept together. -/
def zeroSegs (P : Program) : Nat → TypeId → List Value → Option (List AV)
  | 0, _, _ => none
  | d + 1, t, cs =>
    match P.underlying t with
    | some (.struct fs) => fs.toList.foldl (fun acc f =>
        match acc, szOf P f.type with
        | some (segs, rest), some n => (zeroSegs P d f.type (rest.take n)).map fun s => (segs ++ s, rest.drop n)
        | _, _ => none) (some ([], cs)) |>.bind fun (segs, rest) => match rest with | [] => some segs | _ => none
    | some (.array n e) => match kindOf P e with
        | some k => bif zeroNums k cs && cs.length == n then some [.ints k n (List.replicate n 0)] else allOf cs
        | none => allOf cs
    | _ => allOf cs

def constOf : Value → AV
  | .agg cs => match allOf cs.toList with | some as => .agg as | none => .s .junk
  | v => (av1Of v).getD (.s .junk)

def zeroOf (P : Program) (t : TypeId) : Option AV :=
  match (P.info? t).bind (·.zero), aggT P t with
  | some (.agg cs), some true => (zeroSegs P 20 t cs.toList).map .ofSegs
  | some v, some false => av1Of v
  | _, _ => none

/-! ### records -/
def CL.segs : (cs : List CK) → CL cs → List AV
  | [], _ => []
  | .arr k n :: cs, x => .ints k n x.1 :: CL.segs cs x.2
  | .int k :: cs, x => .s (.int k x.1) :: CL.segs cs x.2
  | .bool :: cs, x => .s (.bool x.1) :: CL.segs cs x.2
  | .str :: cs, x => .s (.str x.1) :: CL.segs cs x.2
  | .ints k :: cs, x => .s (.ro (.ints k x.1)) :: CL.segs cs x.2
  | .strs :: cs, x => .s (.ro (.strs x.1)) :: CL.segs cs x.2
  | .bools :: cs, x => .s (.ro (.bools x.1)) :: CL.segs cs x.2
  | .rows ds :: cs, x => .s (.ro (.typ ds x.1)) :: CL.segs cs x.2

/-- A row in place has its length. -/
def segNeeds : List AV → List Prop
  | [] => []
  | .ints _ n ws :: as => (ws.length = n) :: segNeeds as
  | _ :: as => segNeeds as

def svInt (k : IntKind) : SV → Option Int
  | .int k' x | .ilit k' x => bif kindEq k k' then some x else none
  | _ => none
def svBool : SV → Option Bool
  | .bool x | .blit x => some x
  | _ => none
def svStr : SV → Option ByteArray
  | .str x => some x
  | _ => none
def svInts (k : IntKind) : SV → Option (List Int)
  | .ro (.ints k' zs) => bif kindEq k k' then some zs else none
  | .ro (.recs _ 0 _) => some []
  | _ => none
def svStrs : SV → Option (List ByteArray)
  | .ro (.strs zs) => some zs
  | .ro (.recs _ 0 _) => some []
  | _ => none
def svBools : SV → Option (List Bool)
  | .ro (.bools zs) => some zs
  | .ro (.recs _ 0 _) => some []
  | _ => none
def svRows (cs : List CK) : SV → Option (List (CL cs))
  | .ro (.typ cs' zs) => (CL.eq cs' cs).map fun h => castL h zs
  | .ro (.recs _ 0 _) => some []
  | _ => none

def CK.set : (c : CK) → c.V → Nat → SV → Option c.V
  | .int k, _, _, v => svInt k v
  | .bool, _, _, v => svBool v
  | .str, _, _, v => svStr v
  | .ints k, _, _, v => svInts k v
  | .strs, _, _, v => svStrs v
  | .bools, _, _, v => svBools v
  | .rows cs, _, _, v => svRows cs v
  | .arr _ _, _, _, _ => none

def CL.set : (cs : List CK) → CL cs → Nat → SV → Option (CL cs)
  | [], _, _, _ => none
  | c :: cs, x, j, v => bif j.blt c.wide then (c.set x.1 j v).map fun y => (y, x.2) else (CL.set cs x.2 (j - c.wide) v).map fun y => (x.1, y)

def CK.setRow : (c : CK) → IntKind → Nat → List Int → Option c.V
  | .arr k' n', k, n, ws => bif kindEq k k' && n.beq n' then some ws else none
  | _, _, _, _ => none

def CL.setRow : (cs : List CK) → CL cs → Nat → IntKind → Nat → List Int → Option (CL cs)
  | [], _, _, _, _, _ => none
  | c :: cs, x, j, k, n, ws => bif j.beq 0 then (c.setRow k n ws).map fun y => (y, x.2)
      else bif c.wide.ble j then (CL.setRow cs x.2 (j - c.wide) k n ws).map fun y => (x.1, y) else none

/-! ### memory -/
/-- What is read of an element. -/
def elemLoad (isA : Bool) (c : Con) (i j sz : Nat) : RM Res :=
  bif isA then
    (match c with
     | .typ cs xs => (match (dropSegs (CL.segs cs (xs.getD i (CL.d cs))) j).bind (takeSegs · sz) with
        | some ss => plain (segNeeds (CL.segs cs (xs.getD i (CL.d cs)))) (.ofSegs ss)
        | none => .fail "load: no such parts of the element")
     | c => bif (j + sz).ble c.size then plain [] (.agg ((List.range sz).map fun l => .s (c.cell i (j + l)))) else .fail "load: beyond the element")
  else (bif j.blt c.size then plain [] (.s (c.cell i j)) else .fail "load: beyond the element")

def loadR (P : Program) (t : TypeId) (a : AV) : RM Res :=
  match szOf P t, aggT P t with
  | some sz, some isA =>
    match a with
    | .ptr id off => .look id fun
      | some (.own segs _) => bif isA then
          (match (dropSegs segs off).bind (takeSegs · sz) with
           | some ss => plain [] (.ofSegs ss)
           | none => .fail "load: no such parts")
          else (match cellAt segs off with
           | some v => plain [] v
           | none => .fail "load: no such cell")
      | _ => .fail "load: no own object"
    | .ptrx id off n i => .look id fun
      | some (.own segs _) => match rowAt' segs off with
        | some (k, m, ws) => bif m.beq n && !isA then plain [] (.s (.int k (ws.getD i 0))) else .fail "load: a row of another length"
        | none => .fail "load: no row"
      | _ => .fail "load: no own object"
    | .eptr c i j => elemLoad isA c i j sz
    | .vptr id i j => .look id fun
      | some (.vec c _) => elemLoad isA c i j sz
      | _ => .fail "load: no vec"
    | _ => .fail "load: no address"
  | _, _ => .fail "load: no type"

def conSet : Con → Nat → Nat → SV → Option Con
  | .ints k zs, i, _, v => match v with
    | .int k' x | .ilit k' x => bif kindEq k k' then some (.ints k (zs.set i x)) else none
    | _ => none
  | .strs ss, i, _, v => match v with
    | .str x => some (.strs (ss.set i x))
    | _ => none
  | .bools bs, i, _, v => match v with
    | .bool x | .blit x => some (.bools (bs.set i x))
    | _ => none
  | .typ cs xs, i, j, v => (CL.set cs (xs.getD i (CL.d cs)) j v).map fun y => .typ cs (xs.set i y)
  | .recs s n get, i, j, v => some (.recs s n fun i' j' => bif i' == i && j' == j then v else get i' j')

def conSetRow : Con → Nat → Nat → IntKind → Nat → List Int → Option Con
  | .typ cs xs, i, j, k, n, ws => (CL.setRow cs (xs.getD i (CL.d cs)) j k n ws).map fun y => .typ cs (xs.set i y)
  | _, _, _, _, _, _ => none

def conSets (c : Con) (i j : Nat) : List AV → Option Con
  | [] => some c
  | .s v :: as => (conSet c i j v).bind fun c' => conSets c' i (j + 1) as
  | .ints k n ws :: as => (conSetRow c i j k n ws).bind fun c' => conSets c' i (j + n) as
  | _ => none

def storeR (P : Program) (t : TypeId) (a x : AV) : RM Res :=
  match szOf P t, aggT P t with
  | some sz, some isA =>
    match a with
    | .ptr id off => .look id fun
      | some (.own segs e) =>
        bif isA then
          (match x.segs? with
           | some by_ => bif (wides by_).beq sz && (1 : Nat).ble sz then
               (match putSegs segs off by_ with
                | some segs' => .ret ⟨[], [(id, .own segs' e)], [], fun _ => .tup []⟩
                | none => .fail "store: no such parts") else .fail "store: another size"
           | none => .fail "store: no parts")
        else (bif x.single && sz.beq 1 then
          (match setCellAt segs off x with
           | some segs' => .ret ⟨[], [(id, .own segs' e)], [], fun _ => .tup []⟩
           | none => .fail "store: no such cell") else .fail "store: no one cell")
      | _ => .fail "store: no own object"
    | .ptrx id off n i => .look id fun
      | some (.own segs e) => match rowAt' segs off, x.num? with
        | some (k, m, ws), some (k', _, y) => bif m.beq n && kindEq k k' && !isA && sz.beq 1 then
            (match setRowAt segs off (ws.set i y) with
             | some segs' => .ret ⟨[], [(id, .own segs' e)], [], fun _ => .tup []⟩
             | none => .fail "store: no row") else .fail "store: a row of another length"
        | _, _ => .fail "store: no row"
      | _ => .fail "store: no own object"
    | .vptr id i j => .look id fun
      | some (.vec c e) => match x.segs? with
        | some by_ => bif (wides by_).beq sz && (j + sz).ble c.size then
            (match conSets c i j by_ with
             | some c' => .ret ⟨[], [(id, .vec c' e)], [], fun _ => .tup []⟩
             | none => .fail "store: another kind of element") else .fail "store: another size"
        | none => .fail "store: no parts"
      | _ => .fail "store: no vec"
    | _ => .fail "store: no own address"
  | _, _ => .fail "store: no type"

def fieldAddrR (P : Program) (t : TypeId) (x : AV) (f : Nat) : RM Res :=
  match P.underlying t with
  | some (.struct fs) => match fs[f]? with
    | some fd => bif (szOf P fd.type).any (fun n => (1 : Nat).ble n) then
        (match x with
         | .ptr id off => plain [] (.ptr id (off + fd.offset))
         | .eptr c i j => plain [] (.eptr c i (j + fd.offset))
         | .vptr id i j => .look id fun
           | some (.vec c _) => bif (j + fd.offset).blt c.size then plain [] (.vptr id i (j + fd.offset)) else .fail "fieldAddr: beyond"
           | _ => .fail "fieldAddr: no vec"
         | _ => .fail "fieldAddr: no address") else .fail "fieldAddr: an empty field"
    | none => .fail "fieldAddr: no field"
  | _ => .fail "fieldAddr: no struct"

def indexAddrR (P : Program) (t : TypeId) (x i : AV) : RM Res :=
  match i.num?, P.underlying t with
  | some (_, _, n), some (.slice e) =>
    (match szOf P e, x with
     | some sz, .s (.ro c) => bif sz.beq c.size then plain [0 ≤ n, n < c.n] (.eptr c n.toNat 0) else .fail "indexAddr: size"
     | some sz, .vec id => .look id fun
        | some (.vec c _) => bif sz.beq c.size && (1 : Nat).ble sz then plain [0 ≤ n, n < c.n] (.vptr id n.toNat 0) else .fail "indexAddr: size"
        | _ => .fail "indexAddr: no vec"
     | some sz, .part id lo m => .look id fun
        | some (.vec c _) => bif sz.beq c.size && (1 : Nat).ble sz then plain [0 ≤ n, n < m] (.vptr id (lo + n.toNat) 0) else .fail "indexAddr: size"
        | _ => .fail "indexAddr: no vec"
     | _, _ => .fail "indexAddr: no slice")
  | some (_, lit, n), some (.array len e) =>
    (match szOf P e, x with
     | some sz, .ptr id off => bif lit then
          (bif decide (0 ≤ n) && decide (n < len) then plain [] (.ptr id (off + n.toNat * sz)) else .fail "indexAddr: out of range")
          else (bif sz.beq 1 then plain [0 ≤ n, n < len] (.ptrx id off len n.toNat) else .fail "indexAddr: wide elements")
     | _, _ => .fail "indexAddr: no array")
  | _, _ => .fail "indexAddr: no number or type"

def byteAt (s : ByteArray) (i : Nat) : Int := ((s.data.toList.getD i 0).toNat : Int)

def indexR (P : Program) (t : TypeId) (x i : AV) : RM Res :=
  match i.num?, P.underlying t, x with
  | some (_, _, n), some (.array len e), .ints k m ws => bif len.beq m && (aggT P e).any (!·) && (szOf P e).any (·.beq 1) then plain [0 ≤ n, n < len] (.s (.int k (ws.getD n.toNat 0))) else .fail "index: array"
  | some (_, _, n), some .string, .s (.str s) => plain [0 ≤ n, n < s.size] (.s (.int .u8 (byteAt s n.toNat)))
  | _, _, _ => .fail "index"

def fieldR (P : Program) (t : TypeId) (x : AV) (f : Nat) : RM Res :=
  match P.underlying t, x with
  | some (.struct fs), .agg segs => match fs[f]? with
    | some fd => match szOf P fd.type, aggT P fd.type with
      | some sz, some true => match (dropSegs segs fd.offset).bind (takeSegs · sz) with
        | some ss => plain [] (.ofSegs ss)
        | none => .fail "field: parts"
      | some _, some false => match cellAt segs fd.offset with
        | some v => plain [] v
        | none => .fail "field: cell"
      | _, _ => .fail "field: type"
    | none => .fail "field: none"
  | _, _ => .fail "field"

def extractR (x : AV) (i : Nat) : RM Res :=
  match x with
  | .tup vs => match vs[i]? with
    | some v => plain [] v
    | none => .fail "extract"
  | _ => .fail "extract: no tuple"

def allocR (P : Program) (t : TypeId) : RM Res :=
  match (zeroOf P t).bind AV.segs? with
  | some segs => .ret ⟨[], [], [.own segs t], fun id => .ptr id 0⟩
  | none => .fail "alloc: zero"

def boxR (t : TypeId) (v : AV) : RM Res :=
  match v.segs? with
  | some segs => .ret ⟨[], [], [.own segs t], fun id => .ptr id 0⟩
  | none => .fail "box"

def putAll (place : Nat → Option (Nat × Nat)) (segs : List AV) : List (Nat × AV) → Option (List AV)
  | [] => some segs
  | (i, v) :: rest =>
    match place i, v.segs? with
    | some (off, size), some by_ => bif (wides by_).beq size && (1 : Nat).ble size then (putSegs segs off by_).bind fun s => putAll place s rest else none
    | _, _ => none

def buildR (P : Program) (t : TypeId) (parts : List (Nat × AV)) : RM Res :=
  match (zeroOf P t).bind AV.segs?, P.underlying t with
  | some segs, some (.struct fs) => bif fs.toList.all (fun f => (szOf P f.type).isSome) then
    match putAll (fun i => (fs[i]?).bind fun f => (szOf P f.type).map fun n => (f.offset, n)) segs parts with
    | some ss => plain [] (.ofSegs ss)
    | none => .fail "build: parts"
    else .fail "build: a field's size"
  | some segs, some (.array _ e) =>
    match szOf P e with
    | some sz => match putAll (fun i => some (i * sz, sz)) segs parts with
      | some ss => plain [] (.ofSegs ss)
      | none => .fail "build: array"
    | none => .fail "build: element"
  | _, _ => .fail "build: zero"

/-! ### rows of elements -/
def AV.sv? : AV → Option SV
  | .s .junk => none
  | .s v => some v
  | .emp => some (.ro (.recs 1 0 fun _ _ => .junk))
  | _ => none

def svs : List AV → Option (List SV)
  | [] => some []
  | .ints _ _ _ :: _ => none
  | a :: as => match a.sv?, svs as with
    | some v, some vs => some (v :: vs)
    | _, _ => none

def numsOf (k : IntKind) : List SV → Option (List Int)
  | [] => some []
  | .int k' n :: vs | .ilit k' n :: vs => bif kindEq k k' then (numsOf k vs).map (n :: ·) else none
  | _ => none
def strsOf : List SV → Option (List ByteArray)
  | [] => some []
  | .str s :: vs => (strsOf vs).map (s :: ·)
  | _ => none
def boolsOf : List SV → Option (List Bool)
  | [] => some []
  | .bool b :: vs | .blit b :: vs => (boolsOf vs).map (b :: ·)
  | _ => none
inductive Shape where
  | ints (k : IntKind) | strs | bools | typ (cs : List CK) | other

/-- A type's parts, if each is a plain one. -/
def cksOf (P : Program) : Nat → TypeId → Option (List CK)
  | 0, _ => none
  | d + 1, t =>
    match P.underlying t with
    | some (.int k) => some [.int k]
    | some .bool => some [.bool]
    | some .string => some [.str]
    | some (.slice e) => match P.underlying e with
      | some (.int k) => some [.ints k]
      | some .string => some [.strs]
      | some .bool => some [.bools]
      | _ => (cksOf P d e).map fun cs => [.rows cs]
    | some (.struct fs) => fs.toList.foldr (fun f acc => match cksOf P d f.type, acc with
        | some a, some b => some (a ++ b)
        | _, _ => none) (some [])
    | some (.array n e) => match P.underlying e with
      | some (.int k) => some [.arr k n]
      | _ => none
    | _ => none

def shapeOf (P : Program) (e : TypeId) : Shape :=
  match P.underlying e with
  | some (.int k) => .ints k
  | some .string => .strs
  | some .bool => .bools
  | _ => match cksOf P 8 e with
    | some cs => .typ cs
    | none => .other

def CL.ofs (cs : List CK) (f : Nat → SV) : Option (CL cs) := (List.range (CL.wide cs)).foldl (fun acc j => acc.bind fun x => CL.set cs x j (f j)) (some (CL.d cs))

def typOf (cs : List CK) (size : Nat) (cells : List SV) : Nat → Nat → Option (List (CL cs))
  | _, 0 => some []
  | i, n + 1 => match CL.ofs cs (fun j => cells.getD (i * size + j) .junk), typOf cs size cells (i + 1) n with
    | some x, some xs => some (x :: xs)
    | _, _ => none

def conOf (sh : Shape) (size n : Nat) (cells : List SV) : Con :=
  let d : Con := .recs size n fun i j => cells.getD (i * size + j) .junk
  match sh with
  | .ints k => (numsOf k cells).elim d (.ints k)
  | .strs => (strsOf cells).elim d .strs
  | .bools => (boolsOf cells).elim d .bools
  | .typ cs => bif (CL.wide cs).beq size then (typOf cs size cells 0 n).elim d (.typ cs) else d
  | .other => d

def nilCon (sh : Shape) (size : Nat) : Con :=
  match sh with
  | .ints k => .ints k []
  | .strs => .strs []
  | .bools => .bools []
  | .typ cs => .typ cs []
  | .other => .recs size 0 fun _ _ => .junk

def rep {α : Type} (n : Nat) (x : List α) : List α :=
  match n with
  | 0 => []
  | n + 1 => x ++ rep n x

def buildSliceR (P : Program) (t : TypeId) (n : Nat) (parts : List (Nat × AV)) : RM Res :=
  match P.underlying t with
  | some (.slice e) =>
    match szOf P e, (zeroOf P e).bind AV.segs? with
    | some sz, some z => bif (1 : Nat).ble sz && (n * sz).ble 4096 && (wides z).beq sz then
        (match (putAll (fun i => some (i * sz, sz)) (rep n z) parts).bind svs with
         | some cells => bif cells.length.beq (n * sz) && (conOf (shapeOf P e) sz n cells).n.beq n && (conOf (shapeOf P e) sz n cells).size.beq sz then .ret ⟨[], [], [.vec (conOf (shapeOf P e) sz n cells) e], fun id => .vec id⟩ else .fail "buildSlice: length"
         | none => .fail "buildSlice: parts") else .fail "buildSlice: size"
    | _, _ => .fail "buildSlice: zero"
  | _ => .fail "buildSlice: type"

def conApp : Con → Con → Con
  | .ints k xs, .ints k' ys => bif kindEq k k' then .ints k (xs ++ ys) else .recs 1 (xs.length + ys.length) fun i j => bif i.blt xs.length then (Con.ints k xs).cell i j else (Con.ints k' ys).cell (i - xs.length) j
  | .strs xs, .strs ys => .strs (xs ++ ys)
  | .bools xs, .bools ys => .bools (xs ++ ys)
  | .typ cs xs, .typ cs' ys => match CL.eq cs' cs with
    | some h => .typ cs (xs ++ castL h ys)
    | none => .recs (CL.wide cs) (xs.length + ys.length) fun i j => bif i.blt xs.length then (Con.typ cs xs).cell i j else (Con.typ cs' ys).cell (i - xs.length) j
  | c, d => .recs c.size (c.n + d.n) fun i j => bif i.blt c.n then c.cell i j else d.cell (i - c.n) j

def conSub : Con → Nat → Nat → Con
  | .ints k zs, l, h => .ints k ((zs.take h).drop l)
  | .strs zs, l, h => .strs ((zs.take h).drop l)
  | .bools zs, l, h => .bools ((zs.take h).drop l)
  | .typ cs zs, l, h => .typ cs ((zs.take h).drop l)
  | .recs s _ get, l, h => .recs s (h - l) fun i j => get (l + i) j

def over {α : Type} (xs : List α) (lo k : Nat) (ys : List α) : List α := xs.take lo ++ ys.take k ++ xs.drop (lo + k)

/-- A row's elements over another one's, from a place on. -/
def conCopy : Con → Nat → Nat → Con → Con
  | .ints k1 xs, lo, k, .ints k2 ys => bif kindEq k1 k2 then .ints k1 (over xs lo k ys) else .recs 1 xs.length fun i j => bif lo.ble i && i.blt (lo + k) then (Con.ints k2 ys).cell (i - lo) j else (Con.ints k1 xs).cell i j
  | .strs xs, lo, k, .strs ys => .strs (over xs lo k ys)
  | .bools xs, lo, k, .bools ys => .bools (over xs lo k ys)
  | .typ cs xs, lo, k, .typ cs' ys => match CL.eq cs' cs with
    | some h => .typ cs (over xs lo k (castL h ys))
    | none => .recs (CL.wide cs) xs.length fun i j => bif lo.ble i && i.blt (lo + k) then (Con.typ cs' ys).cell (i - lo) j else (Con.typ cs xs).cell i j
  | c, lo, k, d => .recs c.size c.n fun i j => bif lo.ble i && i.blt (lo + k) then d.cell (i - lo) j else c.cell i j

/-- A zero value's cell. -/
def svIs : SV → Value → Bool
  | .int k n, .int k' n' => kindEq k k' && n == n'
  | .bool b, .bool b' => b == b'
  | .str s, .string s' => s.size.beq 0 && s'.size.beq 0
  | .ro c, .slice none 0 0 => c.n.beq 0
  | _, _ => false

def zeroCon (sh : Shape) (n : Nat) : Con :=
  match sh with
  | .ints k => .ints k (List.replicate n 0)
  | .strs => .strs (List.replicate n ByteArray.empty)
  | .bools => .bools (List.replicate n false)
  | .typ cs => .typ cs (List.replicate n (CL.d cs))
  | .other => .recs 1 n fun _ _ => .junk

def zeroFits (sh : Shape) (z : List Value) : Bool := (zeroCon sh 1).size.beq z.length && (List.range z.length).all fun j => svIs ((zeroCon sh 1).cell 0 j) (z.getD j undef)

/-- The row that a slice shows, whoever owns it: from it, and which object it is. -/
def rowOf (sh : Shape) (size : Nat) (x : AV) (k : Con → Option Nat → RM Res) : RM Res :=
  match x with
  | .s v => (match v with
    | .ro c => k c none
    | _ => .fail "row")
  | .emp => k (nilCon sh size) none
  | .vec id => .look id fun
    | some (.vec c _) => k c (some id)
    | _ => .fail "row: no vec"
  | .part id lo n => .look id fun
    | some (.vec c _) => k (conSub c lo (lo + n)) (some id)
    | _ => .fail "row: no vec"
  | _ => .fail "row"

/-- What is appended: a row, or a text's bytes. -/
def srcOf (sh : Shape) (size : Nat) (x : AV) (k : Con → Option Nat → RM Res) : RM Res :=
  match x with
  | .s (.str s) => k (.ints .u8 (s.data.toList.map fun b => (b.toNat : Int))) none
  | x => rowOf sh size x k

def appendR (P : Program) (t : TypeId) (x y : AV) : RM Res :=
  match P.underlying t with
  | some (.slice e) =>
    match P.info? e with
    | some i =>
      let sh := shapeOf P e
      bif (1 : Nat).ble i.size && i.bytes.ble 256 && i.zero.any (fun z => z.cells.size == i.size) then
        srcOf sh i.size y fun d idy =>
          bif d.size.beq i.size then
            (match x with
             | .emp => .ret ⟨[d.n ≤ 4294967296], [], [.vec d e], fun id => .vec id⟩
             | .vec idx => .look idx fun
               | some (.vec c e') => bif c.size.beq i.size && e'.beq e && !(idy == some idx) then
                   .ret ⟨[c.n + d.n ≤ 4294967296], [(idx, .dead)], [.vec (conApp c d) e], fun id => .vec id⟩ else .fail "append: size"
               | _ => .fail "append: no vec"
             | .part idx lo n => .look idx fun
               | some (.vec c e') => bif c.size.beq i.size then
                   .ret ⟨[lo + n + d.n ≤ c.n], [(idx, .vec (conCopy c (lo + n) d.n d) e')], [], fun _ => .part idx lo (n + d.n)⟩ else .fail "append: size"
               | _ => .fail "append: no vec"
             | _ => .fail "append: what is appended to is not own")
          else .fail "append: another size"
      else .fail "append: element"
    | none => .fail "append: no element"
  | _ => .fail "append: type"

def lenR (P : Program) (t : TypeId) (x : AV) : RM Res :=
  match P.underlying t, x with
  | some .string, .s (.str s) => plain [] (.s (.int .i64 s.size))
  | some (.array n _), _ => plain [] (.s (.ilit .i64 n))
  | some (.slice _), .s (.ro c) => plain [] (.s (.int .i64 c.n))
  | some (.slice _), .emp => plain [] (.s (.ilit .i64 0))
  | some (.slice _), .vec id => .look id fun
    | some (.vec c _) => plain [] (.s (.int .i64 c.n))
    | _ => .fail "len: no vec"
  | some (.slice _), .part id _ n => .look id fun
    | some (.vec _ _) => plain [] (.s (.int .i64 n))
    | _ => .fail "len: no vec"
  | _, _ => .fail "len"

def imax (a b : Int) : Int := if b > a then b else a
def imin (a b : Int) : Int := if b < a then b else a

def minR (mx : Bool) (x y : AV) : RM Res :=
  match x.num?, y.num? with
  | some (k, lx, a), some (k', ly, b) => bif kindEq k k' then
      (bif mx then plain [] (mkInt (lx && ly) k (imax a b)) else plain [] (mkInt (lx && ly) k (imin a b))) else .fail "min: kinds"
  | _, _ => .fail "min"

def numOr (d : Int) : Option AV → Option Int
  | none => some d
  | some a => (a.num?).map fun (_, _, n) => n

/-- A part of an own row. -/
def partR (P : Program) (e : TypeId) (c : Con) (id lo0 n : Nat) (lo hi mx : Option AV) : RM Res :=
  match szOf P e with
  | some sz => bif sz.beq c.size then
     (match mx with
      | none => (match numOr 0 lo, numOr n hi with
         | some l, some h => plain [0 ≤ l, l ≤ h, (lo0 : Int) + h ≤ c.n] (.part id (lo0 + l.toNat) (h.toNat - l.toNat))
         | _, _ => .fail "slice: bounds")
      | some m => (match numOr 0 lo, hi.bind AV.num?, m.num? with
         | some l, some (_, _, h), some (_, _, m) => plain [0 ≤ l, l ≤ h, h ≤ m, (lo0 : Int) + m ≤ c.n] (.s .junk)
         | _, _, _ => .fail "slice: three")) else .fail "slice: size"
  | none => .fail "slice: element"

/-- Elements of a row over own ones. -/
def copyR (P : Program) (t : TypeId) (x y : AV) : RM Res :=
  match P.underlying t with
  | some (.slice e) =>
    match szOf P e with
    | some sz => bif (1 : Nat).ble sz then
        srcOf (shapeOf P e) sz y fun d _ => bif d.size.beq sz then
          (match x with
           | .vec id => .look id fun
             | some (.vec c e') => bif c.size.beq sz then
                 .ret ⟨[], [(id, .vec (conCopy c 0 (min d.n c.n) d) e')], [], fun _ => .s (.int .i64 ((min d.n c.n : Nat) : Int))⟩ else .fail "copy: size"
             | _ => .fail "copy: no vec"
           | .part id lo n => .look id fun
             | some (.vec c e') => bif c.size.beq sz then
                 .ret ⟨[], [(id, .vec (conCopy c lo (min d.n n) d) e')], [], fun _ => .s (.int .i64 ((min d.n n : Nat) : Int))⟩ else .fail "copy: size"
             | _ => .fail "copy: no vec"
           | _ => .fail "copy: not own") else .fail "copy: another size"
        else .fail "copy: size"
    | none => .fail "copy: element"
  | _ => .fail "copy: type"

def clearR (P : Program) (t : TypeId) (x : AV) : RM Res :=
  match P.underlying t, x with
  | some (.slice e), .part id lo n =>
    (match P.info? e with
     | some i => bif (1 : Nat).ble i.size && i.zero.any (fun z => zeroFits (shapeOf P e) z.cells.toList && z.cells.size == i.size) then
        .look id fun
        | some (.vec c e') => bif c.size.beq i.size then
            .ret ⟨[], [(id, .vec (conCopy c lo n (zeroCon (shapeOf P e) n)) e')], [], fun _ => .tup []⟩ else .fail "clear: size"
        | _ => .fail "clear: no vec"
        else .fail "clear: zero"
     | none => .fail "clear: element")
  | some (.map _ _), .mapv id => .look id fun
    | some (.map ck _) => .ret ⟨[], [(id, .map ck [])], [], fun _ => .tup []⟩
    | _ => .fail "clear: no map"
  | _, _ => .fail "clear"

def makeSliceR (P : Program) (t : TypeId) (l c : AV) : RM Res :=
  match P.underlying t, l.num?, c.num? with
  | some (.slice e), some (_, _, l), some (_, _, c) =>
    (match P.info? e with
     | some i => bif (1 : Nat).ble i.size && i.bytes.ble 256 && i.zero.any (fun z => zeroFits (shapeOf P e) z.cells.toList && z.cells.size == i.size) then
        .ret ⟨[0 ≤ l, l ≤ c, c ≤ 1073741824], [], [.vec (zeroCon (shapeOf P e) l.toNat) e], fun id => .vec id⟩ else .fail "makeSlice: zero"
     | none => .fail "makeSlice: element")
  | _, _, _ => .fail "makeSlice"

def sliceR (P : Program) (t : TypeId) (x : AV) (lo hi mx : Option AV) : RM Res :=
  match P.underlying t, x with
  | some .string, .s (.str s) =>
    (match numOr 0 lo, numOr s.size hi, mx with
     | some l, some h, none => plain [0 ≤ l, l ≤ h, h ≤ s.size] (.s (.str (s.extract l.toNat h.toNat)))
     | _, _, _ => .fail "slice: string")
  | some (.slice e), .emp => (match szOf P e, numOr 0 lo, numOr 0 hi, mx with
     | some _, some l, some h, none => plain [l = 0, h = 0] .emp
     | _, _, _, _ => .fail "slice: emp")
  | some (.slice e), .s (.ro c) =>
    (match szOf P e with
     | some sz => bif sz.beq c.size then
        (match mx with
         | none => (match numOr 0 lo, numOr c.n hi with
            | some l, some h => plain [0 ≤ l, l ≤ h, h ≤ c.n] (.s (.ro (conSub c l.toNat h.toNat)))
            | _, _ => .fail "slice: bounds")
         | some m => (match numOr 0 lo, hi.bind AV.num?, m.num? with
            | some l, some (_, _, h), some (_, _, m) => plain [l = 0, h = 0, m = 0] .emp
            | _, _, _ => .fail "slice: three")) else .fail "slice: size"
     | none => .fail "slice: element")
  | some (.slice e), .vec id => .look id fun
    | some (.vec c _) => partR P e c id 0 c.n lo hi mx
    | _ => .fail "slice: no vec"
  | some (.slice e), .part id lo0 n => .look id fun
    | some (.vec c _) => partR P e c id lo0 n lo hi mx
    | _ => .fail "slice: no vec"
  | _, _ => .fail "slice"

def bytesStr (zs : List Int) : ByteArray := ⟨(zs.map fun n => UInt8.ofNat n.toNat).toArray⟩

def convertR (P : Program) (src dst : TypeId) (x : AV) : RM Res :=
  match P.underlying src, P.underlying dst with
  | some _, some (.int k) => (match x.num? with
     | some (_, lit, n) => bif lit then plain [] (.s (.ilit k (k.wrap n))) else bif isI64 k then plain [inI64 n] (.s (.int k n)) else plain [] (.s (.int k (k.wrap n)))
     | none => .fail "convert: no number")
  | some .string, some .string => (match x with
     | .s (.str s) => plain [] (.s (.str s))
     | _ => .fail "convert: no string")
  | some (.slice e), some .string => (match kindOf P e with
     | some .u8 => rowOf (.ints .u8) 1 x fun c _ => match c with
        | .ints .u8 zs => plain [] (.s (.str (bytesStr zs)))
        | _ => .fail "convert: no bytes"
     | _ => .fail "convert: no bytes")
  | _, _ => .fail "convert"

def nilCheckR (x : AV) : RM Res :=
  match x with
  | .ptr _ _ | .ptrx _ _ _ _ | .eptr _ _ _ | .fn _ _ | .s (.fn0 _) => plain [] x
  | _ => .fail "nilCheck"

def makeFuncR (fn : Fn) (first caps : List AV) : RM Res :=
  match fn, first, caps with
  | .func f, [], [] => plain [] (.s (.fn0 f))
  | .func f, [], c :: cs => plain [] (.fn f (c :: cs))
  | _, _, _ => .fail "makeFunc"

/-! ### maps -/
def ckOf (P : Program) (t : TypeId) : Option CK :=
  match P.underlying t with
  | some (.int k) => some (.int k)
  | some .bool => some .bool
  | some .string => some .str
  | some (.array n e) => match P.underlying e with
    | some (.int k) => some (.arr k n)
    | _ => none
  | _ => none

def CK.plain : CK → Bool
  | .int _ | .bool | .str | .arr _ _ => true
  | _ => false

def zeroIs (P : Program) (t : TypeId) (ck : CK) : Bool := ck.plain &&
  match (P.info? t).bind (·.zero), ck with
  | some (.int k' 0), .int k => kindEq k' k
  | some (.bool false), .bool => true
  | some (.string s), .str => s.size.beq 0
  | some (.agg cs), .arr k n => zeroNums k cs.toList && cs.toList.length.beq n
  | _, _ => false

/-- An entry's value, as a slot has it. -/
def CK.av : (c : CK) → c.V → AV
  | .int k, v => .s (.int k v)
  | .bool, v => .s (.bool v)
  | .str, v => .s (.str v)
  | .arr k n, v => .ints k n v
  | _, _ => .s .junk

def CK.rdv : (c : CK) → AV → Option c.V
  | .int k, a => match a with
    | .s (.int k' x) | .s (.ilit k' x) => bif kindEq k k' then some x else none
    | _ => none
  | .bool, a => match a with
    | .s (.bool x) | .s (.blit x) => some x
    | _ => none
  | .str, a => match a with
    | .s (.str x) => some x
    | _ => none
  | .arr k n, a => match a with
    | .ints k' n' ws => bif kindEq k k' && n.beq n' then some ws else none
    | _ => none
  | _, _ => none

def isK64 (P : Program) (t : TypeId) : Bool :=
  match P.underlying t with
  | some (.int .i64) => true
  | _ => false

def lookupR (P : Program) (t : TypeId) (x i : AV) (ok : Bool) : RM Res :=
  match P.underlying t, x, i.num? with
  | some (.map kt et), .mapv id, some (k, _, n) => bif isK64 P kt && isI64 k then
      .look id fun
      | some (.map ck m) => bif zeroIs P et ck then
          plain [] (bif ok then .tup [ck.av ((mget m n).getD ck.d), .s (.bool (mhas m n))] else ck.av ((mget m n).getD ck.d)) else .fail "lookup: elements"
      | _ => .fail "lookup: no map"
      else .fail "lookup: keys"
  | _, _, _ => .fail "lookup"

def mapUpdateR (P : Program) (t : TypeId) (x i v : AV) : RM Res :=
  match P.underlying t, x, i.num? with
  | some (.map kt _), .mapv id, some (k, _, n) => bif isK64 P kt && isI64 k then
      .look id fun
      | some (.map ck m) => (match ck.rdv v with
        | some y => .ret ⟨[], [(id, .map ck (mput m n y))], [], fun _ => .tup []⟩
        | none => .fail "mapUpdate: elements")
      | _ => .fail "mapUpdate: no map"
      else .fail "mapUpdate: keys"
  | _, _, _ => .fail "mapUpdate"

def makeMapR (P : Program) (t : TypeId) (r : Option AV) : RM Res :=
  match P.underlying t, r with
  | some (.map _ et), none => (match ckOf P et with
    | some ck => .ret ⟨[], [], [.map ck []], fun id => .mapv id⟩
    | none => .fail "makeMap: elements")
  | _, _ => .fail "makeMap"

/-! ### calls -/
abbrev Summ := FuncId → List AV → RM Res
/-- Summaries that may know where new objects begin. -/
abbrev SummB := Nat → Summ

def callable (P : Program) (f : FuncId) : Bool :=
  match P.funcs[f]? with
  | some fn => fn.body.isSome && !(fn.name == "runtime.NumGoroutine")
  | none => false

def callR (P : Program) (S : Summ) (f : FuncId) (args : List AV) : RM Res :=
  bif callable P f then S f args else .fail "call: no Go body"

def srcType (P : Program) (t : TypeId) : Bool :=
  match P.underlying t with
  | some (.slice _) | some .string => true
  | _ => false

def builtinR (P : Program) (b : Builtin) (ts : List TypeId) (args : List AV) : RM Res :=
  match b, ts, args with
  | .len, t :: _, [x] => lenR P t x
  | .append, [t, t'], [x, y] => bif srcType P t' then appendR P t x y else .fail "append: make"
  | .min, _, [x, y] => minR false x y
  | .max, _, [x, y] => minR true x y
  | .copy, [t, t'], [x, y] => bif srcType P t' then copyR P t x y else .fail "copy: what?"
  | .clear, t :: _, [x] => clearR P t x
  | _, _, _ => .fail "builtin"

def isEql : BinOp → Bool
  | .eql => true
  | _ => false

/-- A row against nil: unknown, but where it has something. -/
def nilR (P : Program) (op : BinOp) (t : TypeId) (x : AV) : RM Res :=
  match op with
  | .eql | .neq =>
    match P.underlying t with
    | some (.slice _) =>
      match x with
      | .s (.ro c) => plain [] (.s (.anyb c.n (isEql op)))
      | .emp => plain [] (.s (.anyb 0 (isEql op)))
      | .vec id => .look id fun o => match o with
        | some (.vec c _) => plain [] (.s (.anyb c.n (isEql op)))
        | _ => .fail "== nil: no row"
      | _ => .fail "== nil"
    | _ => .fail "== nil: the type"
  | _ => .fail "nil: what?"

/-- The nil slice as an empty row. -/
def relax : AV → AV
  | .s .nils => .emp
  | x => x

def isNils : AV → Bool
  | .s .nils => true
  | _ => false

def opR0 (P : Program) (S : Summ) (ev : Operand → AV) (o : Oper) : RM Res :=
  match o.op with
  | .move x | .assign x => plain [] (ev x)
  | .pick c a b => orFail "pick" (pickR (ev c) (ev a) (ev b))
  | .alloc t => allocR P t
  | .box t x => boxR t (ev x)
  | .build t ps => buildR P t (ps.toList.map fun p => (p.1, ev p.2))
  | .buildSlice t n ps => buildSliceR P t n (ps.toList.map fun p => (p.1, ev p.2))
  | .load t a => loadR P t (ev a)
  | .store t a x => storeR P t (ev a) (ev x)
  | .nilCheck x => nilCheckR (ev x)
  | .binOp op t x y _ => orFail "binOp" (binR P op t (ev x) (ev y))
  | .unOp op _ x => orFail "unOp" (unR op (ev x))
  | .convert a b x => convertR P a b (ev x)
  | .makeFunc fn a b => makeFuncR fn (a.toList.map ev) (b.toList.map ev)
  | .slice t x l h m => sliceR P t (ev x) (l.map ev) (h.map ev) (m.map ev)
  | .fieldAddr t x f => fieldAddrR P t (ev x) f
  | .field t x f => fieldR P t (ev x) f
  | .indexAddr t x i => indexAddrR P t (ev x) (ev i)
  | .index t x i => indexR P t (ev x) (ev i)
  | .extract x i => extractR (ev x) i
  | .lookup t x i ok => lookupR P t (ev x) (ev i) ok
  | .mapUpdate t x i v => mapUpdateR P t (ev x) (ev i) (ev v)
  | .makeMap t r => makeMapR P t (r.map ev)
  | .makeSlice t l c => makeSliceR P t (ev l) (ev c)
  | .call c => match c.callee with
    | .value f => match ev f with
      | .s (.fn0 f) => callR P S f (c.args.toList.map ev)
      | .fn f caps => callR P S f (c.args.toList.map ev ++ caps)
      | _ => .fail "call: what?"
    | .builtin b => builtinR P b c.argTypes.toList (c.args.toList.map ev)
    | _ => .fail "call: invoke"
  | _ => .fail "op"

def opR (P : Program) (S : Summ) (ev : Operand → AV) (o : Oper) : RM Res :=
  match o.op with
  | .binOp op t x y _ => bif isNils (ev y) then nilR P op t (relax (ev x)) else orFail "binOp" (binR P op t (relax (ev x)) (ev y))
  | _ => opR0 P S (fun x => relax (ev x)) o

/-! ### the state, and the run -/
structure St where
  tmps : List AV
  H : List AObj

def evOf (tmps : List AV) : Operand → AV
  | .tmp t => tmps.getD t (.s .junk)
  | .const (.slice none 0 0) => .s .nils
  | .const v => constOf v
  | .global _ => .s .junk
  | .func f => .s (.fn0 f)

def St.look (s : St) : AHeap := fun id => s.H[id]?

def upList (H : List AObj) : List (Nat × AObj) → List AObj
  | [] => H
  | (id, o) :: us => upList (H.set id o) us

def setSlot (tmps : List AV) : Option Tmp → AV → List AV
  | some d, v => tmps.set d v
  | none, _ => tmps

def St.put (s : St) (dst : Option Tmp) (r : Res) : St :=
  { tmps := setSlot s.tmps dst (r.r s.H.length), H := upList s.H r.up ++ r.new }

structure Cfg where
  tmps : List AV
  H : List AObj
  todo : List Item

inductive Tree where
  | need (p : Prop) (t : Tree)
  | ite (b : Bool) (t e : Tree)
  | both (p q : Prop) (t e : Tree)
  | ret (H : List AObj) (v : AV)
  | at (c : Cfg)
  | stuck (why : String)

def Tree.needs : List Prop → Tree → Tree
  | [], t => t
  | p :: ps, t => .need p (needs ps t)

def upIds (us : List (Nat × AObj)) : List Nat := us.map (·.1)
def upsOk (n : Nat) (us : List (Nat × AObj)) : Bool := us.all fun x => x.1.blt n

/-- What one operation of a region has touched: its number, what it looked at, what it wrote. -/
structure Touch where
  i : Nat
  rd : List Nat
  wr : List Nat

def Touch.clash (a b : Touch) : Bool := a.wr.any (fun x => b.rd.contains x || b.wr.contains x) || b.wr.any (fun x => a.rd.contains x)

/-- The operations from number i on, in the order of the text. -/
def runOps (P : Program) (S : SummB) (ops : Array Oper) (cont : St → List Touch → Tree) : Nat → List Oper → St → List Touch → Tree
  | _, [], s, tr => cont s tr
  | i, o :: rest, s, tr =>
    let go (s : St) : Tree :=
      let m := opR P (S s.H.length) (evOf s.tmps) o
      match m.eval s.look with
      | some r => bif upsOk s.H.length r.up then .needs r.need (runOps P S ops cont (i + 1) rest (s.put o.dst r) (⟨i, m.ids s.look, upIds r.up ++ (List.range r.new.length).map (s.H.length + ·)⟩ :: tr)) else .stuck "up"
      | none => .stuck (o.pos ++ " " ++ m.why s.look)
    let skip (s : St) : Tree := runOps P S ops cont (i + 1) rest { s with tmps := setSlot s.tmps o.dst (.tup []) } tr
    match o.guard with
    | none => go s
    | some (g, want) =>
      match (ops[g]?).bind (·.dst) with
      | none => .stuck "guard"
      | some d =>
        match s.tmps.getD d (.s .junk) with
        | .s (.blit b) => bif b == want then go s else skip s
        | .s (.bool b) => .ite b
            (bif want then go { s with tmps := s.tmps.set d (.s (.blit true)) } else skip { s with tmps := s.tmps.set d (.s (.blit true)) })
            (bif want then skip { s with tmps := s.tmps.set d (.s (.blit false)) } else go { s with tmps := s.tmps.set d (.s (.blit false)) })
        | .tup [] => skip s
        | _ => .stuck "guard: no truth"

def afterOf (ops : Array Oper) (i j : Nat) : Bool := ((ops[i]?).map fun o => o.after.any fun e => Region.binds .any e && e.on == j).getD false

/-- In a region that draws its order: whatever touches the same slots, or the same own memory, is ordered as in the text. -/
def clashFree (ops : Array Oper) : List Touch → Bool
  | [] => true
  | b :: as => as.all (fun a => !(a.clash b) || afterOf ops b.i a.i) && clashFree ops as

def slotsOrdered (ops : Array Oper) : Bool :=
  (List.range ops.size).all fun i => (List.range ops.size).all fun j =>
    match ops[i]?, ops[j]? with
    | some x, some y =>
      (i == j) || (match x.dst with
        | none => true
        | some d => (!(y.looksAt ops).contains d && !(y.dst == some d)) || (if i < j then afterOf ops j i else afterOf ops i j))
    | _, _ => false

/-- An operation waits only for earlier ones. -/
def edgesBack (ops : Array Oper) : Bool :=
  (List.range ops.size).all fun i => match ops[i]? with
    | some o => o.after.all fun e => !(Region.binds .any e) || e.on.blt i
    | none => true

def resultOf (P : Program) (s : St) : List ResultVar → Option (List AV)
  | [] => some []
  | .tmp t :: rs => (resultOf P s rs).map (s.tmps.getD t (.s .junk) :: ·)
  | .cell t T :: rs => match (loadR P T (s.tmps.getD t (.s .junk))).eval s.look, resultOf P s rs with
    | some r, some vs => match r.need, r.up, r.new with
      | [], [], [] => some (r.r 0 :: vs)
      | _, _, _ => none
    | _, _ => none

def oneOf : List AV → AV
  | [v] => v
  | vs => .tup vs

def exec (P : Program) (S : SummB) (fn : Func) (stop : Nat → Bool) : Nat → Bool → Cfg → Tree
  | 0, _, c => .at c
  | n + 1, first, c =>
    let to (k : List Item) : Tree := exec P S fn stop n first { c with todo := k }
    let back : Tree := match resultOf P ⟨c.tmps, c.H⟩ fn.results.toList with
      | some vs => .ret c.H (oneOf vs)
      | none => .stuck "results"
    match c.todo with
    | [] => back
    | .code .ret :: _ => back
    | .code .skip :: k | .code (.label _) :: k | .inBlock _ :: k | .inScope _ :: k => to k
    | .code (.seq a b) :: k => to (.code a :: .code b :: k)
    | .code (.block id body) :: k => to (.code body :: .inBlock id :: k)
    | .code (.scope body) :: k => to (.code body :: .inScope body :: k)
    | .code (.exit id) :: k => match exitTo id k with
      | some k' => to k'
      | none => .stuck "exit"
    | .code (.cond (.tmp t) a b) :: k =>
      match c.tmps.getD t (.s .junk) with
      | .s (.blit x) => to (.code (bif x then a else b) :: k)
      | .s (.bool x) => .ite x (exec P S fn stop n first { c with tmps := c.tmps.set t (.s (.blit true)), todo := .code a :: k }) (exec P S fn stop n first { c with tmps := c.tmps.set t (.s (.blit false)), todo := .code b :: k })
      | .s (.anyb n0 eq) => .both (bif eq then n0 = 0 else True) (bif eq then True else n0 = 0) (exec P S fn stop n first { c with tmps := c.tmps.set t (.s (.blit true)), todo := .code a :: k }) (exec P S fn stop n first { c with tmps := c.tmps.set t (.s (.blit false)), todo := .code b :: k })
      | _ => .stuck "cond"
    | .code (.region id ops draw) :: k =>
      bif !first && stop id then .at c else
      bif draw then
        (bif slotsOrdered ops && edgesBack ops then
          runOps P S ops (fun s tr => bif clashFree ops tr then exec P S fn stop n false { tmps := s.tmps, H := s.H, todo := k } else .stuck "order") 0 ops.toList ⟨c.tmps, c.H⟩ []
        else .stuck "slots")
      else runOps P S ops (fun s _ => exec P S fn stop n false { tmps := s.tmps, H := s.H, todo := k }) 0 ops.toList ⟨c.tmps, c.H⟩ []
    | .code (.loop body) :: k | .inLoop body :: k => .at { c with todo := .code body :: .inLoop body :: k }
    | _ => .at c

def start (fn : Func) (args : List AV) (H : List AObj) : Cfg :=
  { tmps := args ++ List.replicate (fn.ntmps - args.length) (.tup []), H := H, todo := [.code (fn.body.getD .skip)] }

end Go.Sx
