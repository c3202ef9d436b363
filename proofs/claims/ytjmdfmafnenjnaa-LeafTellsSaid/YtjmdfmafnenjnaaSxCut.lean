import Derived.JoinedOf
/-! The last facts of a row whose program is a cut: its head word is read once. -/
namespace Go.Sx
open Go

theorem make_cut (P : Program) (r : List (List Char)) (h : behindMainWord (wordsSigns P.initOrder.toList) = [(Char.ofNat 99), (Char.ofNat 117), (Char.ofNat 116)] :: r) : P.make = some .cut := by
  unfold Program.make; rw [h]; kernel_rfl
theorem lifts_cut (P : Program) (r : List (List Char)) (h : behindMainWord (wordsSigns P.initOrder.toList) = [(Char.ofNat 99), (Char.ofNat 117), (Char.ofNat 116)] :: r) (hs : stripLifts liftWords ([(Char.ofNat 99), (Char.ofNat 117), (Char.ofNat 116)] :: r) = ([], [(Char.ofNat 99), (Char.ofNat 117), (Char.ofNat 116)] :: r)) : P.liftsFinal = false := by
  unfold Program.liftsFinal Program.headLifts; rw [h]; dsimp only; rw [hs]; kernel_rfl
theorem enter_cut (P : Program) (r : List (List Char)) (h : behindMainWord (wordsSigns P.initOrder.toList) = [(Char.ofNat 99), (Char.ofNat 117), (Char.ofNat 116)] :: r) (hs : stripLifts liftWords ([(Char.ofNat 99), (Char.ofNat 117), (Char.ofNat 116)] :: r) = ([], [(Char.ofNat 99), (Char.ofNat 117), (Char.ofNat 116)] :: r))
    (h1 : P.laysLater = false) (h2 : P.bearsReflect = false) (h3 : P.doorFits [] = true) : P.mayEnter = true := by
  unfold Program.mayEnter; rw [h]; dsimp only; rw [hs, h1, h2]; dsimp only; rw [h3]; kernel_rfl

def joinedRest (P : Program) (f : FuncId) (fn : Func) (s : ChangeSpec) (c : OpenClaim) : {b : Bool // P.mayEnter = true → P.liftsFinal = false → P.make = some .cut → joinedFacts P f fn s c = b} := by
  refine ⟨?b, fun h1 h2 h3 => ?h⟩
  case h =>
    unfold joinedFacts
    rw [h1, h2, h3]

theorem joined_cut {P : Program} {f : FuncId} {fn : Func} {s : ChangeSpec} {c : OpenClaim} (r : List (List Char)) (h : behindMainWord (wordsSigns P.initOrder.toList) = [(Char.ofNat 99), (Char.ofNat 117), (Char.ofNat 116)] :: r) (hs : stripLifts liftWords ([(Char.ofNat 99), (Char.ofNat 117), (Char.ofNat 116)] :: r) = ([], [(Char.ofNat 99), (Char.ofNat 117), (Char.ofNat 116)] :: r))
    (h1 : P.laysLater = false) (h2 : P.bearsReflect = false) (h3 : P.doorFits [] = true) (hr : (joinedRest P f fn s c).1 = true) : joinedFacts P f fn s c = true :=
  ((joinedRest P f fn s c).2 (enter_cut P r h hs h1 h2 h3) (lifts_cut P r h hs) (make_cut P r h)).trans hr
end Go.Sx
