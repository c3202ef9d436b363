/-
  DERIVED. GIVEN WITH THE SEED: THE CARDS: each row of YtgookenhmddbfaaGreatDoorRows.lean that lists a variable, with what it lists TIED to the program's text (the seventh form; the later family's looks); each row that meets fmt, with fmt's text TOLD by the authors' own Lean function (tested against real Go, not proved from fmt's source: count such statements apart). THE CARD IS WHAT COUNTS. Prove the row's statement (the work); the ties are given (YtgookenhmddbfaaGreatDoorTie.lean); close each card by the builder's one call (the guide's Derived/Test/ToyasCard.lean, 'card_holds'). Laid BY PROGRAM, IN A SANDBOX (cutbox-door.mjs). By AI agents, Wed Nov 11 2026. No macro, syntax, notation, axiom, sorry.
-/
import Derived.Test.YtgookenhmddbfaaGreatDoorRows
import GoSem.ClaimSeven
namespace Go.Proofs.YtgookenhmddbfaaGreatDoor
namespace Rows

/-- THE TIED CARD OF 'callboardlaw08.StoreCrash'. -/
def storeCrashCard : Claim7 := { stood := { row := storeCrashRow, standIns := [], harness := (true, "72f2c47a67c247b076be5eeaa15cc962d234b2aeb939294d358ba965e00cff20"), looks := false }, kinds := [], alts := [], laidByText := true, laidKinds := [.data], laidTests := true, laidLooks := .later }
def StoreCrashCardSaid : Prop := Claim7.holds Tryz.pinned (.plain (OpenSpec.ofChange storeCrashSpec)) storeCrashCard

/-- THE SECOND FORM's CARD OF 'callboardlaw08.StoreCrash'. -/
def storeCrashUptoCard : Claim7 := { stood := { row := storeCrashUptoRow, standIns := [], harness := (true, "72f2c47a67c247b076be5eeaa15cc962d234b2aeb939294d358ba965e00cff20"), looks := false }, kinds := [], alts := [], laidByText := true, laidKinds := [.data], laidTests := true, laidLooks := .later }
def StoreCrashUptoCardSaid : Prop := Claim7.holds Tryz.pinned (.plain (OpenSpec.upto storeCrashSpec)) storeCrashUptoCard
end Rows
end Go.Proofs.YtgookenhmddbfaaGreatDoor
