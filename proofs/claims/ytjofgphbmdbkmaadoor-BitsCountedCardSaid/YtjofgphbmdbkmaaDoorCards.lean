/-
  DERIVED. GIVEN WITH THE SEED: THE CARDS: each row of YtjofgphbmdbkmaaDoorRows.lean that lists a variable, with what it lists TIED to the program's text (the seventh form; the later family's looks); each row that meets fmt, with fmt's text TOLD by the authors' own Lean function (tested against real Go, not proved from fmt's source: count such statements apart). THE CARD IS WHAT COUNTS. Prove the row's statement (the work); the ties are given (YtjofgphbmdbkmaaDoorTie.lean); close each card by the builder's one call (the guide's Derived/Test/ToyasCard.lean, 'card_holds'). Laid BY PROGRAM, IN A SANDBOX (cutbox-door.mjs). By AI agents, Wed Nov 11 2026. No macro, syntax, notation, axiom, sorry.
-/
import Derived.Test.YtjofgphbmdbkmaaDoorRows
import GoSem.ClaimSeven
namespace Go.Proofs.YtjofgphbmdbkmaaDoor
namespace Rows

/-- THE TIED CARD OF 'callboardlaw05.BitsNames'. -/
def bitsNamesCard : Claim7 := { stood := { row := bitsNamesRow, standIns := [], harness := (true, "5d7bbd5eea720619977b3a10a137101824f4ce8a7d0653d7b48d0d440350b48d"), looks := false }, kinds := [], alts := [], laidByText := true, laidKinds := [.data], laidTests := true, laidLooks := .later }
def BitsNamesCardSaid : Prop := Claim7.holds Tryd.pinned (.plain (OpenSpec.ofChange bitsNamesSpec)) bitsNamesCard

/-- THE TIED CARD OF 'callboardlaw05.BitsNext'. -/
def bitsNextCard : Claim7 := { stood := { row := bitsNextRow, standIns := [], harness := (true, "5d7bbd5eea720619977b3a10a137101824f4ce8a7d0653d7b48d0d440350b48d"), looks := false }, kinds := [], alts := [], laidByText := true, laidKinds := [.data], laidTests := true, laidLooks := .later }
def BitsNextCardSaid : Prop := Claim7.holds Tryd.pinned (.plain (OpenSpec.ofChange bitsNextSpec)) bitsNextCard

/-- THE TIED CARD OF 'callboardlaw05.BitsValues'. -/
def bitsValuesCard : Claim7 := { stood := { row := bitsValuesRow, standIns := [], harness := (true, "5d7bbd5eea720619977b3a10a137101824f4ce8a7d0653d7b48d0d440350b48d"), looks := false }, kinds := [], alts := [], laidByText := true, laidKinds := [.data], laidTests := true, laidLooks := .later }
def BitsValuesCardSaid : Prop := Claim7.holds Tryd.pinned (.plain (OpenSpec.ofChange bitsValuesSpec)) bitsValuesCard

/-- THE TIED CARD OF 'callboardlaw05.BitsSets'. -/
def bitsSetsCard : Claim7 := { stood := { row := bitsSetsRow, standIns := [], harness := (true, "5d7bbd5eea720619977b3a10a137101824f4ce8a7d0653d7b48d0d440350b48d"), looks := false }, kinds := [], alts := [], laidByText := true, laidKinds := [.data], laidTests := true, laidLooks := .later }
def BitsSetsCardSaid : Prop := Claim7.holds Tryd.pinned (.plain (OpenSpec.ofChange bitsSetsSpec)) bitsSetsCard

/-- THE TIED CARD OF 'callboardlaw05.BitsIn'. -/
def bitsInCard : Claim7 := { stood := { row := bitsInRow, standIns := [], harness := (true, "5d7bbd5eea720619977b3a10a137101824f4ce8a7d0653d7b48d0d440350b48d"), looks := false }, kinds := [], alts := [], laidByText := true, laidKinds := [.data], laidTests := true, laidLooks := .later }
def BitsInCardSaid : Prop := Claim7.holds Tryd.pinned (.plain (OpenSpec.ofChange bitsInSpec)) bitsInCard

/-- THE TIED CARD OF 'callboardlaw05.BitsLaws'. -/
def bitsLawsCard : Claim7 := { stood := { row := bitsLawsRow, standIns := [], harness := (true, "5d7bbd5eea720619977b3a10a137101824f4ce8a7d0653d7b48d0d440350b48d"), looks := false }, kinds := [], alts := [], laidByText := true, laidKinds := [.data], laidTests := true, laidLooks := .later }
def BitsLawsCardSaid : Prop := Claim7.holds Tryd.pinned (.plain (OpenSpec.ofChange bitsLawsSpec)) bitsLawsCard

/-- THE TIED CARD OF 'callboardlaw05.BitsCounted'. -/
def bitsCountedCard : Claim7 := { stood := { row := bitsCountedRow, standIns := [], harness := (true, "5d7bbd5eea720619977b3a10a137101824f4ce8a7d0653d7b48d0d440350b48d"), looks := false }, kinds := [], alts := [], laidByText := true, laidKinds := [.data], laidTests := true, laidLooks := .later }
def BitsCountedCardSaid : Prop := Claim7.holds Tryd.pinned (.plain (OpenSpec.ofChange bitsCountedSpec)) bitsCountedCard

/-- THE SECOND FORM's CARD OF 'callboardlaw05.BitsNames'. -/
def bitsNamesUptoCard : Claim7 := { stood := { row := bitsNamesUptoRow, standIns := [], harness := (true, "5d7bbd5eea720619977b3a10a137101824f4ce8a7d0653d7b48d0d440350b48d"), looks := false }, kinds := [], alts := [], laidByText := true, laidKinds := [.data], laidTests := true, laidLooks := .later }
def BitsNamesUptoCardSaid : Prop := Claim7.holds Tryd.pinned (.plain (OpenSpec.upto bitsNamesSpec)) bitsNamesUptoCard

/-- THE SECOND FORM's CARD OF 'callboardlaw05.BitsNext'. -/
def bitsNextUptoCard : Claim7 := { stood := { row := bitsNextUptoRow, standIns := [], harness := (true, "5d7bbd5eea720619977b3a10a137101824f4ce8a7d0653d7b48d0d440350b48d"), looks := false }, kinds := [], alts := [], laidByText := true, laidKinds := [.data], laidTests := true, laidLooks := .later }
def BitsNextUptoCardSaid : Prop := Claim7.holds Tryd.pinned (.plain (OpenSpec.upto bitsNextSpec)) bitsNextUptoCard

/-- THE SECOND FORM's CARD OF 'callboardlaw05.BitsValues'. -/
def bitsValuesUptoCard : Claim7 := { stood := { row := bitsValuesUptoRow, standIns := [], harness := (true, "5d7bbd5eea720619977b3a10a137101824f4ce8a7d0653d7b48d0d440350b48d"), looks := false }, kinds := [], alts := [], laidByText := true, laidKinds := [.data], laidTests := true, laidLooks := .later }
def BitsValuesUptoCardSaid : Prop := Claim7.holds Tryd.pinned (.plain (OpenSpec.upto bitsValuesSpec)) bitsValuesUptoCard

/-- THE SECOND FORM's CARD OF 'callboardlaw05.BitsSets'. -/
def bitsSetsUptoCard : Claim7 := { stood := { row := bitsSetsUptoRow, standIns := [], harness := (true, "5d7bbd5eea720619977b3a10a137101824f4ce8a7d0653d7b48d0d440350b48d"), looks := false }, kinds := [], alts := [], laidByText := true, laidKinds := [.data], laidTests := true, laidLooks := .later }
def BitsSetsUptoCardSaid : Prop := Claim7.holds Tryd.pinned (.plain (OpenSpec.upto bitsSetsSpec)) bitsSetsUptoCard

/-- THE SECOND FORM's CARD OF 'callboardlaw05.BitsIn'. -/
def bitsInUptoCard : Claim7 := { stood := { row := bitsInUptoRow, standIns := [], harness := (true, "5d7bbd5eea720619977b3a10a137101824f4ce8a7d0653d7b48d0d440350b48d"), looks := false }, kinds := [], alts := [], laidByText := true, laidKinds := [.data], laidTests := true, laidLooks := .later }
def BitsInUptoCardSaid : Prop := Claim7.holds Tryd.pinned (.plain (OpenSpec.upto bitsInSpec)) bitsInUptoCard

/-- THE SECOND FORM's CARD OF 'callboardlaw05.BitsLaws'. -/
def bitsLawsUptoCard : Claim7 := { stood := { row := bitsLawsUptoRow, standIns := [], harness := (true, "5d7bbd5eea720619977b3a10a137101824f4ce8a7d0653d7b48d0d440350b48d"), looks := false }, kinds := [], alts := [], laidByText := true, laidKinds := [.data], laidTests := true, laidLooks := .later }
def BitsLawsUptoCardSaid : Prop := Claim7.holds Tryd.pinned (.plain (OpenSpec.upto bitsLawsSpec)) bitsLawsUptoCard

/-- THE SECOND FORM's CARD OF 'callboardlaw05.BitsCounted'. -/
def bitsCountedUptoCard : Claim7 := { stood := { row := bitsCountedUptoRow, standIns := [], harness := (true, "5d7bbd5eea720619977b3a10a137101824f4ce8a7d0653d7b48d0d440350b48d"), looks := false }, kinds := [], alts := [], laidByText := true, laidKinds := [.data], laidTests := true, laidLooks := .later }
def BitsCountedUptoCardSaid : Prop := Claim7.holds Tryd.pinned (.plain (OpenSpec.upto bitsCountedSpec)) bitsCountedUptoCard
end Rows
end Go.Proofs.YtjofgphbmdbkmaaDoor
