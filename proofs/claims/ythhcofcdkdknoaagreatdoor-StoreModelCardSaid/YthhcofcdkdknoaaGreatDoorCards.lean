/-
  DERIVED. GIVEN WITH THE SEED: THE CARDS: each row of YthhcofcdkdknoaaGreatDoorRows.lean that lists a variable, with what it lists TIED to the program's text (the seventh form; the later family's looks); each row that meets fmt, with fmt's text TOLD by the authors' own Lean function (tested against real Go, not proved from fmt's source: count such statements apart). THE CARD IS WHAT COUNTS. Prove the row's statement (the work); the ties are given (YthhcofcdkdknoaaGreatDoorTie.lean); close each card by the builder's one call (the guide's Derived/Test/ToyasCard.lean, 'card_holds'). Laid BY PROGRAM, IN A SANDBOX (cutbox-door.mjs). By AI agents, Wed Nov 11 2026. No macro, syntax, notation, axiom, sorry.
-/
import Derived.Test.YthhcofcdkdknoaaGreatDoorRows
import GoSem.ClaimSeven
namespace Go.Proofs.YthhcofcdkdknoaaGreatDoor
namespace Rows

/-- THE TIED CARD OF 'callboardlaw07.TreePlays'. -/
def treePlaysCard : Claim7 := { stood := { row := treePlaysRow, standIns := [], harness := (true, "d60cfccac8b9ebad82e28e5c59d18963806be295086428cf7dc17ad597fa0715"), looks := false }, kinds := [], alts := [], laidByText := true, laidKinds := [.data], laidTests := true, laidLooks := .later }
def TreePlaysCardSaid : Prop := Claim7.holds Tryz.pinned (.plain (OpenSpec.ofChange treePlaysSpec)) treePlaysCard

/-- THE TIED CARD OF 'callboardlaw08.StoreNames'. -/
def storeNamesCard : Claim7 := { stood := { row := storeNamesRow, standIns := [], harness := (true, "d60cfccac8b9ebad82e28e5c59d18963806be295086428cf7dc17ad597fa0715"), looks := false }, kinds := [], alts := [], laidByText := true, laidKinds := [.data], laidTests := true, laidLooks := .later }
def StoreNamesCardSaid : Prop := Claim7.holds Tryz.pinned (.plain (OpenSpec.ofChange storeNamesSpec)) storeNamesCard

/-- THE TIED CARD OF 'callboardlaw08.StoreModel'. -/
def storeModelCard : Claim7 := { stood := { row := storeModelRow, standIns := [], harness := (true, "d60cfccac8b9ebad82e28e5c59d18963806be295086428cf7dc17ad597fa0715"), looks := false }, kinds := [], alts := [], laidByText := true, laidKinds := [.data], laidTests := true, laidLooks := .later }
def StoreModelCardSaid : Prop := Claim7.holds Tryz.pinned (.plain (OpenSpec.ofChange storeModelSpec)) storeModelCard

/-- THE TIED CARD OF 'callboardlaw08.StorePages'. -/
def storePagesCard : Claim7 := { stood := { row := storePagesRow, standIns := [], harness := (true, "d60cfccac8b9ebad82e28e5c59d18963806be295086428cf7dc17ad597fa0715"), looks := false }, kinds := [], alts := [], laidByText := true, laidKinds := [.data], laidTests := true, laidLooks := .later }
def StorePagesCardSaid : Prop := Claim7.holds Tryz.pinned (.plain (OpenSpec.ofChange storePagesSpec)) storePagesCard

/-- THE TIED CARD OF 'callboardlaw08.StorePlays'. -/
def storePlaysCard : Claim7 := { stood := { row := storePlaysRow, standIns := [], harness := (true, "d60cfccac8b9ebad82e28e5c59d18963806be295086428cf7dc17ad597fa0715"), looks := false }, kinds := [], alts := [], laidByText := true, laidKinds := [.data], laidTests := true, laidLooks := .later }
def StorePlaysCardSaid : Prop := Claim7.holds Tryz.pinned (.plain (OpenSpec.ofChange storePlaysSpec)) storePlaysCard

/-- THE TIED CARD OF 'callboardlaw08.StoreCrash'. -/
def storeCrashCard : Claim7 := { stood := { row := storeCrashRow, standIns := [], harness := (true, "d60cfccac8b9ebad82e28e5c59d18963806be295086428cf7dc17ad597fa0715"), looks := false }, kinds := [], alts := [], laidByText := true, laidKinds := [.data], laidTests := true, laidLooks := .later }
def StoreCrashCardSaid : Prop := Claim7.holds Tryz.pinned (.plain (OpenSpec.ofChange storeCrashSpec)) storeCrashCard

/-- THE SECOND FORM's CARD OF 'callboardlaw07.TreePlays'. -/
def treePlaysUptoCard : Claim7 := { stood := { row := treePlaysUptoRow, standIns := [], harness := (true, "d60cfccac8b9ebad82e28e5c59d18963806be295086428cf7dc17ad597fa0715"), looks := false }, kinds := [], alts := [], laidByText := true, laidKinds := [.data], laidTests := true, laidLooks := .later }
def TreePlaysUptoCardSaid : Prop := Claim7.holds Tryz.pinned (.plain (OpenSpec.upto treePlaysSpec)) treePlaysUptoCard

/-- THE SECOND FORM's CARD OF 'callboardlaw08.StoreNames'. -/
def storeNamesUptoCard : Claim7 := { stood := { row := storeNamesUptoRow, standIns := [], harness := (true, "d60cfccac8b9ebad82e28e5c59d18963806be295086428cf7dc17ad597fa0715"), looks := false }, kinds := [], alts := [], laidByText := true, laidKinds := [.data], laidTests := true, laidLooks := .later }
def StoreNamesUptoCardSaid : Prop := Claim7.holds Tryz.pinned (.plain (OpenSpec.upto storeNamesSpec)) storeNamesUptoCard

/-- THE SECOND FORM's CARD OF 'callboardlaw08.StoreModel'. -/
def storeModelUptoCard : Claim7 := { stood := { row := storeModelUptoRow, standIns := [], harness := (true, "d60cfccac8b9ebad82e28e5c59d18963806be295086428cf7dc17ad597fa0715"), looks := false }, kinds := [], alts := [], laidByText := true, laidKinds := [.data], laidTests := true, laidLooks := .later }
def StoreModelUptoCardSaid : Prop := Claim7.holds Tryz.pinned (.plain (OpenSpec.upto storeModelSpec)) storeModelUptoCard

/-- THE SECOND FORM's CARD OF 'callboardlaw08.StorePages'. -/
def storePagesUptoCard : Claim7 := { stood := { row := storePagesUptoRow, standIns := [], harness := (true, "d60cfccac8b9ebad82e28e5c59d18963806be295086428cf7dc17ad597fa0715"), looks := false }, kinds := [], alts := [], laidByText := true, laidKinds := [.data], laidTests := true, laidLooks := .later }
def StorePagesUptoCardSaid : Prop := Claim7.holds Tryz.pinned (.plain (OpenSpec.upto storePagesSpec)) storePagesUptoCard

/-- THE SECOND FORM's CARD OF 'callboardlaw08.StorePlays'. -/
def storePlaysUptoCard : Claim7 := { stood := { row := storePlaysUptoRow, standIns := [], harness := (true, "d60cfccac8b9ebad82e28e5c59d18963806be295086428cf7dc17ad597fa0715"), looks := false }, kinds := [], alts := [], laidByText := true, laidKinds := [.data], laidTests := true, laidLooks := .later }
def StorePlaysUptoCardSaid : Prop := Claim7.holds Tryz.pinned (.plain (OpenSpec.upto storePlaysSpec)) storePlaysUptoCard

/-- THE SECOND FORM's CARD OF 'callboardlaw08.StoreCrash'. -/
def storeCrashUptoCard : Claim7 := { stood := { row := storeCrashUptoRow, standIns := [], harness := (true, "d60cfccac8b9ebad82e28e5c59d18963806be295086428cf7dc17ad597fa0715"), looks := false }, kinds := [], alts := [], laidByText := true, laidKinds := [.data], laidTests := true, laidLooks := .later }
def StoreCrashUptoCardSaid : Prop := Claim7.holds Tryz.pinned (.plain (OpenSpec.upto storeCrashSpec)) storeCrashUptoCard
end Rows
end Go.Proofs.YthhcofcdkdknoaaGreatDoor
