/-
  DERIVED. GIVEN WITH THE SEED: THE CARDS: each row of YtcjldfgkonfocaaDoorRows.lean that lists a variable, with what it lists TIED to the program's text (the seventh form; the later family's looks); each row that meets fmt, with fmt's text TOLD by the authors' own Lean function (tested against real Go, not proved from fmt's source: count such statements apart). THE CARD IS WHAT COUNTS. Prove the row's statement (the work); the ties are given (YtcjldfgkonfocaaDoorTie.lean); close each card by the builder's one call (the guide's Derived/Test/ToyasCard.lean, 'card_holds'). Laid BY PROGRAM, IN A SANDBOX (cutbox-door.mjs). By AI agents, Wed Nov 11 2026. No macro, syntax, notation, axiom, sorry.
-/
import Derived.Test.YtcjldfgkonfocaaDoorRows
import GoSem.ClaimSeven
namespace Go.Proofs.YtcjldfgkonfocaaDoor
namespace Rows

/-- THE TIED CARD OF 'callboardlaw07.TreeList'. -/
def treeListCard : Claim7 := { stood := { row := treeListRow, standIns := [], harness := (true, "8d1984ddf858c2533aacf615267b7d1c63ce3e21e6c9199b91c8f1907d476b5e"), looks := false }, kinds := [], alts := [], laidByText := true, laidKinds := [.data], laidTests := true, laidLooks := .later }
def TreeListCardSaid : Prop := Claim7.holds Tryd.pinned (.plain (OpenSpec.ofChange treeListSpec)) treeListCard

/-- THE TIED CARD OF 'callboardlaw07.TreeOld'. -/
def treeOldCard : Claim7 := { stood := { row := treeOldRow, standIns := [], harness := (true, "8d1984ddf858c2533aacf615267b7d1c63ce3e21e6c9199b91c8f1907d476b5e"), looks := false }, kinds := [], alts := [], laidByText := true, laidKinds := [.data], laidTests := true, laidLooks := .later }
def TreeOldCardSaid : Prop := Claim7.holds Tryd.pinned (.plain (OpenSpec.ofChange treeOldSpec)) treeOldCard

/-- THE TIED CARD OF 'callboardlaw07.TreeNames'. -/
def treeNamesCard : Claim7 := { stood := { row := treeNamesRow, standIns := [], harness := (true, "8d1984ddf858c2533aacf615267b7d1c63ce3e21e6c9199b91c8f1907d476b5e"), looks := false }, kinds := [], alts := [], laidByText := true, laidKinds := [.data], laidTests := true, laidLooks := .later }
def TreeNamesCardSaid : Prop := Claim7.holds Tryd.pinned (.plain (OpenSpec.ofChange treeNamesSpec)) treeNamesCard

/-- THE TIED CARD OF 'callboardlaw07.TreeEmpty'. -/
def treeEmptyCard : Claim7 := { stood := { row := treeEmptyRow, standIns := [], harness := (true, "8d1984ddf858c2533aacf615267b7d1c63ce3e21e6c9199b91c8f1907d476b5e"), looks := false }, kinds := [], alts := [], laidByText := true, laidKinds := [.data], laidTests := true, laidLooks := .later }
def TreeEmptyCardSaid : Prop := Claim7.holds Tryd.pinned (.plain (OpenSpec.ofChange treeEmptySpec)) treeEmptyCard

/-- THE TIED CARD OF 'callboardlaw07.TreeFull'. -/
def treeFullCard : Claim7 := { stood := { row := treeFullRow, standIns := [], harness := (true, "8d1984ddf858c2533aacf615267b7d1c63ce3e21e6c9199b91c8f1907d476b5e"), looks := false }, kinds := [], alts := [], laidByText := true, laidKinds := [.data], laidTests := true, laidLooks := .later }
def TreeFullCardSaid : Prop := Claim7.holds Tryd.pinned (.plain (OpenSpec.ofChange treeFullSpec)) treeFullCard

/-- THE SECOND FORM's CARD OF 'callboardlaw07.TreeList'. -/
def treeListUptoCard : Claim7 := { stood := { row := treeListUptoRow, standIns := [], harness := (true, "8d1984ddf858c2533aacf615267b7d1c63ce3e21e6c9199b91c8f1907d476b5e"), looks := false }, kinds := [], alts := [], laidByText := true, laidKinds := [.data], laidTests := true, laidLooks := .later }
def TreeListUptoCardSaid : Prop := Claim7.holds Tryd.pinned (.plain (OpenSpec.upto treeListSpec)) treeListUptoCard

/-- THE SECOND FORM's CARD OF 'callboardlaw07.TreeOld'. -/
def treeOldUptoCard : Claim7 := { stood := { row := treeOldUptoRow, standIns := [], harness := (true, "8d1984ddf858c2533aacf615267b7d1c63ce3e21e6c9199b91c8f1907d476b5e"), looks := false }, kinds := [], alts := [], laidByText := true, laidKinds := [.data], laidTests := true, laidLooks := .later }
def TreeOldUptoCardSaid : Prop := Claim7.holds Tryd.pinned (.plain (OpenSpec.upto treeOldSpec)) treeOldUptoCard

/-- THE SECOND FORM's CARD OF 'callboardlaw07.TreeNames'. -/
def treeNamesUptoCard : Claim7 := { stood := { row := treeNamesUptoRow, standIns := [], harness := (true, "8d1984ddf858c2533aacf615267b7d1c63ce3e21e6c9199b91c8f1907d476b5e"), looks := false }, kinds := [], alts := [], laidByText := true, laidKinds := [.data], laidTests := true, laidLooks := .later }
def TreeNamesUptoCardSaid : Prop := Claim7.holds Tryd.pinned (.plain (OpenSpec.upto treeNamesSpec)) treeNamesUptoCard

/-- THE SECOND FORM's CARD OF 'callboardlaw07.TreeEmpty'. -/
def treeEmptyUptoCard : Claim7 := { stood := { row := treeEmptyUptoRow, standIns := [], harness := (true, "8d1984ddf858c2533aacf615267b7d1c63ce3e21e6c9199b91c8f1907d476b5e"), looks := false }, kinds := [], alts := [], laidByText := true, laidKinds := [.data], laidTests := true, laidLooks := .later }
def TreeEmptyUptoCardSaid : Prop := Claim7.holds Tryd.pinned (.plain (OpenSpec.upto treeEmptySpec)) treeEmptyUptoCard

/-- THE SECOND FORM's CARD OF 'callboardlaw07.TreeFull'. -/
def treeFullUptoCard : Claim7 := { stood := { row := treeFullUptoRow, standIns := [], harness := (true, "8d1984ddf858c2533aacf615267b7d1c63ce3e21e6c9199b91c8f1907d476b5e"), looks := false }, kinds := [], alts := [], laidByText := true, laidKinds := [.data], laidTests := true, laidLooks := .later }
def TreeFullUptoCardSaid : Prop := Claim7.holds Tryd.pinned (.plain (OpenSpec.upto treeFullSpec)) treeFullUptoCard
end Rows
end Go.Proofs.YtcjldfgkonfocaaDoor
