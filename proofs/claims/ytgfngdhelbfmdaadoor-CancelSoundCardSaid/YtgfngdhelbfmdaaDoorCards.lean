/-
  DERIVED. GIVEN WITH THE SEED: THE CARDS: each row of YtgfngdhelbfmdaaDoorRows.lean that lists a variable, with what it lists TIED to the program's text (the seventh form; the later family's looks); each row that meets fmt, with fmt's text TOLD by the authors' own Lean function (tested against real Go, not proved from fmt's source: count such statements apart). THE CARD IS WHAT COUNTS. Prove the row's statement (the work); the ties are given (YtgfngdhelbfmdaaDoorTie.lean); close each card by the builder's one call (the guide's Derived/Test/ToyasCard.lean, 'card_holds'). Laid BY PROGRAM, IN A SANDBOX (cutbox-door.mjs). By AI agents, Wed Nov 11 2026. No macro, syntax, notation, axiom, sorry.
-/
import Derived.Test.YtgfngdhelbfmdaaDoorRows
import GoSem.ClaimSeven
namespace Go.Proofs.YtgfngdhelbfmdaaDoor
namespace Rows

/-- THE TIED CARD OF 'callboardlaw18.ArenaSound'. -/
def arenaSoundCard : Claim7 := { stood := { row := arenaSoundRow, standIns := [], harness := (true, "90b2e7fec4e61b494728ab99a71c640c7a162b7fc6d10b6aee701bec01f52dd0"), looks := true }, kinds := [], alts := [], laidByText := true, laidKinds := [.mappedDeep], laidTests := true, laidLooks := .later }
def ArenaSoundCardSaid : Prop := Claim7.holds Tryd.pinned (.plain (OpenSpec.ofChange arenaSoundSpec)) arenaSoundCard

/-- THE TIED CARD OF 'callboardlaw18.ArenaNames'. -/
def arenaNamesCard : Claim7 := { stood := { row := arenaNamesRow, standIns := [], harness := (true, "90b2e7fec4e61b494728ab99a71c640c7a162b7fc6d10b6aee701bec01f52dd0"), looks := true }, kinds := [], alts := [], laidByText := true, laidKinds := [.mappedDeep], laidTests := true, laidLooks := .later }
def ArenaNamesCardSaid : Prop := Claim7.holds Tryd.pinned (.plain (OpenSpec.ofChange arenaNamesSpec)) arenaNamesCard

/-- THE TIED CARD OF 'callboardlaw18.ArenaTrees'. -/
def arenaTreesCard : Claim7 := { stood := { row := arenaTreesRow, standIns := [], harness := (true, "90b2e7fec4e61b494728ab99a71c640c7a162b7fc6d10b6aee701bec01f52dd0"), looks := true }, kinds := [], alts := [], laidByText := true, laidKinds := [.mappedDeep], laidTests := true, laidLooks := .later }
def ArenaTreesCardSaid : Prop := Claim7.holds Tryd.pinned (.plain (OpenSpec.ofChange arenaTreesSpec)) arenaTreesCard

/-- THE TIED CARD OF 'callboardlaw18.ArenaNumbers'. -/
def arenaNumbersCard : Claim7 := { stood := { row := arenaNumbersRow, standIns := [], harness := (true, "90b2e7fec4e61b494728ab99a71c640c7a162b7fc6d10b6aee701bec01f52dd0"), looks := true }, kinds := [], alts := [], laidByText := true, laidKinds := [.mappedDeep], laidTests := true, laidLooks := .later }
def ArenaNumbersCardSaid : Prop := Claim7.holds Tryd.pinned (.plain (OpenSpec.ofChange arenaNumbersSpec)) arenaNumbersCard

/-- THE TIED CARD OF 'callboardlaw21.CancelSound'. -/
def cancelSoundCard : Claim7 := { stood := { row := cancelSoundRow, standIns := [], harness := (true, "90b2e7fec4e61b494728ab99a71c640c7a162b7fc6d10b6aee701bec01f52dd0"), looks := true }, kinds := [], alts := [], laidByText := true, laidKinds := [.mappedDeep], laidTests := true, laidLooks := .later }
def CancelSoundCardSaid : Prop := Claim7.holds Tryd.pinned (.plain (OpenSpec.ofChange cancelSoundSpec)) cancelSoundCard

/-- THE TIED CARD OF 'callboardlaw22.RouteOutward'. -/
def routeOutwardCard : Claim7 := { stood := { row := routeOutwardRow, standIns := [], harness := (true, "90b2e7fec4e61b494728ab99a71c640c7a162b7fc6d10b6aee701bec01f52dd0"), looks := true }, kinds := [], alts := [], laidByText := true, laidKinds := [.mappedDeep], laidTests := true, laidLooks := .later }
def RouteOutwardCardSaid : Prop := Claim7.holds Tryd.pinned (.plain (OpenSpec.ofChange routeOutwardSpec)) routeOutwardCard

/-- THE TIED CARD OF 'callboardlaw22.RouteScopes'. -/
def routeScopesCard : Claim7 := { stood := { row := routeScopesRow, standIns := [], harness := (true, "90b2e7fec4e61b494728ab99a71c640c7a162b7fc6d10b6aee701bec01f52dd0"), looks := true }, kinds := [], alts := [], laidByText := true, laidKinds := [.mappedDeep], laidTests := true, laidLooks := .later }
def RouteScopesCardSaid : Prop := Claim7.holds Tryd.pinned (.plain (OpenSpec.ofChange routeScopesSpec)) routeScopesCard

/-- THE SECOND FORM's CARD OF 'callboardlaw18.ArenaSound'. -/
def arenaSoundUptoCard : Claim7 := { stood := { row := arenaSoundUptoRow, standIns := [], harness := (true, "90b2e7fec4e61b494728ab99a71c640c7a162b7fc6d10b6aee701bec01f52dd0"), looks := true }, kinds := [], alts := [], laidByText := true, laidKinds := [.mappedDeep], laidTests := true, laidLooks := .later }
def ArenaSoundUptoCardSaid : Prop := Claim7.holds Tryd.pinned (.plain (OpenSpec.upto arenaSoundSpec)) arenaSoundUptoCard

/-- THE SECOND FORM's CARD OF 'callboardlaw18.ArenaNames'. -/
def arenaNamesUptoCard : Claim7 := { stood := { row := arenaNamesUptoRow, standIns := [], harness := (true, "90b2e7fec4e61b494728ab99a71c640c7a162b7fc6d10b6aee701bec01f52dd0"), looks := true }, kinds := [], alts := [], laidByText := true, laidKinds := [.mappedDeep], laidTests := true, laidLooks := .later }
def ArenaNamesUptoCardSaid : Prop := Claim7.holds Tryd.pinned (.plain (OpenSpec.upto arenaNamesSpec)) arenaNamesUptoCard

/-- THE SECOND FORM's CARD OF 'callboardlaw18.ArenaTrees'. -/
def arenaTreesUptoCard : Claim7 := { stood := { row := arenaTreesUptoRow, standIns := [], harness := (true, "90b2e7fec4e61b494728ab99a71c640c7a162b7fc6d10b6aee701bec01f52dd0"), looks := true }, kinds := [], alts := [], laidByText := true, laidKinds := [.mappedDeep], laidTests := true, laidLooks := .later }
def ArenaTreesUptoCardSaid : Prop := Claim7.holds Tryd.pinned (.plain (OpenSpec.upto arenaTreesSpec)) arenaTreesUptoCard

/-- THE SECOND FORM's CARD OF 'callboardlaw18.ArenaNumbers'. -/
def arenaNumbersUptoCard : Claim7 := { stood := { row := arenaNumbersUptoRow, standIns := [], harness := (true, "90b2e7fec4e61b494728ab99a71c640c7a162b7fc6d10b6aee701bec01f52dd0"), looks := true }, kinds := [], alts := [], laidByText := true, laidKinds := [.mappedDeep], laidTests := true, laidLooks := .later }
def ArenaNumbersUptoCardSaid : Prop := Claim7.holds Tryd.pinned (.plain (OpenSpec.upto arenaNumbersSpec)) arenaNumbersUptoCard

/-- THE SECOND FORM's CARD OF 'callboardlaw21.CancelSound'. -/
def cancelSoundUptoCard : Claim7 := { stood := { row := cancelSoundUptoRow, standIns := [], harness := (true, "90b2e7fec4e61b494728ab99a71c640c7a162b7fc6d10b6aee701bec01f52dd0"), looks := true }, kinds := [], alts := [], laidByText := true, laidKinds := [.mappedDeep], laidTests := true, laidLooks := .later }
def CancelSoundUptoCardSaid : Prop := Claim7.holds Tryd.pinned (.plain (OpenSpec.upto cancelSoundSpec)) cancelSoundUptoCard

/-- THE SECOND FORM's CARD OF 'callboardlaw22.RouteOutward'. -/
def routeOutwardUptoCard : Claim7 := { stood := { row := routeOutwardUptoRow, standIns := [], harness := (true, "90b2e7fec4e61b494728ab99a71c640c7a162b7fc6d10b6aee701bec01f52dd0"), looks := true }, kinds := [], alts := [], laidByText := true, laidKinds := [.mappedDeep], laidTests := true, laidLooks := .later }
def RouteOutwardUptoCardSaid : Prop := Claim7.holds Tryd.pinned (.plain (OpenSpec.upto routeOutwardSpec)) routeOutwardUptoCard

/-- THE SECOND FORM's CARD OF 'callboardlaw22.RouteScopes'. -/
def routeScopesUptoCard : Claim7 := { stood := { row := routeScopesUptoRow, standIns := [], harness := (true, "90b2e7fec4e61b494728ab99a71c640c7a162b7fc6d10b6aee701bec01f52dd0"), looks := true }, kinds := [], alts := [], laidByText := true, laidKinds := [.mappedDeep], laidTests := true, laidLooks := .later }
def RouteScopesUptoCardSaid : Prop := Claim7.holds Tryd.pinned (.plain (OpenSpec.upto routeScopesSpec)) routeScopesUptoCard
end Rows
end Go.Proofs.YtgfngdhelbfmdaaDoor
