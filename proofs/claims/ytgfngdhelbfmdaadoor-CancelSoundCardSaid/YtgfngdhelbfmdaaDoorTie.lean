/-
  DERIVED. GIVEN WITH THE SEED: THE PROGRAM's TIES (one call each: nine closed facts by the kernel) AND EACH ROW's TIE, after the 31st guide's Derived/Test/Toyas{Tie, Card}.lean. No idea stands in it: it is a product of the set-up. Laid BY PROGRAM, IN A SANDBOX (cutbox-door.mjs). By AI agents, Wed Nov 11 2026. No macro, syntax, notation, axiom, sorry.
-/
import Derived.Test.YtgfngdhelbfmdaaDoorRows
import Derived.LaidByTextLater
import Derived.SevenTiedAt
import Derived.LaidSub
import Derived.LaidOnce
namespace Go.Proofs.YtgfngdhelbfmdaaDoor
open Go
set_option maxRecDepth 100000
theorem seatTie1 : Tryd.prog.laidByTextLater [("callboard/arena.kinds", Rows.laid_callboard_arena_kinds)] [.mappedDeep] true :=
  Program.laidByTextLater_by_one 44 8 4 (by kernel_rfl) (by kernel_rfl) (by kernel_rfl) (by kernel_rfl) (by kernel_rfl) (by kernel_rfl) (fun _ _ => by kernel_rfl)
theorem noOwnUnsafe : Tryd.pinned.checked.prog.headLifts.contains "ownunsafe" = false := by kernel_rfl
theorem tie : Tryd.prog.laidByTextLater [("callboard/arena.kinds", Rows.laid_callboard_arena_kinds)] [.mappedDeep] true :=
  Program.laidByTextLater.sub seatTie1 ["callboard/arena.kinds"] (by kernel_rfl) (by kernel_rfl)
theorem arenaSound_row_tie : Rows.arenaSoundRow.laidByTextAt .later Tryd.pinned [.mappedDeep] true :=
  OpenClaim.laidByTextAt_later rfl rfl tie noOwnUnsafe
theorem arenaNames_row_tie : Rows.arenaNamesRow.laidByTextAt .later Tryd.pinned [.mappedDeep] true :=
  OpenClaim.laidByTextAt_later rfl rfl tie noOwnUnsafe
theorem arenaTrees_row_tie : Rows.arenaTreesRow.laidByTextAt .later Tryd.pinned [.mappedDeep] true :=
  OpenClaim.laidByTextAt_later rfl rfl tie noOwnUnsafe
theorem arenaNumbers_row_tie : Rows.arenaNumbersRow.laidByTextAt .later Tryd.pinned [.mappedDeep] true :=
  OpenClaim.laidByTextAt_later rfl rfl tie noOwnUnsafe
theorem cancelSound_row_tie : Rows.cancelSoundRow.laidByTextAt .later Tryd.pinned [.mappedDeep] true :=
  OpenClaim.laidByTextAt_later rfl rfl tie noOwnUnsafe
theorem routeOutward_row_tie : Rows.routeOutwardRow.laidByTextAt .later Tryd.pinned [.mappedDeep] true :=
  OpenClaim.laidByTextAt_later rfl rfl tie noOwnUnsafe
theorem routeScopes_row_tie : Rows.routeScopesRow.laidByTextAt .later Tryd.pinned [.mappedDeep] true :=
  OpenClaim.laidByTextAt_later rfl rfl tie noOwnUnsafe
theorem arenaSoundUpto_row_tie : Rows.arenaSoundUptoRow.laidByTextAt .later Tryd.pinned [.mappedDeep] true :=
  OpenClaim.laidByTextAt_later rfl rfl tie noOwnUnsafe
theorem arenaNamesUpto_row_tie : Rows.arenaNamesUptoRow.laidByTextAt .later Tryd.pinned [.mappedDeep] true :=
  OpenClaim.laidByTextAt_later rfl rfl tie noOwnUnsafe
theorem arenaTreesUpto_row_tie : Rows.arenaTreesUptoRow.laidByTextAt .later Tryd.pinned [.mappedDeep] true :=
  OpenClaim.laidByTextAt_later rfl rfl tie noOwnUnsafe
theorem arenaNumbersUpto_row_tie : Rows.arenaNumbersUptoRow.laidByTextAt .later Tryd.pinned [.mappedDeep] true :=
  OpenClaim.laidByTextAt_later rfl rfl tie noOwnUnsafe
theorem cancelSoundUpto_row_tie : Rows.cancelSoundUptoRow.laidByTextAt .later Tryd.pinned [.mappedDeep] true :=
  OpenClaim.laidByTextAt_later rfl rfl tie noOwnUnsafe
theorem routeOutwardUpto_row_tie : Rows.routeOutwardUptoRow.laidByTextAt .later Tryd.pinned [.mappedDeep] true :=
  OpenClaim.laidByTextAt_later rfl rfl tie noOwnUnsafe
theorem routeScopesUpto_row_tie : Rows.routeScopesUptoRow.laidByTextAt .later Tryd.pinned [.mappedDeep] true :=
  OpenClaim.laidByTextAt_later rfl rfl tie noOwnUnsafe
end Go.Proofs.YtgfngdhelbfmdaaDoor
