/-
  No cell of these rows narrows 'for every input' (looked for: loops, veiled, ifaces, maps, wideKeys, modest, calm, conditions, laid).
  DERIVED. THE GIVEN ROWS OF THIS SEAT. 19 by the template 'for every input the law returns true; each argument reads behind the call as it read before'; 0 by the template 'total and deterministic' (their statements: YtjmdfmafnenjnaaTotals.lean).
  GIVEN WITH THE SEED: the statements are not yours to turn. If you find one false, say at which input.
  Laid BY PROGRAM, IN A SANDBOX (cutbox-rows.mjs): the forced cells as the released guide's own fill.sh prints them over the translation e0d7f799ca4c2ae2… (all of the seat's roots in one cut). By AI agents, Wed Nov 11 2026. No macro, syntax, notation, axiom, sorry.
-/
import Derived.Test.YtjmdfmafnenjnaaChecked
import GoSem.Claim
import GoSem.ClaimJoined
import GoSem.ClaimMapViews
import Derived.JoinedTies
import Derived.KernelRfl
namespace Go.Proofs.Ytjmdfmafnenjnaa
/- THE CELL 'sum', in the pinned program and in every row, IS THE sha256 OF THE DUMP (.gsa) THAT YtjmdfmafnenjnaaProg.lean LOADS. Nothing in Lean hashes anything: it is a label: what it is worth is what the hold of that sum in a sandbox is worth. -/
noncomputable def Try.pinned : Pinned := { name := "ytjmdfmafnenjnaa", sum := "e0d7f799ca4c2ae25a7c677280ed9ba7032eca4ef1567bff8db5812221252fff", checked := Try.checked }
namespace Rows
def none {H : Type} : Left H := { results := [], args := [] }

/-- 'callboardlaw06.LeafPlace': WHATEVER THE INPUT: true; the input reads as it did. -/
def leafPlaceSpec : ChangeSpec := { name := "leafPlace", fn := fun _ => fun
  | [d1, d2] => { results := [.lit (.bool true)], args := [d1, d2] }
  | _ => none }
def leafPlaceRow : OpenClaim := { program := "ytjmdfmafnenjnaa", sum := "e0d7f799ca4c2ae25a7c677280ed9ba7032eca4ef1567bff8db5812221252fff", func := "callboard/callboardlaw06.LeafPlace", spec := "leafPlace", inPlace := ["internal/bytealg.abigen_runtime_cmpstring"], unfollowed := true, recurses := true, apart := false }
def LeafPlaceSaid : Prop := leafPlaceRow.holds Try.pinned (OpenSpec.ofChange leafPlaceSpec)

/-- ITS FALSE NEIGHBOUR: 'it returns false'. Refute it at one input. -/
def leafPlaceWrong : ChangeSpec := { name := "leafPlace", fn := fun _ => fun
  | [d1, d2] => { results := [.lit (.bool false)], args := [d1, d2] }
  | _ => none }
def LeafPlaceWrongFalsely : Prop := leafPlaceRow.holds Try.pinned (OpenSpec.ofChange leafPlaceWrong)

/-- 'callboardlaw04.PageRoots': WHATEVER THE INPUT: true; the input reads as it did. -/
def pageRootsSpec : ChangeSpec := { name := "pageRoots", fn := fun _ => fun
  | [d1, d2, d3] => { results := [.lit (.bool true)], args := [d1, d2, d3] }
  | _ => none }
def pageRootsRow : OpenClaim := { program := "ytjmdfmafnenjnaa", sum := "e0d7f799ca4c2ae25a7c677280ed9ba7032eca4ef1567bff8db5812221252fff", func := "callboard/callboardlaw04.PageRoots", spec := "pageRoots", unfollowed := true, recurses := true, apart := false }
def PageRootsSaid : Prop := pageRootsRow.holds Try.pinned (OpenSpec.ofChange pageRootsSpec)

/-- ITS FALSE NEIGHBOUR: 'it returns false'. Refute it at one input. -/
def pageRootsWrong : ChangeSpec := { name := "pageRoots", fn := fun _ => fun
  | [d1, d2, d3] => { results := [.lit (.bool false)], args := [d1, d2, d3] }
  | _ => none }
def PageRootsWrongFalsely : Prop := pageRootsRow.holds Try.pinned (OpenSpec.ofChange pageRootsWrong)

/-- 'callboardlaw06.LeafBack': WHATEVER THE INPUT: true; the input reads as it did. -/
def leafBackSpec : ChangeSpec := { name := "leafBack", fn := fun _ => fun
  | [d1, d2] => { results := [.lit (.bool true)], args := [d1, d2] }
  | _ => none }
def leafBackRow : OpenClaim := { program := "ytjmdfmafnenjnaa", sum := "e0d7f799ca4c2ae25a7c677280ed9ba7032eca4ef1567bff8db5812221252fff", func := "callboard/callboardlaw06.LeafBack", spec := "leafBack", inPlace := ["internal/bytealg.abigen_runtime_cmpstring"], unfollowed := true, recurses := true, apart := false }
def LeafBackSaid : Prop := leafBackRow.holds Try.pinned (OpenSpec.ofChange leafBackSpec)

/-- ITS FALSE NEIGHBOUR: 'it returns false'. Refute it at one input. -/
def leafBackWrong : ChangeSpec := { name := "leafBack", fn := fun _ => fun
  | [d1, d2] => { results := [.lit (.bool false)], args := [d1, d2] }
  | _ => none }
def LeafBackWrongFalsely : Prop := leafBackRow.holds Try.pinned (OpenSpec.ofChange leafBackWrong)

/-- 'callboardlaw04.PageNames': WHATEVER THE INPUT: true; the input reads as it did. -/
def pageNamesSpec : ChangeSpec := { name := "pageNames", fn := fun _ => fun
  | [] => { results := [.lit (.bool true)], args := [] }
  | _ => none }
def pageNamesRow : OpenClaim := { program := "ytjmdfmafnenjnaa", sum := "e0d7f799ca4c2ae25a7c677280ed9ba7032eca4ef1567bff8db5812221252fff", func := "callboard/callboardlaw04.PageNames", spec := "pageNames", unfollowed := true, recurses := true, apart := false }
def PageNamesSaid : Prop := pageNamesRow.holds Try.pinned (OpenSpec.ofChange pageNamesSpec)

/-- ITS FALSE NEIGHBOUR: 'it returns false'. Refute it at one input. -/
def pageNamesWrong : ChangeSpec := { name := "pageNames", fn := fun _ => fun
  | [] => { results := [.lit (.bool false)], args := [] }
  | _ => none }
def PageNamesWrongFalsely : Prop := pageNamesRow.holds Try.pinned (OpenSpec.ofChange pageNamesWrong)

/-- 'callboardlaw06.LeafNames': WHATEVER THE INPUT: true; the input reads as it did. -/
def leafNamesSpec : ChangeSpec := { name := "leafNames", fn := fun _ => fun
  | [] => { results := [.lit (.bool true)], args := [] }
  | _ => none }
def leafNamesRow : OpenClaim := { program := "ytjmdfmafnenjnaa", sum := "e0d7f799ca4c2ae25a7c677280ed9ba7032eca4ef1567bff8db5812221252fff", func := "callboard/callboardlaw06.LeafNames", spec := "leafNames", inPlace := ["internal/bytealg.abigen_runtime_cmpstring"], unfollowed := true, recurses := true, apart := false }
def LeafNamesSaid : Prop := leafNamesRow.holds Try.pinned (OpenSpec.ofChange leafNamesSpec)

/-- ITS FALSE NEIGHBOUR: 'it returns false'. Refute it at one input. -/
def leafNamesWrong : ChangeSpec := { name := "leafNames", fn := fun _ => fun
  | [] => { results := [.lit (.bool false)], args := [] }
  | _ => none }
def LeafNamesWrongFalsely : Prop := leafNamesRow.holds Try.pinned (OpenSpec.ofChange leafNamesWrong)

/-- 'callboardlaw06.LeafTells': WHATEVER THE INPUT: true; the input reads as it did. -/
def leafTellsSpec : ChangeSpec := { name := "leafTells", fn := fun _ => fun
  | [d1, d2, d3] => { results := [.lit (.bool true)], args := [d1, d2, d3] }
  | _ => none }
def leafTellsRow : OpenClaim := { program := "ytjmdfmafnenjnaa", sum := "e0d7f799ca4c2ae25a7c677280ed9ba7032eca4ef1567bff8db5812221252fff", func := "callboard/callboardlaw06.LeafTells", spec := "leafTells", inPlace := ["internal/bytealg.abigen_runtime_cmpstring"], unfollowed := true, recurses := true, apart := false }
def LeafTellsSaid : Prop := leafTellsRow.holds Try.pinned (OpenSpec.ofChange leafTellsSpec)

/-- ITS FALSE NEIGHBOUR: 'it returns false'. Refute it at one input. -/
def leafTellsWrong : ChangeSpec := { name := "leafTells", fn := fun _ => fun
  | [d1, d2, d3] => { results := [.lit (.bool false)], args := [d1, d2, d3] }
  | _ => none }
def LeafTellsWrongFalsely : Prop := leafTellsRow.holds Try.pinned (OpenSpec.ofChange leafTellsWrong)

/-- 'callboardlaw06.LeafKeys': WHATEVER THE INPUT: true; the input reads as it did. -/
def leafKeysSpec : ChangeSpec := { name := "leafKeys", fn := fun _ => fun
  | [d1, d2, d3] => { results := [.lit (.bool true)], args := [d1, d2, d3] }
  | _ => none }
def leafKeysRow : OpenClaim := { program := "ytjmdfmafnenjnaa", sum := "e0d7f799ca4c2ae25a7c677280ed9ba7032eca4ef1567bff8db5812221252fff", func := "callboard/callboardlaw06.LeafKeys", spec := "leafKeys", inPlace := ["internal/bytealg.abigen_runtime_cmpstring", "slices.overlaps[callboard/leaf.Entry]"], unfollowed := true, recurses := true, apart := false }
def LeafKeysSaid : Prop := leafKeysRow.holds Try.pinned (OpenSpec.ofChange leafKeysSpec)

/-- ITS FALSE NEIGHBOUR: 'it returns false'. Refute it at one input. -/
def leafKeysWrong : ChangeSpec := { name := "leafKeys", fn := fun _ => fun
  | [d1, d2, d3] => { results := [.lit (.bool false)], args := [d1, d2, d3] }
  | _ => none }
def LeafKeysWrongFalsely : Prop := leafKeysRow.holds Try.pinned (OpenSpec.ofChange leafKeysWrong)

/-- 'callboardlaw06.LeafSplits': WHATEVER THE INPUT: true; the input reads as it did. -/
def leafSplitsSpec : ChangeSpec := { name := "leafSplits", fn := fun _ => fun
  | [d1, d2, d3] => { results := [.lit (.bool true)], args := [d1, d2, d3] }
  | _ => none }
def leafSplitsRow : OpenClaim := { program := "ytjmdfmafnenjnaa", sum := "e0d7f799ca4c2ae25a7c677280ed9ba7032eca4ef1567bff8db5812221252fff", func := "callboard/callboardlaw06.LeafSplits", spec := "leafSplits", inPlace := ["internal/bytealg.abigen_runtime_cmpstring", "slices.overlaps[callboard/leaf.Entry]"], unfollowed := true, recurses := true, apart := false }
def LeafSplitsSaid : Prop := leafSplitsRow.holds Try.pinned (OpenSpec.ofChange leafSplitsSpec)

/-- ITS FALSE NEIGHBOUR: 'it returns false'. Refute it at one input. -/
def leafSplitsWrong : ChangeSpec := { name := "leafSplits", fn := fun _ => fun
  | [d1, d2, d3] => { results := [.lit (.bool false)], args := [d1, d2, d3] }
  | _ => none }
def LeafSplitsWrongFalsely : Prop := leafSplitsRow.holds Try.pinned (OpenSpec.ofChange leafSplitsWrong)

/-- 'callboardlaw06.LeafPuts': WHATEVER THE INPUT: true; the input reads as it did. -/
def leafPutsSpec : ChangeSpec := { name := "leafPuts", fn := fun _ => fun
  | [d1, d2, d3, d4] => { results := [.lit (.bool true)], args := [d1, d2, d3, d4] }
  | _ => none }
def leafPutsRow : OpenClaim := { program := "ytjmdfmafnenjnaa", sum := "e0d7f799ca4c2ae25a7c677280ed9ba7032eca4ef1567bff8db5812221252fff", func := "callboard/callboardlaw06.LeafPuts", spec := "leafPuts", inPlace := ["internal/bytealg.abigen_runtime_cmpstring", "slices.overlaps[callboard/leaf.Entry]"], unfollowed := true, recurses := true, apart := false }
def LeafPutsSaid : Prop := leafPutsRow.holds Try.pinned (OpenSpec.ofChange leafPutsSpec)

/-- ITS FALSE NEIGHBOUR: 'it returns false'. Refute it at one input. -/
def leafPutsWrong : ChangeSpec := { name := "leafPuts", fn := fun _ => fun
  | [d1, d2, d3, d4] => { results := [.lit (.bool false)], args := [d1, d2, d3, d4] }
  | _ => none }
def LeafPutsWrongFalsely : Prop := leafPutsRow.holds Try.pinned (OpenSpec.ofChange leafPutsWrong)

/-- 'callboardlaw03.DiskReads': WHATEVER THE INPUT: true; the input reads as it did. -/
def diskReadsSpec : ChangeSpec := { name := "diskReads", fn := fun _ => fun
  | [d1, d2, d3] => { results := [.lit (.bool true)], args := [d1, d2, d3] }
  | _ => none }
def diskReadsRow : OpenClaim := { program := "ytjmdfmafnenjnaa", sum := "e0d7f799ca4c2ae25a7c677280ed9ba7032eca4ef1567bff8db5812221252fff", func := "callboard/callboardlaw03.DiskReads", spec := "diskReads", unfollowed := true, recurses := true, apart := false }
def DiskReadsSaid : Prop := diskReadsRow.holds Try.pinned (OpenSpec.ofChange diskReadsSpec)

/-- ITS FALSE NEIGHBOUR: 'it returns false'. Refute it at one input. -/
def diskReadsWrong : ChangeSpec := { name := "diskReads", fn := fun _ => fun
  | [d1, d2, d3] => { results := [.lit (.bool false)], args := [d1, d2, d3] }
  | _ => none }
def DiskReadsWrongFalsely : Prop := diskReadsRow.holds Try.pinned (OpenSpec.ofChange diskReadsWrong)

/-- 'callboardlaw03.DiskCrash': WHATEVER THE INPUT: true; the input reads as it did. -/
def diskCrashSpec : ChangeSpec := { name := "diskCrash", fn := fun _ => fun
  | [d1, d2, d3, d4, d5] => { results := [.lit (.bool true)], args := [d1, d2, d3, d4, d5] }
  | _ => none }
def diskCrashRow : OpenClaim := { program := "ytjmdfmafnenjnaa", sum := "e0d7f799ca4c2ae25a7c677280ed9ba7032eca4ef1567bff8db5812221252fff", func := "callboard/callboardlaw03.DiskCrash", spec := "diskCrash", inPlace := ["maps.clone"], unfollowed := true, recurses := true, apart := false }
def DiskCrashSaid : Prop := diskCrashRow.holds Try.pinned (OpenSpec.ofChange diskCrashSpec)

/-- ITS FALSE NEIGHBOUR: 'it returns false'. Refute it at one input. -/
def diskCrashWrong : ChangeSpec := { name := "diskCrash", fn := fun _ => fun
  | [d1, d2, d3, d4, d5] => { results := [.lit (.bool false)], args := [d1, d2, d3, d4, d5] }
  | _ => none }
def DiskCrashWrongFalsely : Prop := diskCrashRow.holds Try.pinned (OpenSpec.ofChange diskCrashWrong)

/-- 'callboardlaw03.DiskFlushed': WHATEVER THE INPUT: true; the input reads as it did. -/
def diskFlushedSpec : ChangeSpec := { name := "diskFlushed", fn := fun _ => fun
  | [d1, d2, d3, d4, d5, d6] => { results := [.lit (.bool true)], args := [d1, d2, d3, d4, d5, d6] }
  | _ => none }
def diskFlushedRow : OpenClaim := { program := "ytjmdfmafnenjnaa", sum := "e0d7f799ca4c2ae25a7c677280ed9ba7032eca4ef1567bff8db5812221252fff", func := "callboard/callboardlaw03.DiskFlushed", spec := "diskFlushed", inPlace := ["maps.clone"], unfollowed := true, recurses := true, apart := false }
def DiskFlushedSaid : Prop := diskFlushedRow.holds Try.pinned (OpenSpec.ofChange diskFlushedSpec)

/-- ITS FALSE NEIGHBOUR: 'it returns false'. Refute it at one input. -/
def diskFlushedWrong : ChangeSpec := { name := "diskFlushed", fn := fun _ => fun
  | [d1, d2, d3, d4, d5, d6] => { results := [.lit (.bool false)], args := [d1, d2, d3, d4, d5, d6] }
  | _ => none }
def DiskFlushedWrongFalsely : Prop := diskFlushedRow.holds Try.pinned (OpenSpec.ofChange diskFlushedWrong)

/-- 'callboardlaw03.DiskPlays': WHATEVER THE INPUT: true; the input reads as it did. -/
def diskPlaysSpec : ChangeSpec := { name := "diskPlays", fn := fun _ => fun
  | [d1, d2] => { results := [.lit (.bool true)], args := [d1, d2] }
  | _ => none }
def diskPlaysRow : OpenClaim := { program := "ytjmdfmafnenjnaa", sum := "e0d7f799ca4c2ae25a7c677280ed9ba7032eca4ef1567bff8db5812221252fff", func := "callboard/callboardlaw03.DiskPlays", spec := "diskPlays", inPlace := ["maps.clone"], unfollowed := true, recurses := true, apart := false }
def DiskPlaysSaid : Prop := diskPlaysRow.holds Try.pinned (OpenSpec.ofChange diskPlaysSpec)

/-- ITS FALSE NEIGHBOUR: 'it returns false'. Refute it at one input. -/
def diskPlaysWrong : ChangeSpec := { name := "diskPlays", fn := fun _ => fun
  | [d1, d2] => { results := [.lit (.bool false)], args := [d1, d2] }
  | _ => none }
def DiskPlaysWrongFalsely : Prop := diskPlaysRow.holds Try.pinned (OpenSpec.ofChange diskPlaysWrong)

/-- 'callboardlaw03.DiskDead': WHATEVER THE INPUT: true; the input reads as it did. -/
def diskDeadSpec : ChangeSpec := { name := "diskDead", fn := fun _ => fun
  | [d1, d2, d3] => { results := [.lit (.bool true)], args := [d1, d2, d3] }
  | _ => none }
def diskDeadRow : OpenClaim := { program := "ytjmdfmafnenjnaa", sum := "e0d7f799ca4c2ae25a7c677280ed9ba7032eca4ef1567bff8db5812221252fff", func := "callboard/callboardlaw03.DiskDead", spec := "diskDead", inPlace := ["maps.clone"], unfollowed := true, recurses := true, apart := false }
def DiskDeadSaid : Prop := diskDeadRow.holds Try.pinned (OpenSpec.ofChange diskDeadSpec)

/-- ITS FALSE NEIGHBOUR: 'it returns false'. Refute it at one input. -/
def diskDeadWrong : ChangeSpec := { name := "diskDead", fn := fun _ => fun
  | [d1, d2, d3] => { results := [.lit (.bool false)], args := [d1, d2, d3] }
  | _ => none }
def DiskDeadWrongFalsely : Prop := diskDeadRow.holds Try.pinned (OpenSpec.ofChange diskDeadWrong)

/-- 'callboardlaw03.DiskNames': WHATEVER THE INPUT: true; the input reads as it did. -/
def diskNamesSpec : ChangeSpec := { name := "diskNames", fn := fun _ => fun
  | [] => { results := [.lit (.bool true)], args := [] }
  | _ => none }
def diskNamesRow : OpenClaim := { program := "ytjmdfmafnenjnaa", sum := "e0d7f799ca4c2ae25a7c677280ed9ba7032eca4ef1567bff8db5812221252fff", func := "callboard/callboardlaw03.DiskNames", spec := "diskNames", inPlace := ["maps.clone"], unfollowed := true, recurses := true, apart := false }
def DiskNamesSaid : Prop := diskNamesRow.holds Try.pinned (OpenSpec.ofChange diskNamesSpec)

/-- ITS FALSE NEIGHBOUR: 'it returns false'. Refute it at one input. -/
def diskNamesWrong : ChangeSpec := { name := "diskNames", fn := fun _ => fun
  | [] => { results := [.lit (.bool false)], args := [] }
  | _ => none }
def DiskNamesWrongFalsely : Prop := diskNamesRow.holds Try.pinned (OpenSpec.ofChange diskNamesWrong)

/-- 'callboardlaw04.PageBack': WHATEVER THE INPUT: true; the input reads as it did. -/
def pageBackSpec : ChangeSpec := { name := "pageBack", fn := fun _ => fun
  | [d1, d2, d3] => { results := [.lit (.bool true)], args := [d1, d2, d3] }
  | _ => none }
def pageBackRow : OpenClaim := { program := "ytjmdfmafnenjnaa", sum := "e0d7f799ca4c2ae25a7c677280ed9ba7032eca4ef1567bff8db5812221252fff", func := "callboard/callboardlaw04.PageBack", spec := "pageBack", unfollowed := true, recurses := true, apart := false }
def PageBackSaid : Prop := pageBackRow.holds Try.pinned (OpenSpec.ofChange pageBackSpec)

/-- ITS FALSE NEIGHBOUR: 'it returns false'. Refute it at one input. -/
def pageBackWrong : ChangeSpec := { name := "pageBack", fn := fun _ => fun
  | [d1, d2, d3] => { results := [.lit (.bool false)], args := [d1, d2, d3] }
  | _ => none }
def PageBackWrongFalsely : Prop := pageBackRow.holds Try.pinned (OpenSpec.ofChange pageBackWrong)

/-- 'callboardlaw04.PageTorn': WHATEVER THE INPUT: true; the input reads as it did. -/
def pageTornSpec : ChangeSpec := { name := "pageTorn", fn := fun _ => fun
  | [d1, d2, d3, d4, d5, d6, d7] => { results := [.lit (.bool true)], args := [d1, d2, d3, d4, d5, d6, d7] }
  | _ => none }
def pageTornRow : OpenClaim := { program := "ytjmdfmafnenjnaa", sum := "e0d7f799ca4c2ae25a7c677280ed9ba7032eca4ef1567bff8db5812221252fff", func := "callboard/callboardlaw04.PageTorn", spec := "pageTorn", unfollowed := true, recurses := true, apart := false }
def PageTornSaid : Prop := pageTornRow.holds Try.pinned (OpenSpec.ofChange pageTornSpec)

/-- ITS FALSE NEIGHBOUR: 'it returns false'. Refute it at one input. -/
def pageTornWrong : ChangeSpec := { name := "pageTorn", fn := fun _ => fun
  | [d1, d2, d3, d4, d5, d6, d7] => { results := [.lit (.bool false)], args := [d1, d2, d3, d4, d5, d6, d7] }
  | _ => none }
def PageTornWrongFalsely : Prop := pageTornRow.holds Try.pinned (OpenSpec.ofChange pageTornWrong)

/-- 'callboardlaw04.PageMarked': WHATEVER THE INPUT: true; the input reads as it did. -/
def pageMarkedSpec : ChangeSpec := { name := "pageMarked", fn := fun _ => fun
  | [d1, d2, d3, d4, d5] => { results := [.lit (.bool true)], args := [d1, d2, d3, d4, d5] }
  | _ => none }
def pageMarkedRow : OpenClaim := { program := "ytjmdfmafnenjnaa", sum := "e0d7f799ca4c2ae25a7c677280ed9ba7032eca4ef1567bff8db5812221252fff", func := "callboard/callboardlaw04.PageMarked", spec := "pageMarked", unfollowed := true, recurses := true, apart := false }
def PageMarkedSaid : Prop := pageMarkedRow.holds Try.pinned (OpenSpec.ofChange pageMarkedSpec)

/-- ITS FALSE NEIGHBOUR: 'it returns false'. Refute it at one input. -/
def pageMarkedWrong : ChangeSpec := { name := "pageMarked", fn := fun _ => fun
  | [d1, d2, d3, d4, d5] => { results := [.lit (.bool false)], args := [d1, d2, d3, d4, d5] }
  | _ => none }
def PageMarkedWrongFalsely : Prop := pageMarkedRow.holds Try.pinned (OpenSpec.ofChange pageMarkedWrong)

/-- 'callboardlaw04.PagePlays': WHATEVER THE INPUT: true; the input reads as it did. -/
def pagePlaysSpec : ChangeSpec := { name := "pagePlays", fn := fun _ => fun
  | [d1, d2] => { results := [.lit (.bool true)], args := [d1, d2] }
  | _ => none }
def pagePlaysRow : OpenClaim := { program := "ytjmdfmafnenjnaa", sum := "e0d7f799ca4c2ae25a7c677280ed9ba7032eca4ef1567bff8db5812221252fff", func := "callboard/callboardlaw04.PagePlays", spec := "pagePlays", unfollowed := true, recurses := true, apart := false }
def PagePlaysSaid : Prop := pagePlaysRow.holds Try.pinned (OpenSpec.ofChange pagePlaysSpec)

/-- ITS FALSE NEIGHBOUR: 'it returns false'. Refute it at one input. -/
def pagePlaysWrong : ChangeSpec := { name := "pagePlays", fn := fun _ => fun
  | [d1, d2] => { results := [.lit (.bool false)], args := [d1, d2] }
  | _ => none }
def PagePlaysWrongFalsely : Prop := pagePlaysRow.holds Try.pinned (OpenSpec.ofChange pagePlaysWrong)

/- THE SECOND FORM. 'bulk': how many values and letters a reading holds, each counted each time it is reached (what is shared counts as often as it is met; a slice's spare places count too). A statement '..UptoSaid' is the law's where the arguments, and the package variables that the reading takes, are together of bulk at most 1048576: NARROWER than '..Said'. Prove '..Said' where nothing that the law and all that it calls make is longer than what came in: it says more and counts as full. Else prove '..UptoSaid'. A law counts once. -/
mutual
def uptoBulk {H : Type} : DataW H → Nat
  | .lit (.string bytes) => bytes.length + 1
  | .lit _ => 1
  | .nil => 1
  | .ptr d => uptoBulk d + 1
  | .slice elems spare => uptoBulkAll elems + uptoBulkAll spare + 1
  | .agg parts => uptoBulkAll parts + 1
  | .iface _ d => uptoBulk d + 1
  | .map entries => uptoBulkEntries entries + 1
  | .held _ => 1
def uptoBulkAll {H : Type} : List (DataW H) → Nat
  | [] => 0
  | d :: r => uptoBulk d + uptoBulkAll r
def uptoBulkEntries {H : Type} : List (Lit × DataW H) → Nat
  | [] => 0
  | x :: r => uptoBulkEntry x + uptoBulkEntries r
def uptoBulkEntry {H : Type} : Lit × DataW H → Nat
  | (.string bytes, d) => bytes.length + uptoBulk d + 1
  | (_, d) => uptoBulk d + 1
 end
def uptoSmall : (H : Type) → List (DataW H) → Bool := fun _ ds => decide (uptoBulkAll ds ≤ 1048576)
def OpenSpec.upto (s : _root_.Go.ChangeSpec) : _root_.Go.OpenSpec := { _root_.Go.OpenSpec.ofChange s with cond := some uptoSmall }

/-- 'callboardlaw06.LeafPlace', WHERE WHAT IT READS IS OF BULK AT MOST 1048576: true; the input reads as it did. -/
def leafPlaceUptoRow : OpenClaim := { program := "ytjmdfmafnenjnaa", sum := "e0d7f799ca4c2ae25a7c677280ed9ba7032eca4ef1567bff8db5812221252fff", func := "callboard/callboardlaw06.LeafPlace", spec := "leafPlace", inPlace := ["internal/bytealg.abigen_runtime_cmpstring"], unfollowed := true, recurses := true, apart := false, narrowed := true }
def LeafPlaceUptoSaid : Prop := leafPlaceUptoRow.holds Try.pinned (OpenSpec.upto leafPlaceSpec)

/-- 'callboardlaw04.PageRoots', WHERE WHAT IT READS IS OF BULK AT MOST 1048576: true; the input reads as it did. -/
def pageRootsUptoRow : OpenClaim := { program := "ytjmdfmafnenjnaa", sum := "e0d7f799ca4c2ae25a7c677280ed9ba7032eca4ef1567bff8db5812221252fff", func := "callboard/callboardlaw04.PageRoots", spec := "pageRoots", unfollowed := true, recurses := true, apart := false, narrowed := true }
def PageRootsUptoSaid : Prop := pageRootsUptoRow.holds Try.pinned (OpenSpec.upto pageRootsSpec)

/-- 'callboardlaw06.LeafBack', WHERE WHAT IT READS IS OF BULK AT MOST 1048576: true; the input reads as it did. -/
def leafBackUptoRow : OpenClaim := { program := "ytjmdfmafnenjnaa", sum := "e0d7f799ca4c2ae25a7c677280ed9ba7032eca4ef1567bff8db5812221252fff", func := "callboard/callboardlaw06.LeafBack", spec := "leafBack", inPlace := ["internal/bytealg.abigen_runtime_cmpstring"], unfollowed := true, recurses := true, apart := false, narrowed := true }
def LeafBackUptoSaid : Prop := leafBackUptoRow.holds Try.pinned (OpenSpec.upto leafBackSpec)

/-- 'callboardlaw04.PageNames', WHERE WHAT IT READS IS OF BULK AT MOST 1048576: true; the input reads as it did. -/
def pageNamesUptoRow : OpenClaim := { program := "ytjmdfmafnenjnaa", sum := "e0d7f799ca4c2ae25a7c677280ed9ba7032eca4ef1567bff8db5812221252fff", func := "callboard/callboardlaw04.PageNames", spec := "pageNames", unfollowed := true, recurses := true, apart := false, narrowed := true }
def PageNamesUptoSaid : Prop := pageNamesUptoRow.holds Try.pinned (OpenSpec.upto pageNamesSpec)

/-- 'callboardlaw06.LeafNames', WHERE WHAT IT READS IS OF BULK AT MOST 1048576: true; the input reads as it did. -/
def leafNamesUptoRow : OpenClaim := { program := "ytjmdfmafnenjnaa", sum := "e0d7f799ca4c2ae25a7c677280ed9ba7032eca4ef1567bff8db5812221252fff", func := "callboard/callboardlaw06.LeafNames", spec := "leafNames", inPlace := ["internal/bytealg.abigen_runtime_cmpstring"], unfollowed := true, recurses := true, apart := false, narrowed := true }
def LeafNamesUptoSaid : Prop := leafNamesUptoRow.holds Try.pinned (OpenSpec.upto leafNamesSpec)

/-- 'callboardlaw06.LeafTells', WHERE WHAT IT READS IS OF BULK AT MOST 1048576: true; the input reads as it did. -/
def leafTellsUptoRow : OpenClaim := { program := "ytjmdfmafnenjnaa", sum := "e0d7f799ca4c2ae25a7c677280ed9ba7032eca4ef1567bff8db5812221252fff", func := "callboard/callboardlaw06.LeafTells", spec := "leafTells", inPlace := ["internal/bytealg.abigen_runtime_cmpstring"], unfollowed := true, recurses := true, apart := false, narrowed := true }
def LeafTellsUptoSaid : Prop := leafTellsUptoRow.holds Try.pinned (OpenSpec.upto leafTellsSpec)

/-- 'callboardlaw06.LeafKeys', WHERE WHAT IT READS IS OF BULK AT MOST 1048576: true; the input reads as it did. -/
def leafKeysUptoRow : OpenClaim := { program := "ytjmdfmafnenjnaa", sum := "e0d7f799ca4c2ae25a7c677280ed9ba7032eca4ef1567bff8db5812221252fff", func := "callboard/callboardlaw06.LeafKeys", spec := "leafKeys", inPlace := ["internal/bytealg.abigen_runtime_cmpstring", "slices.overlaps[callboard/leaf.Entry]"], unfollowed := true, recurses := true, apart := false, narrowed := true }
def LeafKeysUptoSaid : Prop := leafKeysUptoRow.holds Try.pinned (OpenSpec.upto leafKeysSpec)

/-- 'callboardlaw06.LeafSplits', WHERE WHAT IT READS IS OF BULK AT MOST 1048576: true; the input reads as it did. -/
def leafSplitsUptoRow : OpenClaim := { program := "ytjmdfmafnenjnaa", sum := "e0d7f799ca4c2ae25a7c677280ed9ba7032eca4ef1567bff8db5812221252fff", func := "callboard/callboardlaw06.LeafSplits", spec := "leafSplits", inPlace := ["internal/bytealg.abigen_runtime_cmpstring", "slices.overlaps[callboard/leaf.Entry]"], unfollowed := true, recurses := true, apart := false, narrowed := true }
def LeafSplitsUptoSaid : Prop := leafSplitsUptoRow.holds Try.pinned (OpenSpec.upto leafSplitsSpec)

/-- 'callboardlaw06.LeafPuts', WHERE WHAT IT READS IS OF BULK AT MOST 1048576: true; the input reads as it did. -/
def leafPutsUptoRow : OpenClaim := { program := "ytjmdfmafnenjnaa", sum := "e0d7f799ca4c2ae25a7c677280ed9ba7032eca4ef1567bff8db5812221252fff", func := "callboard/callboardlaw06.LeafPuts", spec := "leafPuts", inPlace := ["internal/bytealg.abigen_runtime_cmpstring", "slices.overlaps[callboard/leaf.Entry]"], unfollowed := true, recurses := true, apart := false, narrowed := true }
def LeafPutsUptoSaid : Prop := leafPutsUptoRow.holds Try.pinned (OpenSpec.upto leafPutsSpec)

/-- 'callboardlaw03.DiskReads', WHERE WHAT IT READS IS OF BULK AT MOST 1048576: true; the input reads as it did. -/
def diskReadsUptoRow : OpenClaim := { program := "ytjmdfmafnenjnaa", sum := "e0d7f799ca4c2ae25a7c677280ed9ba7032eca4ef1567bff8db5812221252fff", func := "callboard/callboardlaw03.DiskReads", spec := "diskReads", unfollowed := true, recurses := true, apart := false, narrowed := true }
def DiskReadsUptoSaid : Prop := diskReadsUptoRow.holds Try.pinned (OpenSpec.upto diskReadsSpec)

/-- 'callboardlaw03.DiskCrash', WHERE WHAT IT READS IS OF BULK AT MOST 1048576: true; the input reads as it did. -/
def diskCrashUptoRow : OpenClaim := { program := "ytjmdfmafnenjnaa", sum := "e0d7f799ca4c2ae25a7c677280ed9ba7032eca4ef1567bff8db5812221252fff", func := "callboard/callboardlaw03.DiskCrash", spec := "diskCrash", inPlace := ["maps.clone"], unfollowed := true, recurses := true, apart := false, narrowed := true }
def DiskCrashUptoSaid : Prop := diskCrashUptoRow.holds Try.pinned (OpenSpec.upto diskCrashSpec)

/-- 'callboardlaw03.DiskFlushed', WHERE WHAT IT READS IS OF BULK AT MOST 1048576: true; the input reads as it did. -/
def diskFlushedUptoRow : OpenClaim := { program := "ytjmdfmafnenjnaa", sum := "e0d7f799ca4c2ae25a7c677280ed9ba7032eca4ef1567bff8db5812221252fff", func := "callboard/callboardlaw03.DiskFlushed", spec := "diskFlushed", inPlace := ["maps.clone"], unfollowed := true, recurses := true, apart := false, narrowed := true }
def DiskFlushedUptoSaid : Prop := diskFlushedUptoRow.holds Try.pinned (OpenSpec.upto diskFlushedSpec)

/-- 'callboardlaw03.DiskPlays', WHERE WHAT IT READS IS OF BULK AT MOST 1048576: true; the input reads as it did. -/
def diskPlaysUptoRow : OpenClaim := { program := "ytjmdfmafnenjnaa", sum := "e0d7f799ca4c2ae25a7c677280ed9ba7032eca4ef1567bff8db5812221252fff", func := "callboard/callboardlaw03.DiskPlays", spec := "diskPlays", inPlace := ["maps.clone"], unfollowed := true, recurses := true, apart := false, narrowed := true }
def DiskPlaysUptoSaid : Prop := diskPlaysUptoRow.holds Try.pinned (OpenSpec.upto diskPlaysSpec)

/-- 'callboardlaw03.DiskDead', WHERE WHAT IT READS IS OF BULK AT MOST 1048576: true; the input reads as it did. -/
def diskDeadUptoRow : OpenClaim := { program := "ytjmdfmafnenjnaa", sum := "e0d7f799ca4c2ae25a7c677280ed9ba7032eca4ef1567bff8db5812221252fff", func := "callboard/callboardlaw03.DiskDead", spec := "diskDead", inPlace := ["maps.clone"], unfollowed := true, recurses := true, apart := false, narrowed := true }
def DiskDeadUptoSaid : Prop := diskDeadUptoRow.holds Try.pinned (OpenSpec.upto diskDeadSpec)

/-- 'callboardlaw03.DiskNames', WHERE WHAT IT READS IS OF BULK AT MOST 1048576: true; the input reads as it did. -/
def diskNamesUptoRow : OpenClaim := { program := "ytjmdfmafnenjnaa", sum := "e0d7f799ca4c2ae25a7c677280ed9ba7032eca4ef1567bff8db5812221252fff", func := "callboard/callboardlaw03.DiskNames", spec := "diskNames", inPlace := ["maps.clone"], unfollowed := true, recurses := true, apart := false, narrowed := true }
def DiskNamesUptoSaid : Prop := diskNamesUptoRow.holds Try.pinned (OpenSpec.upto diskNamesSpec)

/-- 'callboardlaw04.PageBack', WHERE WHAT IT READS IS OF BULK AT MOST 1048576: true; the input reads as it did. -/
def pageBackUptoRow : OpenClaim := { program := "ytjmdfmafnenjnaa", sum := "e0d7f799ca4c2ae25a7c677280ed9ba7032eca4ef1567bff8db5812221252fff", func := "callboard/callboardlaw04.PageBack", spec := "pageBack", unfollowed := true, recurses := true, apart := false, narrowed := true }
def PageBackUptoSaid : Prop := pageBackUptoRow.holds Try.pinned (OpenSpec.upto pageBackSpec)

/-- 'callboardlaw04.PageTorn', WHERE WHAT IT READS IS OF BULK AT MOST 1048576: true; the input reads as it did. -/
def pageTornUptoRow : OpenClaim := { program := "ytjmdfmafnenjnaa", sum := "e0d7f799ca4c2ae25a7c677280ed9ba7032eca4ef1567bff8db5812221252fff", func := "callboard/callboardlaw04.PageTorn", spec := "pageTorn", unfollowed := true, recurses := true, apart := false, narrowed := true }
def PageTornUptoSaid : Prop := pageTornUptoRow.holds Try.pinned (OpenSpec.upto pageTornSpec)

/-- 'callboardlaw04.PageMarked', WHERE WHAT IT READS IS OF BULK AT MOST 1048576: true; the input reads as it did. -/
def pageMarkedUptoRow : OpenClaim := { program := "ytjmdfmafnenjnaa", sum := "e0d7f799ca4c2ae25a7c677280ed9ba7032eca4ef1567bff8db5812221252fff", func := "callboard/callboardlaw04.PageMarked", spec := "pageMarked", unfollowed := true, recurses := true, apart := false, narrowed := true }
def PageMarkedUptoSaid : Prop := pageMarkedUptoRow.holds Try.pinned (OpenSpec.upto pageMarkedSpec)

/-- 'callboardlaw04.PagePlays', WHERE WHAT IT READS IS OF BULK AT MOST 1048576: true; the input reads as it did. -/
def pagePlaysUptoRow : OpenClaim := { program := "ytjmdfmafnenjnaa", sum := "e0d7f799ca4c2ae25a7c677280ed9ba7032eca4ef1567bff8db5812221252fff", func := "callboard/callboardlaw04.PagePlays", spec := "pagePlays", unfollowed := true, recurses := true, apart := false, narrowed := true }
def PagePlaysUptoSaid : Prop := pagePlaysUptoRow.holds Try.pinned (OpenSpec.upto pagePlaysSpec)

end Rows
end Go.Proofs.Ytjmdfmafnenjnaa
