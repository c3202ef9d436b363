/-
  NARROWER THAN 'FOR EVERY INPUT', by the rows' own cells (each row's printed sentence says how): ArenaSound: laid · ArenaNames: laid · ArenaTrees: laid · ArenaNumbers: laid · CancelSound: laid · RouteOutward: laid · RouteScopes: laid.
  DERIVED. THE GIVEN ROWS OF THIS SEAT. 7 by the template 'for every input the law returns true; each argument reads behind the call as it read before'; 0 by the template 'total and deterministic' (their statements: YtgfngdhelbfmdaaDoorTotals.lean).
  GIVEN WITH THE SEED: the statements are not yours to turn. If you find one false, say at which input.
  Laid BY PROGRAM, IN A SANDBOX (cutbox-rows.mjs): the forced cells as the released guide's own fill.sh prints them over the translation 7124399d068843f8… (all of the seat's roots in one cut). By AI agents, Wed Nov 11 2026. No macro, syntax, notation, axiom, sorry.
-/
import Derived.Test.YtgfngdhelbfmdaaDoorChecked
import GoSem.Claim
import GoSem.ClaimJoined
import GoSem.ClaimMapViews
import Derived.JoinedTies
import Derived.KernelRfl
namespace Go.Proofs.YtgfngdhelbfmdaaDoor
/- THE CELL 'sum', in the pinned program and in every row, IS THE sha256 OF THE DUMP (.gsa) THAT YtgfngdhelbfmdaaDoorProg.lean LOADS. Nothing in Lean hashes anything: it is a label: what it is worth is what the hold of that sum in a sandbox is worth. -/
noncomputable def Tryd.pinned : Pinned := { name := "ytgfngdhelbfmdaadoor", sum := "7124399d068843f8b48a44b86fb5cb3d7e73b57bf5de422b05ae112b6a2c8a53", checked := Tryd.checked }
namespace Rows
def none {H : Type} : Left H := { results := [], args := [] }

/- WHAT THE LISTED PACKAGE-LEVEL VARIABLES READ AS WHEN THE CALL BEGINS. Each datum BY PROGRAM (the guide's laid-datum.mjs) off the statement by which the dump's own 'gosem.cut.vars' lays the variable. In a bare row this is a premise. The card (YtgfngdhelbfmdaaDoorCards.lean) ties it to the program's text. -/
def laid_callboard_arena_kinds {H : Type} : DataW H := .map [(.int .u8 2, .slice [.lit (.int .u8 3)] []), (.int .u8 3, .slice [.lit (.int .u8 11), .lit (.int .u8 12), .lit (.int .u8 14)] []), (.int .u8 4, .slice [.lit (.int .u8 6), .lit (.int .u8 10)] []), (.int .u8 5, .slice [.lit (.int .u8 8), .lit (.int .u8 9)] []), (.int .u8 6, .slice [.lit (.int .u8 7), .lit (.int .u8 9), .lit (.int .u8 2)] [])]

/-- 'callboardlaw18.ArenaSound': WHATEVER THE INPUT: true; the input reads as it did. -/
def arenaSoundSpec : ChangeSpec := { name := "arenaSound", fn := fun _ => fun
  | [d1, d2, d3] => { results := [.lit (.bool true)], args := [d1, d2, d3] }
  | _ => none }
def arenaSoundRow : OpenClaim := { program := "ytgfngdhelbfmdaadoor", sum := "7124399d068843f8b48a44b86fb5cb3d7e73b57bf5de422b05ae112b6a2c8a53", func := "callboard/callboardlaw18.ArenaSound", spec := "arenaSound", unfollowed := true, recurses := true, named := ["callboard/arena.kinds"], apart := false, laid := [("callboard/arena.kinds", laid_callboard_arena_kinds)] }
def ArenaSoundSaid : Prop := arenaSoundRow.holds Tryd.pinned (OpenSpec.ofChange arenaSoundSpec)

/-- ITS FALSE NEIGHBOUR: 'it returns false'. Refute it at one input. -/
def arenaSoundWrong : ChangeSpec := { name := "arenaSound", fn := fun _ => fun
  | [d1, d2, d3] => { results := [.lit (.bool false)], args := [d1, d2, d3] }
  | _ => none }
def ArenaSoundWrongFalsely : Prop := arenaSoundRow.holds Tryd.pinned (OpenSpec.ofChange arenaSoundWrong)

/-- 'callboardlaw18.ArenaNames': WHATEVER THE INPUT: true; the input reads as it did. -/
def arenaNamesSpec : ChangeSpec := { name := "arenaNames", fn := fun _ => fun
  | [] => { results := [.lit (.bool true)], args := [] }
  | _ => none }
def arenaNamesRow : OpenClaim := { program := "ytgfngdhelbfmdaadoor", sum := "7124399d068843f8b48a44b86fb5cb3d7e73b57bf5de422b05ae112b6a2c8a53", func := "callboard/callboardlaw18.ArenaNames", spec := "arenaNames", unfollowed := true, recurses := true, named := ["callboard/arena.kinds"], apart := false, laid := [("callboard/arena.kinds", laid_callboard_arena_kinds)] }
def ArenaNamesSaid : Prop := arenaNamesRow.holds Tryd.pinned (OpenSpec.ofChange arenaNamesSpec)

/-- ITS FALSE NEIGHBOUR: 'it returns false'. Refute it at one input. -/
def arenaNamesWrong : ChangeSpec := { name := "arenaNames", fn := fun _ => fun
  | [] => { results := [.lit (.bool false)], args := [] }
  | _ => none }
def ArenaNamesWrongFalsely : Prop := arenaNamesRow.holds Tryd.pinned (OpenSpec.ofChange arenaNamesWrong)

/-- 'callboardlaw18.ArenaTrees': WHATEVER THE INPUT: true; the input reads as it did. -/
def arenaTreesSpec : ChangeSpec := { name := "arenaTrees", fn := fun _ => fun
  | [d1, d2] => { results := [.lit (.bool true)], args := [d1, d2] }
  | _ => none }
def arenaTreesRow : OpenClaim := { program := "ytgfngdhelbfmdaadoor", sum := "7124399d068843f8b48a44b86fb5cb3d7e73b57bf5de422b05ae112b6a2c8a53", func := "callboard/callboardlaw18.ArenaTrees", spec := "arenaTrees", unfollowed := true, recurses := true, named := ["callboard/arena.kinds"], apart := false, laid := [("callboard/arena.kinds", laid_callboard_arena_kinds)] }
def ArenaTreesSaid : Prop := arenaTreesRow.holds Tryd.pinned (OpenSpec.ofChange arenaTreesSpec)

/-- ITS FALSE NEIGHBOUR: 'it returns false'. Refute it at one input. -/
def arenaTreesWrong : ChangeSpec := { name := "arenaTrees", fn := fun _ => fun
  | [d1, d2] => { results := [.lit (.bool false)], args := [d1, d2] }
  | _ => none }
def ArenaTreesWrongFalsely : Prop := arenaTreesRow.holds Tryd.pinned (OpenSpec.ofChange arenaTreesWrong)

/-- 'callboardlaw18.ArenaNumbers': WHATEVER THE INPUT: true; the input reads as it did. -/
def arenaNumbersSpec : ChangeSpec := { name := "arenaNumbers", fn := fun _ => fun
  | [d1, d2, d3] => { results := [.lit (.bool true)], args := [d1, d2, d3] }
  | _ => none }
def arenaNumbersRow : OpenClaim := { program := "ytgfngdhelbfmdaadoor", sum := "7124399d068843f8b48a44b86fb5cb3d7e73b57bf5de422b05ae112b6a2c8a53", func := "callboard/callboardlaw18.ArenaNumbers", spec := "arenaNumbers", unfollowed := true, recurses := true, named := ["callboard/arena.kinds"], apart := false, laid := [("callboard/arena.kinds", laid_callboard_arena_kinds)] }
def ArenaNumbersSaid : Prop := arenaNumbersRow.holds Tryd.pinned (OpenSpec.ofChange arenaNumbersSpec)

/-- ITS FALSE NEIGHBOUR: 'it returns false'. Refute it at one input. -/
def arenaNumbersWrong : ChangeSpec := { name := "arenaNumbers", fn := fun _ => fun
  | [d1, d2, d3] => { results := [.lit (.bool false)], args := [d1, d2, d3] }
  | _ => none }
def ArenaNumbersWrongFalsely : Prop := arenaNumbersRow.holds Tryd.pinned (OpenSpec.ofChange arenaNumbersWrong)

/-- 'callboardlaw21.CancelSound': WHATEVER THE INPUT: true; the input reads as it did. -/
def cancelSoundSpec : ChangeSpec := { name := "cancelSound", fn := fun _ => fun
  | [d1, d2] => { results := [.lit (.bool true)], args := [d1, d2] }
  | _ => none }
def cancelSoundRow : OpenClaim := { program := "ytgfngdhelbfmdaadoor", sum := "7124399d068843f8b48a44b86fb5cb3d7e73b57bf5de422b05ae112b6a2c8a53", func := "callboard/callboardlaw21.CancelSound", spec := "cancelSound", unfollowed := true, recurses := true, named := ["callboard/arena.kinds"], apart := false, laid := [("callboard/arena.kinds", laid_callboard_arena_kinds)] }
def CancelSoundSaid : Prop := cancelSoundRow.holds Tryd.pinned (OpenSpec.ofChange cancelSoundSpec)

/-- ITS FALSE NEIGHBOUR: 'it returns false'. Refute it at one input. -/
def cancelSoundWrong : ChangeSpec := { name := "cancelSound", fn := fun _ => fun
  | [d1, d2] => { results := [.lit (.bool false)], args := [d1, d2] }
  | _ => none }
def CancelSoundWrongFalsely : Prop := cancelSoundRow.holds Tryd.pinned (OpenSpec.ofChange cancelSoundWrong)

/-- 'callboardlaw22.RouteOutward': WHATEVER THE INPUT: true; the input reads as it did. -/
def routeOutwardSpec : ChangeSpec := { name := "routeOutward", fn := fun _ => fun
  | [d1, d2, d3, d4] => { results := [.lit (.bool true)], args := [d1, d2, d3, d4] }
  | _ => none }
def routeOutwardRow : OpenClaim := { program := "ytgfngdhelbfmdaadoor", sum := "7124399d068843f8b48a44b86fb5cb3d7e73b57bf5de422b05ae112b6a2c8a53", func := "callboard/callboardlaw22.RouteOutward", spec := "routeOutward", unfollowed := true, recurses := true, named := ["callboard/arena.kinds"], apart := false, laid := [("callboard/arena.kinds", laid_callboard_arena_kinds)] }
def RouteOutwardSaid : Prop := routeOutwardRow.holds Tryd.pinned (OpenSpec.ofChange routeOutwardSpec)

/-- ITS FALSE NEIGHBOUR: 'it returns false'. Refute it at one input. -/
def routeOutwardWrong : ChangeSpec := { name := "routeOutward", fn := fun _ => fun
  | [d1, d2, d3, d4] => { results := [.lit (.bool false)], args := [d1, d2, d3, d4] }
  | _ => none }
def RouteOutwardWrongFalsely : Prop := routeOutwardRow.holds Tryd.pinned (OpenSpec.ofChange routeOutwardWrong)

/-- 'callboardlaw22.RouteScopes': WHATEVER THE INPUT: true; the input reads as it did. -/
def routeScopesSpec : ChangeSpec := { name := "routeScopes", fn := fun _ => fun
  | [d1, d2] => { results := [.lit (.bool true)], args := [d1, d2] }
  | _ => none }
def routeScopesRow : OpenClaim := { program := "ytgfngdhelbfmdaadoor", sum := "7124399d068843f8b48a44b86fb5cb3d7e73b57bf5de422b05ae112b6a2c8a53", func := "callboard/callboardlaw22.RouteScopes", spec := "routeScopes", unfollowed := true, recurses := true, named := ["callboard/arena.kinds"], apart := false, laid := [("callboard/arena.kinds", laid_callboard_arena_kinds)] }
def RouteScopesSaid : Prop := routeScopesRow.holds Tryd.pinned (OpenSpec.ofChange routeScopesSpec)

/-- ITS FALSE NEIGHBOUR: 'it returns false'. Refute it at one input. -/
def routeScopesWrong : ChangeSpec := { name := "routeScopes", fn := fun _ => fun
  | [d1, d2] => { results := [.lit (.bool false)], args := [d1, d2] }
  | _ => none }
def RouteScopesWrongFalsely : Prop := routeScopesRow.holds Tryd.pinned (OpenSpec.ofChange routeScopesWrong)

/- THE SECOND FORM. 'bulk': how many values and letters a reading holds, each counted each time it is reached (what is shared counts as often as it is met; a slice's spare places count too). A statement '..UptoSaid' is the law's where the arguments, and the package variables that the reading takes, are together of bulk at most 1048576: NARROWER than '..Said'. Prove '..Said' where nothing that the law and all that it calls make is longer than what came in: it says more and counts as full. Else prove '..UptoSaid'. A law counts once. -/
mutual
def uptoBulk {H : Type} : DataW H → Nat
  | .lit (.string bytes) => bytes.length + 1
  | .lit _ => 1
  | .nil => 1
  | .ptr d => uptoBulk d + 1
  | .slice elems spare => uptoBulkAll elems + uptoBulkAll spare + 1
  | .agg parts => uptoBulkAll parts + 1
  | .iface _ d => uptoBulk d + 1
  | .map entries => uptoBulkEntries entries + 1
  | .held _ => 1
def uptoBulkAll {H : Type} : List (DataW H) → Nat
  | [] => 0
  | d :: r => uptoBulk d + uptoBulkAll r
def uptoBulkEntries {H : Type} : List (Lit × DataW H) → Nat
  | [] => 0
  | x :: r => uptoBulkEntry x + uptoBulkEntries r
def uptoBulkEntry {H : Type} : Lit × DataW H → Nat
  | (.string bytes, d) => bytes.length + uptoBulk d + 1
  | (_, d) => uptoBulk d + 1
 end
def uptoSmall : (H : Type) → List (DataW H) → Bool := fun _ ds => decide (uptoBulkAll ds ≤ 1048576)
def OpenSpec.upto (s : _root_.Go.ChangeSpec) : _root_.Go.OpenSpec := { _root_.Go.OpenSpec.ofChange s with cond := some uptoSmall }

/-- 'callboardlaw18.ArenaSound', WHERE WHAT IT READS IS OF BULK AT MOST 1048576: true; the input reads as it did. -/
def arenaSoundUptoRow : OpenClaim := { program := "ytgfngdhelbfmdaadoor", sum := "7124399d068843f8b48a44b86fb5cb3d7e73b57bf5de422b05ae112b6a2c8a53", func := "callboard/callboardlaw18.ArenaSound", spec := "arenaSound", unfollowed := true, recurses := true, named := ["callboard/arena.kinds"], apart := false, laid := [("callboard/arena.kinds", laid_callboard_arena_kinds)], narrowed := true }
def ArenaSoundUptoSaid : Prop := arenaSoundUptoRow.holds Tryd.pinned (OpenSpec.upto arenaSoundSpec)

/-- 'callboardlaw18.ArenaNames', WHERE WHAT IT READS IS OF BULK AT MOST 1048576: true; the input reads as it did. -/
def arenaNamesUptoRow : OpenClaim := { program := "ytgfngdhelbfmdaadoor", sum := "7124399d068843f8b48a44b86fb5cb3d7e73b57bf5de422b05ae112b6a2c8a53", func := "callboard/callboardlaw18.ArenaNames", spec := "arenaNames", unfollowed := true, recurses := true, named := ["callboard/arena.kinds"], apart := false, laid := [("callboard/arena.kinds", laid_callboard_arena_kinds)], narrowed := true }
def ArenaNamesUptoSaid : Prop := arenaNamesUptoRow.holds Tryd.pinned (OpenSpec.upto arenaNamesSpec)

/-- 'callboardlaw18.ArenaTrees', WHERE WHAT IT READS IS OF BULK AT MOST 1048576: true; the input reads as it did. -/
def arenaTreesUptoRow : OpenClaim := { program := "ytgfngdhelbfmdaadoor", sum := "7124399d068843f8b48a44b86fb5cb3d7e73b57bf5de422b05ae112b6a2c8a53", func := "callboard/callboardlaw18.ArenaTrees", spec := "arenaTrees", unfollowed := true, recurses := true, named := ["callboard/arena.kinds"], apart := false, laid := [("callboard/arena.kinds", laid_callboard_arena_kinds)], narrowed := true }
def ArenaTreesUptoSaid : Prop := arenaTreesUptoRow.holds Tryd.pinned (OpenSpec.upto arenaTreesSpec)

/-- 'callboardlaw18.ArenaNumbers', WHERE WHAT IT READS IS OF BULK AT MOST 1048576: true; the input reads as it did. -/
def arenaNumbersUptoRow : OpenClaim := { program := "ytgfngdhelbfmdaadoor", sum := "7124399d068843f8b48a44b86fb5cb3d7e73b57bf5de422b05ae112b6a2c8a53", func := "callboard/callboardlaw18.ArenaNumbers", spec := "arenaNumbers", unfollowed := true, recurses := true, named := ["callboard/arena.kinds"], apart := false, laid := [("callboard/arena.kinds", laid_callboard_arena_kinds)], narrowed := true }
def ArenaNumbersUptoSaid : Prop := arenaNumbersUptoRow.holds Tryd.pinned (OpenSpec.upto arenaNumbersSpec)

/-- 'callboardlaw21.CancelSound', WHERE WHAT IT READS IS OF BULK AT MOST 1048576: true; the input reads as it did. -/
def cancelSoundUptoRow : OpenClaim := { program := "ytgfngdhelbfmdaadoor", sum := "7124399d068843f8b48a44b86fb5cb3d7e73b57bf5de422b05ae112b6a2c8a53", func := "callboard/callboardlaw21.CancelSound", spec := "cancelSound", unfollowed := true, recurses := true, named := ["callboard/arena.kinds"], apart := false, laid := [("callboard/arena.kinds", laid_callboard_arena_kinds)], narrowed := true }
def CancelSoundUptoSaid : Prop := cancelSoundUptoRow.holds Tryd.pinned (OpenSpec.upto cancelSoundSpec)

/-- 'callboardlaw22.RouteOutward', WHERE WHAT IT READS IS OF BULK AT MOST 1048576: true; the input reads as it did. -/
def routeOutwardUptoRow : OpenClaim := { program := "ytgfngdhelbfmdaadoor", sum := "7124399d068843f8b48a44b86fb5cb3d7e73b57bf5de422b05ae112b6a2c8a53", func := "callboard/callboardlaw22.RouteOutward", spec := "routeOutward", unfollowed := true, recurses := true, named := ["callboard/arena.kinds"], apart := false, laid := [("callboard/arena.kinds", laid_callboard_arena_kinds)], narrowed := true }
def RouteOutwardUptoSaid : Prop := routeOutwardUptoRow.holds Tryd.pinned (OpenSpec.upto routeOutwardSpec)

/-- 'callboardlaw22.RouteScopes', WHERE WHAT IT READS IS OF BULK AT MOST 1048576: true; the input reads as it did. -/
def routeScopesUptoRow : OpenClaim := { program := "ytgfngdhelbfmdaadoor", sum := "7124399d068843f8b48a44b86fb5cb3d7e73b57bf5de422b05ae112b6a2c8a53", func := "callboard/callboardlaw22.RouteScopes", spec := "routeScopes", unfollowed := true, recurses := true, named := ["callboard/arena.kinds"], apart := false, laid := [("callboard/arena.kinds", laid_callboard_arena_kinds)], narrowed := true }
def RouteScopesUptoSaid : Prop := routeScopesUptoRow.holds Tryd.pinned (OpenSpec.upto routeScopesSpec)

end Rows
end Go.Proofs.YtgfngdhelbfmdaaDoor
