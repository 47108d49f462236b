/-
  NARROWER THAN 'FOR EVERY INPUT', by the rows' own cells (each row's printed sentence says how): BroadSwept: laid · BroadMeets: laid · BroadInside: laid · BroadJoins: laid · BroadPairs: laid · BroadMoved: laid · BroadApart: laid.
  DERIVED. THE GIVEN ROWS OF THIS SEAT. 7 by the template 'for every input the law returns true; each argument reads behind the call as it read before'; 0 by the template 'total and deterministic' (their statements: YtjccikgdebgebaaGreatDoorTotals.lean).
  GIVEN WITH THE SEED: the statements are not yours to turn. If you find one false, say at which input.
  Laid BY PROGRAM, IN A SANDBOX (cutbox-rows.mjs): the forced cells as the released guide's own fill.sh prints them over the translation b2495edcc7c67ba6… (all of the seat's roots in one cut). By AI agents, Wed Nov 11 2026. No macro, syntax, notation, axiom, sorry.
-/
import Derived.Test.YtjccikgdebgebaaGreatDoorChecked
import GoSem.Claim
import GoSem.ClaimJoined
import GoSem.ClaimMapViews
import Derived.JoinedTies
import Derived.KernelRfl
namespace Go.Proofs.YtjccikgdebgebaaGreatDoor
/- THE CELL 'sum', in the pinned program and in every row, IS THE sha256 OF THE DUMP (.gsa) THAT YtjccikgdebgebaaGreatDoorProg.lean LOADS. Nothing in Lean hashes anything: it is a label: what it is worth is what the hold of that sum in a sandbox is worth. -/
noncomputable def Tryz.pinned : Pinned := { name := "ytjccikgdebgebaagreatdoor", sum := "b2495edcc7c67ba65b09c6abf987080e589b1166cf504485d17680cd12cab3c8", checked := Tryz.checked }
namespace Rows
def none {H : Type} : Left H := { results := [], args := [] }

/- WHAT THE LISTED PACKAGE-LEVEL VARIABLES READ AS WHEN THE CALL BEGINS. Each datum BY PROGRAM (the guide's laid-datum.mjs) off the statement by which the dump's own 'gosem.cut.vars' lays the variable. In a bare row this is a premise. The card (YtjccikgdebgebaaGreatDoorCards.lean) ties it to the program's text. -/
def laid_gantry_broad_axes {H : Type} : DataW H := .iface "func table" (.agg [.agg [.iface "func" (.lit (.string [103, 97, 110, 116, 114, 121, 47, 98, 114, 111, 97, 100, 46, 97, 120, 101, 115, 36, 49])), .iface "func" (.lit (.string [103, 97, 110, 116, 114, 121, 47, 98, 114, 111, 97, 100, 46, 97, 120, 101, 115, 36, 50]))], .agg [.iface "func" (.lit (.string [103, 97, 110, 116, 114, 121, 47, 98, 114, 111, 97, 100, 46, 97, 120, 101, 115, 36, 51])), .iface "func" (.lit (.string [103, 97, 110, 116, 114, 121, 47, 98, 114, 111, 97, 100, 46, 97, 120, 101, 115, 36, 52]))]])

/-- 'gantrylaw14.BroadSwept': WHATEVER THE INPUT: true; the input reads as it did. -/
def broadSweptSpec : ChangeSpec := { name := "broadSwept", fn := fun _ => fun
  | [d1, d2, d3] => { results := [.lit (.bool true)], args := [d1, d2, d3] }
  | _ => none }
def broadSweptRow : OpenClaim := { program := "ytjccikgdebgebaagreatdoor", sum := "b2495edcc7c67ba65b09c6abf987080e589b1166cf504485d17680cd12cab3c8", func := "gantry/gantrylaw14.BroadSwept", spec := "broadSwept", unfollowed := true, recurses := true, named := ["gantry/broad.axes"], apart := false, laid := [("gantry/broad.axes", laid_gantry_broad_axes)] }
def BroadSweptSaid : Prop := broadSweptRow.holds Tryz.pinned (OpenSpec.ofChange broadSweptSpec)

/-- ITS FALSE NEIGHBOUR: 'it returns false'. Refute it at one input. -/
def broadSweptWrong : ChangeSpec := { name := "broadSwept", fn := fun _ => fun
  | [d1, d2, d3] => { results := [.lit (.bool false)], args := [d1, d2, d3] }
  | _ => none }
def BroadSweptWrongFalsely : Prop := broadSweptRow.holds Tryz.pinned (OpenSpec.ofChange broadSweptWrong)

/-- 'gantrylaw14.BroadMeets': WHATEVER THE INPUT: true; the input reads as it did. -/
def broadMeetsSpec : ChangeSpec := { name := "broadMeets", fn := fun _ => fun
  | [d] => { results := [.lit (.bool true)], args := [d] }
  | _ => none }
def broadMeetsRow : OpenClaim := { program := "ytjccikgdebgebaagreatdoor", sum := "b2495edcc7c67ba65b09c6abf987080e589b1166cf504485d17680cd12cab3c8", func := "gantry/gantrylaw14.BroadMeets", spec := "broadMeets", unfollowed := true, recurses := true, named := ["gantry/broad.axes"], apart := false, laid := [("gantry/broad.axes", laid_gantry_broad_axes)] }
def BroadMeetsSaid : Prop := broadMeetsRow.holds Tryz.pinned (OpenSpec.ofChange broadMeetsSpec)

/-- ITS FALSE NEIGHBOUR: 'it returns false'. Refute it at one input. -/
def broadMeetsWrong : ChangeSpec := { name := "broadMeets", fn := fun _ => fun
  | [d] => { results := [.lit (.bool false)], args := [d] }
  | _ => none }
def BroadMeetsWrongFalsely : Prop := broadMeetsRow.holds Tryz.pinned (OpenSpec.ofChange broadMeetsWrong)

/-- 'gantrylaw14.BroadInside': WHATEVER THE INPUT: true; the input reads as it did. -/
def broadInsideSpec : ChangeSpec := { name := "broadInside", fn := fun _ => fun
  | [d1, d2, d3, d4] => { results := [.lit (.bool true)], args := [d1, d2, d3, d4] }
  | _ => none }
def broadInsideRow : OpenClaim := { program := "ytjccikgdebgebaagreatdoor", sum := "b2495edcc7c67ba65b09c6abf987080e589b1166cf504485d17680cd12cab3c8", func := "gantry/gantrylaw14.BroadInside", spec := "broadInside", unfollowed := true, recurses := true, named := ["gantry/broad.axes"], apart := false, laid := [("gantry/broad.axes", laid_gantry_broad_axes)] }
def BroadInsideSaid : Prop := broadInsideRow.holds Tryz.pinned (OpenSpec.ofChange broadInsideSpec)

/-- ITS FALSE NEIGHBOUR: 'it returns false'. Refute it at one input. -/
def broadInsideWrong : ChangeSpec := { name := "broadInside", fn := fun _ => fun
  | [d1, d2, d3, d4] => { results := [.lit (.bool false)], args := [d1, d2, d3, d4] }
  | _ => none }
def BroadInsideWrongFalsely : Prop := broadInsideRow.holds Tryz.pinned (OpenSpec.ofChange broadInsideWrong)

/-- 'gantrylaw14.BroadJoins': WHATEVER THE INPUT: true; the input reads as it did. -/
def broadJoinsSpec : ChangeSpec := { name := "broadJoins", fn := fun _ => fun
  | [d1, d2] => { results := [.lit (.bool true)], args := [d1, d2] }
  | _ => none }
def broadJoinsRow : OpenClaim := { program := "ytjccikgdebgebaagreatdoor", sum := "b2495edcc7c67ba65b09c6abf987080e589b1166cf504485d17680cd12cab3c8", func := "gantry/gantrylaw14.BroadJoins", spec := "broadJoins", unfollowed := true, recurses := true, named := ["gantry/broad.axes"], apart := false, laid := [("gantry/broad.axes", laid_gantry_broad_axes)] }
def BroadJoinsSaid : Prop := broadJoinsRow.holds Tryz.pinned (OpenSpec.ofChange broadJoinsSpec)

/-- ITS FALSE NEIGHBOUR: 'it returns false'. Refute it at one input. -/
def broadJoinsWrong : ChangeSpec := { name := "broadJoins", fn := fun _ => fun
  | [d1, d2] => { results := [.lit (.bool false)], args := [d1, d2] }
  | _ => none }
def BroadJoinsWrongFalsely : Prop := broadJoinsRow.holds Tryz.pinned (OpenSpec.ofChange broadJoinsWrong)

/-- 'gantrylaw14.BroadPairs': WHATEVER THE INPUT: true; the input reads as it did. -/
def broadPairsSpec : ChangeSpec := { name := "broadPairs", fn := fun _ => fun
  | [d1, d2] => { results := [.lit (.bool true)], args := [d1, d2] }
  | _ => none }
def broadPairsRow : OpenClaim := { program := "ytjccikgdebgebaagreatdoor", sum := "b2495edcc7c67ba65b09c6abf987080e589b1166cf504485d17680cd12cab3c8", func := "gantry/gantrylaw14.BroadPairs", spec := "broadPairs", unfollowed := true, recurses := true, named := ["gantry/broad.axes"], apart := false, laid := [("gantry/broad.axes", laid_gantry_broad_axes)] }
def BroadPairsSaid : Prop := broadPairsRow.holds Tryz.pinned (OpenSpec.ofChange broadPairsSpec)

/-- ITS FALSE NEIGHBOUR: 'it returns false'. Refute it at one input. -/
def broadPairsWrong : ChangeSpec := { name := "broadPairs", fn := fun _ => fun
  | [d1, d2] => { results := [.lit (.bool false)], args := [d1, d2] }
  | _ => none }
def BroadPairsWrongFalsely : Prop := broadPairsRow.holds Tryz.pinned (OpenSpec.ofChange broadPairsWrong)

/-- 'gantrylaw14.BroadMoved': WHATEVER THE INPUT: true; the input reads as it did. -/
def broadMovedSpec : ChangeSpec := { name := "broadMoved", fn := fun _ => fun
  | [d1, d2] => { results := [.lit (.bool true)], args := [d1, d2] }
  | _ => none }
def broadMovedRow : OpenClaim := { program := "ytjccikgdebgebaagreatdoor", sum := "b2495edcc7c67ba65b09c6abf987080e589b1166cf504485d17680cd12cab3c8", func := "gantry/gantrylaw14.BroadMoved", spec := "broadMoved", unfollowed := true, recurses := true, named := ["gantry/broad.axes"], apart := false, laid := [("gantry/broad.axes", laid_gantry_broad_axes)] }
def BroadMovedSaid : Prop := broadMovedRow.holds Tryz.pinned (OpenSpec.ofChange broadMovedSpec)

/-- ITS FALSE NEIGHBOUR: 'it returns false'. Refute it at one input. -/
def broadMovedWrong : ChangeSpec := { name := "broadMoved", fn := fun _ => fun
  | [d1, d2] => { results := [.lit (.bool false)], args := [d1, d2] }
  | _ => none }
def BroadMovedWrongFalsely : Prop := broadMovedRow.holds Tryz.pinned (OpenSpec.ofChange broadMovedWrong)

/-- 'gantrylaw14.BroadApart': WHATEVER THE INPUT: true; the input reads as it did. -/
def broadApartSpec : ChangeSpec := { name := "broadApart", fn := fun _ => fun
  | [d1, d2, d3, d4, d5] => { results := [.lit (.bool true)], args := [d1, d2, d3, d4, d5] }
  | _ => none }
def broadApartRow : OpenClaim := { program := "ytjccikgdebgebaagreatdoor", sum := "b2495edcc7c67ba65b09c6abf987080e589b1166cf504485d17680cd12cab3c8", func := "gantry/gantrylaw14.BroadApart", spec := "broadApart", unfollowed := true, recurses := true, named := ["gantry/broad.axes"], apart := false, laid := [("gantry/broad.axes", laid_gantry_broad_axes)] }
def BroadApartSaid : Prop := broadApartRow.holds Tryz.pinned (OpenSpec.ofChange broadApartSpec)

/-- ITS FALSE NEIGHBOUR: 'it returns false'. Refute it at one input. -/
def broadApartWrong : ChangeSpec := { name := "broadApart", fn := fun _ => fun
  | [d1, d2, d3, d4, d5] => { results := [.lit (.bool false)], args := [d1, d2, d3, d4, d5] }
  | _ => none }
def BroadApartWrongFalsely : Prop := broadApartRow.holds Tryz.pinned (OpenSpec.ofChange broadApartWrong)

/- THE SECOND FORM. 'bulk': how many values and letters a reading holds, each counted each time it is reached (what is shared counts as often as it is met; a slice's spare places count too). A statement '..UptoSaid' is the law's where the arguments, and the package variables that the reading takes, are together of bulk at most 1048576: NARROWER than '..Said'. Prove '..Said' where nothing that the law and all that it calls make is longer than what came in: it says more and counts as full. Else prove '..UptoSaid'. A law counts once. -/
mutual
def uptoBulk {H : Type} : DataW H → Nat
  | .lit (.string bytes) => bytes.length + 1
  | .lit _ => 1
  | .nil => 1
  | .ptr d => uptoBulk d + 1
  | .slice elems spare => uptoBulkAll elems + uptoBulkAll spare + 1
  | .agg parts => uptoBulkAll parts + 1
  | .iface _ d => uptoBulk d + 1
  | .map entries => uptoBulkEntries entries + 1
  | .held _ => 1
def uptoBulkAll {H : Type} : List (DataW H) → Nat
  | [] => 0
  | d :: r => uptoBulk d + uptoBulkAll r
def uptoBulkEntries {H : Type} : List (Lit × DataW H) → Nat
  | [] => 0
  | x :: r => uptoBulkEntry x + uptoBulkEntries r
def uptoBulkEntry {H : Type} : Lit × DataW H → Nat
  | (.string bytes, d) => bytes.length + uptoBulk d + 1
  | (_, d) => uptoBulk d + 1
 end
def uptoSmall : (H : Type) → List (DataW H) → Bool := fun _ ds => decide (uptoBulkAll ds ≤ 1048576)
def OpenSpec.upto (s : _root_.Go.ChangeSpec) : _root_.Go.OpenSpec := { _root_.Go.OpenSpec.ofChange s with cond := some uptoSmall }

/-- 'gantrylaw14.BroadSwept', WHERE WHAT IT READS IS OF BULK AT MOST 1048576: true; the input reads as it did. -/
def broadSweptUptoRow : OpenClaim := { program := "ytjccikgdebgebaagreatdoor", sum := "b2495edcc7c67ba65b09c6abf987080e589b1166cf504485d17680cd12cab3c8", func := "gantry/gantrylaw14.BroadSwept", spec := "broadSwept", unfollowed := true, recurses := true, named := ["gantry/broad.axes"], apart := false, laid := [("gantry/broad.axes", laid_gantry_broad_axes)], narrowed := true }
def BroadSweptUptoSaid : Prop := broadSweptUptoRow.holds Tryz.pinned (OpenSpec.upto broadSweptSpec)

/-- 'gantrylaw14.BroadMeets', WHERE WHAT IT READS IS OF BULK AT MOST 1048576: true; the input reads as it did. -/
def broadMeetsUptoRow : OpenClaim := { program := "ytjccikgdebgebaagreatdoor", sum := "b2495edcc7c67ba65b09c6abf987080e589b1166cf504485d17680cd12cab3c8", func := "gantry/gantrylaw14.BroadMeets", spec := "broadMeets", unfollowed := true, recurses := true, named := ["gantry/broad.axes"], apart := false, laid := [("gantry/broad.axes", laid_gantry_broad_axes)], narrowed := true }
def BroadMeetsUptoSaid : Prop := broadMeetsUptoRow.holds Tryz.pinned (OpenSpec.upto broadMeetsSpec)

/-- 'gantrylaw14.BroadInside', WHERE WHAT IT READS IS OF BULK AT MOST 1048576: true; the input reads as it did. -/
def broadInsideUptoRow : OpenClaim := { program := "ytjccikgdebgebaagreatdoor", sum := "b2495edcc7c67ba65b09c6abf987080e589b1166cf504485d17680cd12cab3c8", func := "gantry/gantrylaw14.BroadInside", spec := "broadInside", unfollowed := true, recurses := true, named := ["gantry/broad.axes"], apart := false, laid := [("gantry/broad.axes", laid_gantry_broad_axes)], narrowed := true }
def BroadInsideUptoSaid : Prop := broadInsideUptoRow.holds Tryz.pinned (OpenSpec.upto broadInsideSpec)

/-- 'gantrylaw14.BroadJoins', WHERE WHAT IT READS IS OF BULK AT MOST 1048576: true; the input reads as it did. -/
def broadJoinsUptoRow : OpenClaim := { program := "ytjccikgdebgebaagreatdoor", sum := "b2495edcc7c67ba65b09c6abf987080e589b1166cf504485d17680cd12cab3c8", func := "gantry/gantrylaw14.BroadJoins", spec := "broadJoins", unfollowed := true, recurses := true, named := ["gantry/broad.axes"], apart := false, laid := [("gantry/broad.axes", laid_gantry_broad_axes)], narrowed := true }
def BroadJoinsUptoSaid : Prop := broadJoinsUptoRow.holds Tryz.pinned (OpenSpec.upto broadJoinsSpec)

/-- 'gantrylaw14.BroadPairs', WHERE WHAT IT READS IS OF BULK AT MOST 1048576: true; the input reads as it did. -/
def broadPairsUptoRow : OpenClaim := { program := "ytjccikgdebgebaagreatdoor", sum := "b2495edcc7c67ba65b09c6abf987080e589b1166cf504485d17680cd12cab3c8", func := "gantry/gantrylaw14.BroadPairs", spec := "broadPairs", unfollowed := true, recurses := true, named := ["gantry/broad.axes"], apart := false, laid := [("gantry/broad.axes", laid_gantry_broad_axes)], narrowed := true }
def BroadPairsUptoSaid : Prop := broadPairsUptoRow.holds Tryz.pinned (OpenSpec.upto broadPairsSpec)

/-- 'gantrylaw14.BroadMoved', WHERE WHAT IT READS IS OF BULK AT MOST 1048576: true; the input reads as it did. -/
def broadMovedUptoRow : OpenClaim := { program := "ytjccikgdebgebaagreatdoor", sum := "b2495edcc7c67ba65b09c6abf987080e589b1166cf504485d17680cd12cab3c8", func := "gantry/gantrylaw14.BroadMoved", spec := "broadMoved", unfollowed := true, recurses := true, named := ["gantry/broad.axes"], apart := false, laid := [("gantry/broad.axes", laid_gantry_broad_axes)], narrowed := true }
def BroadMovedUptoSaid : Prop := broadMovedUptoRow.holds Tryz.pinned (OpenSpec.upto broadMovedSpec)

/-- 'gantrylaw14.BroadApart', WHERE WHAT IT READS IS OF BULK AT MOST 1048576: true; the input reads as it did. -/
def broadApartUptoRow : OpenClaim := { program := "ytjccikgdebgebaagreatdoor", sum := "b2495edcc7c67ba65b09c6abf987080e589b1166cf504485d17680cd12cab3c8", func := "gantry/gantrylaw14.BroadApart", spec := "broadApart", unfollowed := true, recurses := true, named := ["gantry/broad.axes"], apart := false, laid := [("gantry/broad.axes", laid_gantry_broad_axes)], narrowed := true }
def BroadApartUptoSaid : Prop := broadApartUptoRow.holds Tryz.pinned (OpenSpec.upto broadApartSpec)

end Rows
end Go.Proofs.YtjccikgdebgebaaGreatDoor
