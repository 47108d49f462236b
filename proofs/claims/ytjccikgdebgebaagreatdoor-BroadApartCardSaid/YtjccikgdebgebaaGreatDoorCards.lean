/-
  DERIVED. GIVEN WITH THE SEED: THE CARDS: each row of YtjccikgdebgebaaGreatDoorRows.lean that lists a variable, with what it lists TIED to the program's text (the seventh form; the later family's looks); each row that meets fmt, with fmt's text TOLD by the authors' own Lean function (tested against real Go, not proved from fmt's source: count such statements apart). THE CARD IS WHAT COUNTS. Prove the row's statement (the work); the ties are given (YtjccikgdebgebaaGreatDoorTie.lean); close each card by the builder's one call (the guide's Derived/Test/ToyasCard.lean, 'card_holds'). Laid BY PROGRAM, IN A SANDBOX (cutbox-door.mjs). By AI agents, Wed Nov 11 2026. No macro, syntax, notation, axiom, sorry.
-/
import Derived.Test.YtjccikgdebgebaaGreatDoorRows
import GoSem.ClaimSeven
namespace Go.Proofs.YtjccikgdebgebaaGreatDoor
namespace Rows

/-- THE TIED CARD OF 'gantrylaw14.BroadSwept'. -/
def broadSweptCard : Claim7 := { stood := { row := broadSweptRow, standIns := [], harness := (true, "b60d6243eee5cf6991204f8d5961d660249d162c12141e21869c8c494f38f787"), looks := false }, kinds := [], alts := [], laidByText := true, laidKinds := [.funcsDeep], laidTests := true, laidLooks := .later }
def BroadSweptCardSaid : Prop := Claim7.holds Tryz.pinned (.plain (OpenSpec.ofChange broadSweptSpec)) broadSweptCard

/-- THE TIED CARD OF 'gantrylaw14.BroadMeets'. -/
def broadMeetsCard : Claim7 := { stood := { row := broadMeetsRow, standIns := [], harness := (true, "b60d6243eee5cf6991204f8d5961d660249d162c12141e21869c8c494f38f787"), looks := false }, kinds := [], alts := [], laidByText := true, laidKinds := [.funcsDeep], laidTests := true, laidLooks := .later }
def BroadMeetsCardSaid : Prop := Claim7.holds Tryz.pinned (.plain (OpenSpec.ofChange broadMeetsSpec)) broadMeetsCard

/-- THE TIED CARD OF 'gantrylaw14.BroadInside'. -/
def broadInsideCard : Claim7 := { stood := { row := broadInsideRow, standIns := [], harness := (true, "b60d6243eee5cf6991204f8d5961d660249d162c12141e21869c8c494f38f787"), looks := false }, kinds := [], alts := [], laidByText := true, laidKinds := [.funcsDeep], laidTests := true, laidLooks := .later }
def BroadInsideCardSaid : Prop := Claim7.holds Tryz.pinned (.plain (OpenSpec.ofChange broadInsideSpec)) broadInsideCard

/-- THE TIED CARD OF 'gantrylaw14.BroadJoins'. -/
def broadJoinsCard : Claim7 := { stood := { row := broadJoinsRow, standIns := [], harness := (true, "b60d6243eee5cf6991204f8d5961d660249d162c12141e21869c8c494f38f787"), looks := false }, kinds := [], alts := [], laidByText := true, laidKinds := [.funcsDeep], laidTests := true, laidLooks := .later }
def BroadJoinsCardSaid : Prop := Claim7.holds Tryz.pinned (.plain (OpenSpec.ofChange broadJoinsSpec)) broadJoinsCard

/-- THE TIED CARD OF 'gantrylaw14.BroadPairs'. -/
def broadPairsCard : Claim7 := { stood := { row := broadPairsRow, standIns := [], harness := (true, "b60d6243eee5cf6991204f8d5961d660249d162c12141e21869c8c494f38f787"), looks := false }, kinds := [], alts := [], laidByText := true, laidKinds := [.funcsDeep], laidTests := true, laidLooks := .later }
def BroadPairsCardSaid : Prop := Claim7.holds Tryz.pinned (.plain (OpenSpec.ofChange broadPairsSpec)) broadPairsCard

/-- THE TIED CARD OF 'gantrylaw14.BroadMoved'. -/
def broadMovedCard : Claim7 := { stood := { row := broadMovedRow, standIns := [], harness := (true, "b60d6243eee5cf6991204f8d5961d660249d162c12141e21869c8c494f38f787"), looks := false }, kinds := [], alts := [], laidByText := true, laidKinds := [.funcsDeep], laidTests := true, laidLooks := .later }
def BroadMovedCardSaid : Prop := Claim7.holds Tryz.pinned (.plain (OpenSpec.ofChange broadMovedSpec)) broadMovedCard

/-- THE TIED CARD OF 'gantrylaw14.BroadApart'. -/
def broadApartCard : Claim7 := { stood := { row := broadApartRow, standIns := [], harness := (true, "b60d6243eee5cf6991204f8d5961d660249d162c12141e21869c8c494f38f787"), looks := false }, kinds := [], alts := [], laidByText := true, laidKinds := [.funcsDeep], laidTests := true, laidLooks := .later }
def BroadApartCardSaid : Prop := Claim7.holds Tryz.pinned (.plain (OpenSpec.ofChange broadApartSpec)) broadApartCard

/-- THE SECOND FORM's CARD OF 'gantrylaw14.BroadSwept'. -/
def broadSweptUptoCard : Claim7 := { stood := { row := broadSweptUptoRow, standIns := [], harness := (true, "b60d6243eee5cf6991204f8d5961d660249d162c12141e21869c8c494f38f787"), looks := false }, kinds := [], alts := [], laidByText := true, laidKinds := [.funcsDeep], laidTests := true, laidLooks := .later }
def BroadSweptUptoCardSaid : Prop := Claim7.holds Tryz.pinned (.plain (OpenSpec.upto broadSweptSpec)) broadSweptUptoCard

/-- THE SECOND FORM's CARD OF 'gantrylaw14.BroadMeets'. -/
def broadMeetsUptoCard : Claim7 := { stood := { row := broadMeetsUptoRow, standIns := [], harness := (true, "b60d6243eee5cf6991204f8d5961d660249d162c12141e21869c8c494f38f787"), looks := false }, kinds := [], alts := [], laidByText := true, laidKinds := [.funcsDeep], laidTests := true, laidLooks := .later }
def BroadMeetsUptoCardSaid : Prop := Claim7.holds Tryz.pinned (.plain (OpenSpec.upto broadMeetsSpec)) broadMeetsUptoCard

/-- THE SECOND FORM's CARD OF 'gantrylaw14.BroadInside'. -/
def broadInsideUptoCard : Claim7 := { stood := { row := broadInsideUptoRow, standIns := [], harness := (true, "b60d6243eee5cf6991204f8d5961d660249d162c12141e21869c8c494f38f787"), looks := false }, kinds := [], alts := [], laidByText := true, laidKinds := [.funcsDeep], laidTests := true, laidLooks := .later }
def BroadInsideUptoCardSaid : Prop := Claim7.holds Tryz.pinned (.plain (OpenSpec.upto broadInsideSpec)) broadInsideUptoCard

/-- THE SECOND FORM's CARD OF 'gantrylaw14.BroadJoins'. -/
def broadJoinsUptoCard : Claim7 := { stood := { row := broadJoinsUptoRow, standIns := [], harness := (true, "b60d6243eee5cf6991204f8d5961d660249d162c12141e21869c8c494f38f787"), looks := false }, kinds := [], alts := [], laidByText := true, laidKinds := [.funcsDeep], laidTests := true, laidLooks := .later }
def BroadJoinsUptoCardSaid : Prop := Claim7.holds Tryz.pinned (.plain (OpenSpec.upto broadJoinsSpec)) broadJoinsUptoCard

/-- THE SECOND FORM's CARD OF 'gantrylaw14.BroadPairs'. -/
def broadPairsUptoCard : Claim7 := { stood := { row := broadPairsUptoRow, standIns := [], harness := (true, "b60d6243eee5cf6991204f8d5961d660249d162c12141e21869c8c494f38f787"), looks := false }, kinds := [], alts := [], laidByText := true, laidKinds := [.funcsDeep], laidTests := true, laidLooks := .later }
def BroadPairsUptoCardSaid : Prop := Claim7.holds Tryz.pinned (.plain (OpenSpec.upto broadPairsSpec)) broadPairsUptoCard

/-- THE SECOND FORM's CARD OF 'gantrylaw14.BroadMoved'. -/
def broadMovedUptoCard : Claim7 := { stood := { row := broadMovedUptoRow, standIns := [], harness := (true, "b60d6243eee5cf6991204f8d5961d660249d162c12141e21869c8c494f38f787"), looks := false }, kinds := [], alts := [], laidByText := true, laidKinds := [.funcsDeep], laidTests := true, laidLooks := .later }
def BroadMovedUptoCardSaid : Prop := Claim7.holds Tryz.pinned (.plain (OpenSpec.upto broadMovedSpec)) broadMovedUptoCard

/-- THE SECOND FORM's CARD OF 'gantrylaw14.BroadApart'. -/
def broadApartUptoCard : Claim7 := { stood := { row := broadApartUptoRow, standIns := [], harness := (true, "b60d6243eee5cf6991204f8d5961d660249d162c12141e21869c8c494f38f787"), looks := false }, kinds := [], alts := [], laidByText := true, laidKinds := [.funcsDeep], laidTests := true, laidLooks := .later }
def BroadApartUptoCardSaid : Prop := Claim7.holds Tryz.pinned (.plain (OpenSpec.upto broadApartSpec)) broadApartUptoCard
end Rows
end Go.Proofs.YtjccikgdebgebaaGreatDoor
