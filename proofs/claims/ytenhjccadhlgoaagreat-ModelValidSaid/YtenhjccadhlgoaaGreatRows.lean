/-
  No cell of these rows narrows 'for every input' (looked for: loops, veiled, ifaces, maps, wideKeys, modest, calm, conditions, laid).
  DERIVED. THE GIVEN ROWS OF THIS SEAT. 5 by the template 'for every input the law returns true; each argument reads behind the call as it read before'; 0 by the template 'total and deterministic' (their statements: YtenhjccadhlgoaaGreatTotals.lean).
  GIVEN WITH THE SEED: the statements are not yours to turn. If you find one false, say at which input.
  Laid BY PROGRAM, IN A SANDBOX (cutbox-rows.mjs): the forced cells as the released guide's own fill.sh prints them over the translation 41863b43a75c1488… (all of the seat's roots in one cut). By AI agents, Wed Nov 11 2026. No macro, syntax, notation, axiom, sorry.
-/
import Derived.Test.YtenhjccadhlgoaaGreatChecked
import GoSem.Claim
import GoSem.ClaimJoined
import GoSem.ClaimMapViews
import Derived.JoinedTies
import Derived.KernelRfl
namespace Go.Proofs.YtenhjccadhlgoaaGreat
/- THE CELL 'sum', in the pinned program and in every row, IS THE sha256 OF THE DUMP (.gsa) THAT YtenhjccadhlgoaaGreatProg.lean LOADS. Nothing in Lean hashes anything: it is a label: what it is worth is what the hold of that sum in a sandbox is worth. -/
noncomputable def Tryz.pinned : Pinned := { name := "ytenhjccadhlgoaagreat", sum := "41863b43a75c14887499cab6b3d88264d50339cc83f9c9be7d2f41432fdf40ae", checked := Tryz.checked }
namespace Rows
def none {H : Type} : Left H := { results := [], args := [] }

/-- 'gantrylaw15.ModelValid': WHATEVER THE INPUT: true; the input reads as it did. -/
def modelValidSpec : ChangeSpec := { name := "modelValid", fn := fun _ => fun
  | [d1, d2, d3, d4] => { results := [.lit (.bool true)], args := [d1, d2, d3, d4] }
  | _ => none }
def modelValidRow : OpenClaim := { program := "ytenhjccadhlgoaagreat", sum := "41863b43a75c14887499cab6b3d88264d50339cc83f9c9be7d2f41432fdf40ae", func := "gantry/gantrylaw15.ModelValid", spec := "modelValid", unfollowed := true, recurses := true, plainKeys := false, apart := false }
def ModelValidSaid : Prop := modelValidRow.holds Tryz.pinned (OpenSpec.ofChange modelValidSpec)

/-- ITS FALSE NEIGHBOUR: 'it returns false'. Refute it at one input. -/
def modelValidWrong : ChangeSpec := { name := "modelValid", fn := fun _ => fun
  | [d1, d2, d3, d4] => { results := [.lit (.bool false)], args := [d1, d2, d3, d4] }
  | _ => none }
def ModelValidWrongFalsely : Prop := modelValidRow.holds Tryz.pinned (OpenSpec.ofChange modelValidWrong)

/-- 'gantrylaw15.ModelFewer': WHATEVER THE INPUT: true; the input reads as it did. -/
def modelFewerSpec : ChangeSpec := { name := "modelFewer", fn := fun _ => fun
  | [d1, d2, d3] => { results := [.lit (.bool true)], args := [d1, d2, d3] }
  | _ => none }
def modelFewerRow : OpenClaim := { program := "ytenhjccadhlgoaagreat", sum := "41863b43a75c14887499cab6b3d88264d50339cc83f9c9be7d2f41432fdf40ae", func := "gantry/gantrylaw15.ModelFewer", spec := "modelFewer", unfollowed := true, recurses := true, plainKeys := false, apart := false }
def ModelFewerSaid : Prop := modelFewerRow.holds Tryz.pinned (OpenSpec.ofChange modelFewerSpec)

/-- ITS FALSE NEIGHBOUR: 'it returns false'. Refute it at one input. -/
def modelFewerWrong : ChangeSpec := { name := "modelFewer", fn := fun _ => fun
  | [d1, d2, d3] => { results := [.lit (.bool false)], args := [d1, d2, d3] }
  | _ => none }
def ModelFewerWrongFalsely : Prop := modelFewerRow.holds Tryz.pinned (OpenSpec.ofChange modelFewerWrong)

/-- 'gantrylaw15.ModelMoves': WHATEVER THE INPUT: true; the input reads as it did. -/
def modelMovesSpec : ChangeSpec := { name := "modelMoves", fn := fun _ => fun
  | [d1, d2, d3, d4] => { results := [.lit (.bool true)], args := [d1, d2, d3, d4] }
  | _ => none }
def modelMovesRow : OpenClaim := { program := "ytenhjccadhlgoaagreat", sum := "41863b43a75c14887499cab6b3d88264d50339cc83f9c9be7d2f41432fdf40ae", func := "gantry/gantrylaw15.ModelMoves", spec := "modelMoves", unfollowed := true, recurses := true, plainKeys := false, apart := false }
def ModelMovesSaid : Prop := modelMovesRow.holds Tryz.pinned (OpenSpec.ofChange modelMovesSpec)

/-- ITS FALSE NEIGHBOUR: 'it returns false'. Refute it at one input. -/
def modelMovesWrong : ChangeSpec := { name := "modelMoves", fn := fun _ => fun
  | [d1, d2, d3, d4] => { results := [.lit (.bool false)], args := [d1, d2, d3, d4] }
  | _ => none }
def ModelMovesWrongFalsely : Prop := modelMovesRow.holds Tryz.pinned (OpenSpec.ofChange modelMovesWrong)

/-- 'gantrylaw15.ModelFits': WHATEVER THE INPUT: true; the input reads as it did. -/
def modelFitsSpec : ChangeSpec := { name := "modelFits", fn := fun _ => fun
  | [d1, d2, d3, d4, d5] => { results := [.lit (.bool true)], args := [d1, d2, d3, d4, d5] }
  | _ => none }
def modelFitsRow : OpenClaim := { program := "ytenhjccadhlgoaagreat", sum := "41863b43a75c14887499cab6b3d88264d50339cc83f9c9be7d2f41432fdf40ae", func := "gantry/gantrylaw15.ModelFits", spec := "modelFits", unfollowed := true, recurses := true, plainKeys := false, apart := false }
def ModelFitsSaid : Prop := modelFitsRow.holds Tryz.pinned (OpenSpec.ofChange modelFitsSpec)

/-- ITS FALSE NEIGHBOUR: 'it returns false'. Refute it at one input. -/
def modelFitsWrong : ChangeSpec := { name := "modelFits", fn := fun _ => fun
  | [d1, d2, d3, d4, d5] => { results := [.lit (.bool false)], args := [d1, d2, d3, d4, d5] }
  | _ => none }
def ModelFitsWrongFalsely : Prop := modelFitsRow.holds Tryz.pinned (OpenSpec.ofChange modelFitsWrong)

/-- 'gantrylaw15.ModelReads': WHATEVER THE INPUT: true; the input reads as it did. -/
def modelReadsSpec : ChangeSpec := { name := "modelReads", fn := fun _ => fun
  | [d1, d2, d3, d4, d5, d6] => { results := [.lit (.bool true)], args := [d1, d2, d3, d4, d5, d6] }
  | _ => none }
def modelReadsRow : OpenClaim := { program := "ytenhjccadhlgoaagreat", sum := "41863b43a75c14887499cab6b3d88264d50339cc83f9c9be7d2f41432fdf40ae", func := "gantry/gantrylaw15.ModelReads", spec := "modelReads", unfollowed := true, recurses := true, plainKeys := false, apart := false }
def ModelReadsSaid : Prop := modelReadsRow.holds Tryz.pinned (OpenSpec.ofChange modelReadsSpec)

/-- ITS FALSE NEIGHBOUR: 'it returns false'. Refute it at one input. -/
def modelReadsWrong : ChangeSpec := { name := "modelReads", fn := fun _ => fun
  | [d1, d2, d3, d4, d5, d6] => { results := [.lit (.bool false)], args := [d1, d2, d3, d4, d5, d6] }
  | _ => none }
def ModelReadsWrongFalsely : Prop := modelReadsRow.holds Tryz.pinned (OpenSpec.ofChange modelReadsWrong)

/- THE SECOND FORM. 'bulk': how many values and letters a reading holds, each counted each time it is reached (what is shared counts as often as it is met; a slice's spare places count too). A statement '..UptoSaid' is the law's where the arguments, and the package variables that the reading takes, are together of bulk at most 1048576: NARROWER than '..Said'. Prove '..Said' where nothing that the law and all that it calls make is longer than what came in: it says more and counts as full. Else prove '..UptoSaid'. A law counts once. -/
mutual
def uptoBulk {H : Type} : DataW H → Nat
  | .lit (.string bytes) => bytes.length + 1
  | .lit _ => 1
  | .nil => 1
  | .ptr d => uptoBulk d + 1
  | .slice elems spare => uptoBulkAll elems + uptoBulkAll spare + 1
  | .agg parts => uptoBulkAll parts + 1
  | .iface _ d => uptoBulk d + 1
  | .map entries => uptoBulkEntries entries + 1
  | .held _ => 1
def uptoBulkAll {H : Type} : List (DataW H) → Nat
  | [] => 0
  | d :: r => uptoBulk d + uptoBulkAll r
def uptoBulkEntries {H : Type} : List (Lit × DataW H) → Nat
  | [] => 0
  | x :: r => uptoBulkEntry x + uptoBulkEntries r
def uptoBulkEntry {H : Type} : Lit × DataW H → Nat
  | (.string bytes, d) => bytes.length + uptoBulk d + 1
  | (_, d) => uptoBulk d + 1
 end
def uptoSmall : (H : Type) → List (DataW H) → Bool := fun _ ds => decide (uptoBulkAll ds ≤ 1048576)
def OpenSpec.upto (s : _root_.Go.ChangeSpec) : _root_.Go.OpenSpec := { _root_.Go.OpenSpec.ofChange s with cond := some uptoSmall }

/-- 'gantrylaw15.ModelValid', WHERE WHAT IT READS IS OF BULK AT MOST 1048576: true; the input reads as it did. -/
def modelValidUptoRow : OpenClaim := { program := "ytenhjccadhlgoaagreat", sum := "41863b43a75c14887499cab6b3d88264d50339cc83f9c9be7d2f41432fdf40ae", func := "gantry/gantrylaw15.ModelValid", spec := "modelValid", unfollowed := true, recurses := true, plainKeys := false, apart := false, narrowed := true }
def ModelValidUptoSaid : Prop := modelValidUptoRow.holds Tryz.pinned (OpenSpec.upto modelValidSpec)

/-- 'gantrylaw15.ModelFewer', WHERE WHAT IT READS IS OF BULK AT MOST 1048576: true; the input reads as it did. -/
def modelFewerUptoRow : OpenClaim := { program := "ytenhjccadhlgoaagreat", sum := "41863b43a75c14887499cab6b3d88264d50339cc83f9c9be7d2f41432fdf40ae", func := "gantry/gantrylaw15.ModelFewer", spec := "modelFewer", unfollowed := true, recurses := true, plainKeys := false, apart := false, narrowed := true }
def ModelFewerUptoSaid : Prop := modelFewerUptoRow.holds Tryz.pinned (OpenSpec.upto modelFewerSpec)

/-- 'gantrylaw15.ModelMoves', WHERE WHAT IT READS IS OF BULK AT MOST 1048576: true; the input reads as it did. -/
def modelMovesUptoRow : OpenClaim := { program := "ytenhjccadhlgoaagreat", sum := "41863b43a75c14887499cab6b3d88264d50339cc83f9c9be7d2f41432fdf40ae", func := "gantry/gantrylaw15.ModelMoves", spec := "modelMoves", unfollowed := true, recurses := true, plainKeys := false, apart := false, narrowed := true }
def ModelMovesUptoSaid : Prop := modelMovesUptoRow.holds Tryz.pinned (OpenSpec.upto modelMovesSpec)

/-- 'gantrylaw15.ModelFits', WHERE WHAT IT READS IS OF BULK AT MOST 1048576: true; the input reads as it did. -/
def modelFitsUptoRow : OpenClaim := { program := "ytenhjccadhlgoaagreat", sum := "41863b43a75c14887499cab6b3d88264d50339cc83f9c9be7d2f41432fdf40ae", func := "gantry/gantrylaw15.ModelFits", spec := "modelFits", unfollowed := true, recurses := true, plainKeys := false, apart := false, narrowed := true }
def ModelFitsUptoSaid : Prop := modelFitsUptoRow.holds Tryz.pinned (OpenSpec.upto modelFitsSpec)

/-- 'gantrylaw15.ModelReads', WHERE WHAT IT READS IS OF BULK AT MOST 1048576: true; the input reads as it did. -/
def modelReadsUptoRow : OpenClaim := { program := "ytenhjccadhlgoaagreat", sum := "41863b43a75c14887499cab6b3d88264d50339cc83f9c9be7d2f41432fdf40ae", func := "gantry/gantrylaw15.ModelReads", spec := "modelReads", unfollowed := true, recurses := true, plainKeys := false, apart := false, narrowed := true }
def ModelReadsUptoSaid : Prop := modelReadsUptoRow.holds Tryz.pinned (OpenSpec.upto modelReadsSpec)

end Rows
end Go.Proofs.YtenhjccadhlgoaaGreat
