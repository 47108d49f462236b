/-
  The facts of the loaded program that the proofs use: sizes and zero values of its types; its functions are in order. By a program of this work (gen.py). No conditions.
-/
import Derived.Test.YtjccikgdebgebaaGreatDoorQ02
import Derived.Test.YtjccikgdebgebaaGreatDoorProg
import Derived.KernelRfl
set_option linter.unusedSimpArgs false
set_option linter.unusedVariables false
section
namespace Go.Proofs.YtjccikgdebgebaaGreatDoor.Abs
open Go
class SpC where
  spec : Nat → List AV → Option AV
def specL : List Nat := [37]
def topL : List Nat := [172]
def inlL : List Nat := [110, 139, 140, 141, 142, 143, 144, 145, 146, 160, 163, 164, 170, 112, 149, 150, 151, 152, 153, 154, 155, 156, 165, 166, 167, 171, 69, 71, 162, 84]
def weakL : List Nat := [7, 8, 13, 14, 18, 19, 25, 26, 27, 28, 29, 30, 34, 35, 37, 58, 59, 76, 79, 80, 81, 87, 104, 105, 112, 113, 183, 184, 185, 186, 187, 195, 196]
noncomputable def X [SpC] : Ctx := { P := Tryz.prog, G := fun g => if g = 0 then some [.func (.func 189) [] [], .func (.func 190) [] [], .func (.func 191) [] [], .func (.func 192) [] []] else none, mode := fun f => if specL.contains f then .spec (SpC.spec f) else if topL.contains f then .top else if inlL.contains f then .inl else .ro, weakZ := fun t => weakL.contains t }
theorem XP [SpC] : X.P = Tryz.prog := rfl
theorem mixed [SpC] : X.P.follows .mixedOrders = true := by kernel_rfl
theorem size_1 [SpC] : sizeA X 1 = some 1 := by kernel_rfl
theorem shape_1 [SpC] : shapeA X 1 = some (false, 1) := by kernel_rfl
theorem zero_1 [SpC] : zeroA X 1 = some (.nilfunc) := by kernel_rfl
theorem sb_1 [SpC] : sbA X 1 = some (1, 8) := by kernel_rfl
theorem size_2 [SpC] : sizeA X 2 = some 1 := by kernel_rfl
theorem shape_2 [SpC] : shapeA X 2 = some (false, 1) := by kernel_rfl
theorem zero_2 [SpC] : zeroA X 2 = some (.int .i64 0) := by kernel_rfl
theorem sb_2 [SpC] : sbA X 2 = some (1, 8) := by kernel_rfl
theorem und_2 [SpC] : X.P.underlying 2 = some (.int .i64) := Tryz.underlying2
theorem size_3 [SpC] : sizeA X 3 = some 1 := by kernel_rfl
theorem shape_3 [SpC] : shapeA X 3 = some (false, 1) := by kernel_rfl
theorem zero_3 [SpC] : zeroA X 3 = some (.int .i64 0) := by kernel_rfl
theorem sb_3 [SpC] : sbA X 3 = some (1, 8) := by kernel_rfl
theorem und_3 [SpC] : X.P.underlying 3 = some (.int .i64) := Tryz.underlying3
theorem size_4 [SpC] : sizeA X 4 = some 1 := by kernel_rfl
theorem shape_4 [SpC] : shapeA X 4 = some (false, 1) := by kernel_rfl
theorem zero_4 [SpC] : zeroA X 4 = some (.bool false) := by kernel_rfl
theorem sb_4 [SpC] : sbA X 4 = some (1, 1) := by kernel_rfl
theorem und_4 [SpC] : X.P.underlying 4 = some (.bool) := Tryz.underlying4
theorem size_5 [SpC] : sizeA X 5 = some 1 := by kernel_rfl
theorem shape_5 [SpC] : shapeA X 5 = some (false, 1) := by kernel_rfl
theorem zero_5 [SpC] : zeroA X 5 = some (.int .u8 0) := by kernel_rfl
theorem sb_5 [SpC] : sbA X 5 = some (1, 1) := by kernel_rfl
theorem und_5 [SpC] : X.P.underlying 5 = some (.int .u8) := Tryz.underlying5
theorem size_9 [SpC] : sizeA X 9 = some 1 := by kernel_rfl
theorem shape_9 [SpC] : shapeA X 9 = some (false, 1) := by kernel_rfl
theorem zero_9 [SpC] : zeroA X 9 = some (.str ⟨#[]⟩) := by kernel_rfl
theorem sb_9 [SpC] : sbA X 9 = some (1, 16) := by kernel_rfl
theorem und_9 [SpC] : X.P.underlying 9 = some (.string) := Tryz.underlying9
theorem size_12 [SpC] : sizeA X 12 = some 1 := by kernel_rfl
theorem shape_12 [SpC] : shapeA X 12 = some (false, 1) := by kernel_rfl
theorem zero_12 [SpC] : zeroA X 12 = some (.int .u64 0) := by kernel_rfl
theorem sb_12 [SpC] : sbA X 12 = some (1, 8) := by kernel_rfl
theorem und_12 [SpC] : X.P.underlying 12 = some (.int .u64) := Tryz.underlying12
theorem size_13 [SpC] : sizeA X 13 = some 2 := by kernel_rfl
theorem shape_13 [SpC] : shapeA X 13 = some (true, 2) := by kernel_rfl
theorem zero_13 [SpC] : zeroA X 13 = some (.agg [.str ⟨#[]⟩, .int .u64 0]) := by kernel_rfl
theorem sb_13 [SpC] : sbA X 13 = some (2, 24) := by kernel_rfl
noncomputable def flds_13 : Array Field := match Tryz.prog.underlying 13 with | some (.struct f) => f | _ => #[]
theorem und_13 [SpC] : X.P.underlying 13 = some (.struct flds_13) := by kernel_rfl
theorem size_21 [SpC] : sizeA X 21 = some 1 := by kernel_rfl
theorem shape_21 [SpC] : shapeA X 21 = some (false, 1) := by kernel_rfl
theorem zero_21 [SpC] : zeroA X 21 = some (.int .i32 0) := by kernel_rfl
theorem sb_21 [SpC] : sbA X 21 = some (1, 4) := by kernel_rfl
theorem und_21 [SpC] : X.P.underlying 21 = some (.int .i32) := Tryz.underlying21
theorem size_22 [SpC] : sizeA X 22 = some 1 := by kernel_rfl
theorem shape_22 [SpC] : shapeA X 22 = some (false, 1) := by kernel_rfl
theorem zero_22 [SpC] : zeroA X 22 = some (.ro [] 0 true) := by kernel_rfl
theorem sb_22 [SpC] : sbA X 22 = some (1, 24) := by kernel_rfl
theorem und_22 [SpC] : X.P.underlying 22 = some (.slice 3) := Tryz.underlying22
theorem size_23 [SpC] : sizeA X 23 = some 1 := by kernel_rfl
theorem shape_23 [SpC] : shapeA X 23 = some (false, 1) := by kernel_rfl
theorem zero_23 [SpC] : zeroA X 23 = some (.ro [] 0 true) := by kernel_rfl
theorem sb_23 [SpC] : sbA X 23 = some (1, 24) := by kernel_rfl
theorem und_23 [SpC] : X.P.underlying 23 = some (.slice 59) := Tryz.underlying23
theorem size_24 [SpC] : sizeA X 24 = some 1 := by kernel_rfl
theorem shape_24 [SpC] : shapeA X 24 = some (false, 1) := by kernel_rfl
theorem zero_24 [SpC] : zeroA X 24 = some (.nilfunc) := by kernel_rfl
theorem sb_24 [SpC] : sbA X 24 = some (1, 8) := by kernel_rfl
theorem size_25 [SpC] : sizeA X 25 = some 2 := by kernel_rfl
theorem shape_25 [SpC] : shapeA X 25 = some (true, 2) := by kernel_rfl
theorem zero_25 [SpC] : zeroA X 25 = some (.agg [.bool false, .ro [] 0 false]) := by kernel_rfl
theorem sb_25 [SpC] : sbA X 25 = some (2, 32) := by kernel_rfl
noncomputable def flds_25 : Array Field := match Tryz.prog.underlying 25 with | some (.struct f) => f | _ => #[]
theorem und_25 [SpC] : X.P.underlying 25 = some (.struct flds_25) := by kernel_rfl
theorem size_26 [SpC] : sizeA X 26 = some 2 := by kernel_rfl
theorem shape_26 [SpC] : shapeA X 26 = some (true, 2) := by kernel_rfl
theorem zero_26 [SpC] : zeroA X 26 = some (.agg [.bool false, .ro [] 0 false]) := by kernel_rfl
theorem sb_26 [SpC] : sbA X 26 = some (2, 32) := by kernel_rfl
theorem und_26 [SpC] : X.P.underlying 26 = some (.struct flds_25) := by kernel_rfl
theorem size_27 [SpC] : sizeA X 27 = some 4 := by kernel_rfl
theorem shape_27 [SpC] : shapeA X 27 = some (true, 4) := by kernel_rfl
theorem zero_27 [SpC] : zeroA X 27 = some (.agg [.bool false, .ro [] 0 false, .bool false, .ro [] 0 false]) := by kernel_rfl
theorem sb_27 [SpC] : sbA X 27 = some (4, 64) := by kernel_rfl
noncomputable def flds_27 : Array Field := match Tryz.prog.underlying 27 with | some (.struct f) => f | _ => #[]
theorem und_27 [SpC] : X.P.underlying 27 = some (.struct flds_27) := by kernel_rfl
theorem size_28 [SpC] : sizeA X 28 = some 4 := by kernel_rfl
theorem shape_28 [SpC] : shapeA X 28 = some (true, 4) := by kernel_rfl
theorem zero_28 [SpC] : zeroA X 28 = some (.agg [.bool false, .ro [] 0 false, .bool false, .ro [] 0 false]) := by kernel_rfl
theorem sb_28 [SpC] : sbA X 28 = some (4, 64) := by kernel_rfl
theorem und_28 [SpC] : X.P.underlying 28 = some (.struct flds_27) := by kernel_rfl
theorem size_29 [SpC] : sizeA X 29 = some 8 := by kernel_rfl
theorem shape_29 [SpC] : shapeA X 29 = some (true, 8) := by kernel_rfl
theorem zero_29 [SpC] : zeroA X 29 = some (.agg [.bool false, .ro [] 0 false, .bool false, .ro [] 0 false, .bool false, .ro [] 0 false, .bool false, .ro [] 0 false]) := by kernel_rfl
theorem sb_29 [SpC] : sbA X 29 = some (8, 128) := by kernel_rfl
noncomputable def flds_29 : Array Field := match Tryz.prog.underlying 29 with | some (.struct f) => f | _ => #[]
theorem und_29 [SpC] : X.P.underlying 29 = some (.struct flds_29) := by kernel_rfl
theorem size_30 [SpC] : sizeA X 30 = some 8 := by kernel_rfl
theorem shape_30 [SpC] : shapeA X 30 = some (true, 8) := by kernel_rfl
theorem zero_30 [SpC] : zeroA X 30 = some (.agg [.bool false, .ro [] 0 false, .bool false, .ro [] 0 false, .bool false, .ro [] 0 false, .bool false, .ro [] 0 false]) := by kernel_rfl
theorem sb_30 [SpC] : sbA X 30 = some (8, 128) := by kernel_rfl
theorem und_30 [SpC] : X.P.underlying 30 = some (.struct flds_29) := by kernel_rfl
theorem size_31 [SpC] : sizeA X 31 = some 1 := by kernel_rfl
theorem shape_31 [SpC] : shapeA X 31 = some (false, 1) := by kernel_rfl
theorem zero_31 [SpC] : zeroA X 31 = some (.nilfunc) := by kernel_rfl
theorem sb_31 [SpC] : sbA X 31 = some (1, 8) := by kernel_rfl
theorem size_32 [SpC] : sizeA X 32 = some 1 := by kernel_rfl
theorem shape_32 [SpC] : shapeA X 32 = some (false, 1) := by kernel_rfl
theorem zero_32 [SpC] : zeroA X 32 = some (.nilfunc) := by kernel_rfl
theorem sb_32 [SpC] : sbA X 32 = some (1, 8) := by kernel_rfl
theorem size_33 [SpC] : sizeA X 33 = some 1 := by kernel_rfl
theorem shape_33 [SpC] : shapeA X 33 = some (false, 1) := by kernel_rfl
theorem zero_33 [SpC] : zeroA X 33 = some (.nilfunc) := by kernel_rfl
theorem sb_33 [SpC] : sbA X 33 = some (1, 8) := by kernel_rfl
theorem size_34 [SpC] : sizeA X 34 = some 16 := by kernel_rfl
theorem shape_34 [SpC] : shapeA X 34 = some (true, 16) := by kernel_rfl
theorem zero_34 [SpC] : zeroA X 34 = some (.agg [.bool false, .ro [] 0 false, .bool false, .ro [] 0 false, .bool false, .ro [] 0 false, .bool false, .ro [] 0 false, .bool false, .ro [] 0 false, .bool false, .ro [] 0 false, .bool false, .ro [] 0 false, .bool false, .ro [] 0 false]) := by kernel_rfl
theorem sb_34 [SpC] : sbA X 34 = some (16, 256) := by kernel_rfl
noncomputable def flds_34 : Array Field := match Tryz.prog.underlying 34 with | some (.struct f) => f | _ => #[]
theorem und_34 [SpC] : X.P.underlying 34 = some (.struct flds_34) := by kernel_rfl
theorem size_35 [SpC] : sizeA X 35 = some 16 := by kernel_rfl
theorem shape_35 [SpC] : shapeA X 35 = some (true, 16) := by kernel_rfl
theorem zero_35 [SpC] : zeroA X 35 = some (.agg [.bool false, .ro [] 0 false, .bool false, .ro [] 0 false, .bool false, .ro [] 0 false, .bool false, .ro [] 0 false, .bool false, .ro [] 0 false, .bool false, .ro [] 0 false, .bool false, .ro [] 0 false, .bool false, .ro [] 0 false]) := by kernel_rfl
theorem sb_35 [SpC] : sbA X 35 = some (16, 256) := by kernel_rfl
theorem und_35 [SpC] : X.P.underlying 35 = some (.struct flds_34) := by kernel_rfl
theorem size_36 [SpC] : sizeA X 36 = some 1 := by kernel_rfl
theorem shape_36 [SpC] : shapeA X 36 = some (false, 1) := by kernel_rfl
theorem zero_36 [SpC] : zeroA X 36 = some (.nilfunc) := by kernel_rfl
theorem sb_36 [SpC] : sbA X 36 = some (1, 8) := by kernel_rfl
theorem size_37 [SpC] : sizeA X 37 = some 16 := by kernel_rfl
theorem shape_37 [SpC] : shapeA X 37 = some (true, 16) := by kernel_rfl
theorem zero_37 [SpC] : zeroA X 37 = some (.agg [.bool false, .ro [] 0 false, .bool false, .ro [] 0 false, .bool false, .ro [] 0 false, .bool false, .ro [] 0 false, .bool false, .ro [] 0 false, .bool false, .ro [] 0 false, .bool false, .ro [] 0 false, .bool false, .ro [] 0 false]) := by kernel_rfl
theorem sb_37 [SpC] : sbA X 37 = some (16, 256) := by kernel_rfl
theorem und_37 [SpC] : X.P.underlying 37 = some (.struct flds_34) := by kernel_rfl
theorem size_38 [SpC] : sizeA X 38 = some 1 := by kernel_rfl
theorem shape_38 [SpC] : shapeA X 38 = some (false, 1) := by kernel_rfl
theorem zero_38 [SpC] : zeroA X 38 = some (.nilfunc) := by kernel_rfl
theorem sb_38 [SpC] : sbA X 38 = some (1, 8) := by kernel_rfl
theorem size_39 [SpC] : sizeA X 39 = some 1 := by kernel_rfl
theorem shape_39 [SpC] : shapeA X 39 = some (false, 1) := by kernel_rfl
theorem zero_39 [SpC] : zeroA X 39 = some (.nilfunc) := by kernel_rfl
theorem sb_39 [SpC] : sbA X 39 = some (1, 8) := by kernel_rfl
theorem size_40 [SpC] : sizeA X 40 = some 1 := by kernel_rfl
theorem shape_40 [SpC] : shapeA X 40 = some (false, 1) := by kernel_rfl
theorem zero_40 [SpC] : zeroA X 40 = some (.nilfunc) := by kernel_rfl
theorem sb_40 [SpC] : sbA X 40 = some (1, 8) := by kernel_rfl
theorem size_41 [SpC] : sizeA X 41 = some 1 := by kernel_rfl
theorem shape_41 [SpC] : shapeA X 41 = some (false, 1) := by kernel_rfl
theorem zero_41 [SpC] : zeroA X 41 = some (.nilfunc) := by kernel_rfl
theorem sb_41 [SpC] : sbA X 41 = some (1, 8) := by kernel_rfl
theorem size_42 [SpC] : sizeA X 42 = some 1 := by kernel_rfl
theorem shape_42 [SpC] : shapeA X 42 = some (false, 1) := by kernel_rfl
theorem zero_42 [SpC] : zeroA X 42 = some (.ro [] 0 true) := by kernel_rfl
theorem sb_42 [SpC] : sbA X 42 = some (1, 24) := by kernel_rfl
theorem und_42 [SpC] : X.P.underlying 42 = some (.slice 35) := Tryz.underlying42
theorem size_43 [SpC] : sizeA X 43 = some 1 := by kernel_rfl
theorem shape_43 [SpC] : shapeA X 43 = some (false, 1) := by kernel_rfl
theorem zero_43 [SpC] : zeroA X 43 = some (.nilfunc) := by kernel_rfl
theorem sb_43 [SpC] : sbA X 43 = some (1, 8) := by kernel_rfl
theorem size_44 [SpC] : sizeA X 44 = some 1 := by kernel_rfl
theorem shape_44 [SpC] : shapeA X 44 = some (false, 1) := by kernel_rfl
theorem zero_44 [SpC] : zeroA X 44 = some (.nilfunc) := by kernel_rfl
theorem sb_44 [SpC] : sbA X 44 = some (1, 8) := by kernel_rfl
theorem size_45 [SpC] : sizeA X 45 = some 1 := by kernel_rfl
theorem shape_45 [SpC] : shapeA X 45 = some (false, 1) := by kernel_rfl
theorem zero_45 [SpC] : zeroA X 45 = some (.nilfunc) := by kernel_rfl
theorem sb_45 [SpC] : sbA X 45 = some (1, 8) := by kernel_rfl
theorem size_46 [SpC] : sizeA X 46 = some 1 := by kernel_rfl
theorem shape_46 [SpC] : shapeA X 46 = some (false, 1) := by kernel_rfl
theorem zero_46 [SpC] : zeroA X 46 = some (.nilfunc) := by kernel_rfl
theorem sb_46 [SpC] : sbA X 46 = some (1, 8) := by kernel_rfl
theorem size_47 [SpC] : sizeA X 47 = some 1 := by kernel_rfl
theorem shape_47 [SpC] : shapeA X 47 = some (false, 1) := by kernel_rfl
theorem zero_47 [SpC] : zeroA X 47 = some (.nilfunc) := by kernel_rfl
theorem sb_47 [SpC] : sbA X 47 = some (1, 8) := by kernel_rfl
theorem size_48 [SpC] : sizeA X 48 = some 1 := by kernel_rfl
theorem shape_48 [SpC] : shapeA X 48 = some (false, 1) := by kernel_rfl
theorem zero_48 [SpC] : zeroA X 48 = some (.nilfunc) := by kernel_rfl
theorem sb_48 [SpC] : sbA X 48 = some (1, 8) := by kernel_rfl
theorem size_49 [SpC] : sizeA X 49 = some 1 := by kernel_rfl
theorem shape_49 [SpC] : shapeA X 49 = some (false, 1) := by kernel_rfl
theorem zero_49 [SpC] : zeroA X 49 = some (.nilfunc) := by kernel_rfl
theorem sb_49 [SpC] : sbA X 49 = some (1, 8) := by kernel_rfl
theorem size_50 [SpC] : sizeA X 50 = some 1 := by kernel_rfl
theorem shape_50 [SpC] : shapeA X 50 = some (false, 1) := by kernel_rfl
theorem zero_50 [SpC] : zeroA X 50 = some (.ro [] 0 true) := by kernel_rfl
theorem sb_50 [SpC] : sbA X 50 = some (1, 24) := by kernel_rfl
theorem und_50 [SpC] : X.P.underlying 50 = some (.slice 37) := Tryz.underlying50
theorem size_51 [SpC] : sizeA X 51 = some 1 := by kernel_rfl
theorem shape_51 [SpC] : shapeA X 51 = some (false, 1) := by kernel_rfl
theorem zero_51 [SpC] : zeroA X 51 = some (.nilfunc) := by kernel_rfl
theorem sb_51 [SpC] : sbA X 51 = some (1, 8) := by kernel_rfl
theorem size_52 [SpC] : sizeA X 52 = some 1 := by kernel_rfl
theorem shape_52 [SpC] : shapeA X 52 = some (false, 1) := by kernel_rfl
theorem zero_52 [SpC] : zeroA X 52 = some (.nilfunc) := by kernel_rfl
theorem sb_52 [SpC] : sbA X 52 = some (1, 8) := by kernel_rfl
theorem size_53 [SpC] : sizeA X 53 = some 1 := by kernel_rfl
theorem shape_53 [SpC] : shapeA X 53 = some (false, 1) := by kernel_rfl
theorem zero_53 [SpC] : zeroA X 53 = some (.nilfunc) := by kernel_rfl
theorem sb_53 [SpC] : sbA X 53 = some (1, 8) := by kernel_rfl
theorem size_54 [SpC] : sizeA X 54 = some 1 := by kernel_rfl
theorem shape_54 [SpC] : shapeA X 54 = some (false, 1) := by kernel_rfl
theorem zero_54 [SpC] : zeroA X 54 = some (.nilfunc) := by kernel_rfl
theorem sb_54 [SpC] : sbA X 54 = some (1, 8) := by kernel_rfl
theorem size_55 [SpC] : sizeA X 55 = some 1 := by kernel_rfl
theorem shape_55 [SpC] : shapeA X 55 = some (false, 1) := by kernel_rfl
theorem zero_55 [SpC] : zeroA X 55 = some (.nilfunc) := by kernel_rfl
theorem sb_55 [SpC] : sbA X 55 = some (1, 8) := by kernel_rfl
theorem size_56 [SpC] : sizeA X 56 = some 1 := by kernel_rfl
theorem shape_56 [SpC] : shapeA X 56 = some (false, 1) := by kernel_rfl
theorem zero_56 [SpC] : zeroA X 56 = some (.nilfunc) := by kernel_rfl
theorem sb_56 [SpC] : sbA X 56 = some (1, 8) := by kernel_rfl
theorem size_57 [SpC] : sizeA X 57 = some 1 := by kernel_rfl
theorem shape_57 [SpC] : shapeA X 57 = some (false, 1) := by kernel_rfl
theorem zero_57 [SpC] : zeroA X 57 = some (.ro [] 0 true) := by kernel_rfl
theorem sb_57 [SpC] : sbA X 57 = some (1, 24) := by kernel_rfl
theorem und_57 [SpC] : X.P.underlying 57 = some (.slice 28) := Tryz.underlying57
theorem size_58 [SpC] : sizeA X 58 = some 2 := by kernel_rfl
theorem shape_58 [SpC] : shapeA X 58 = some (true, 2) := by kernel_rfl
theorem zero_58 [SpC] : zeroA X 58 = some (.agg [.int .i64 0, .int .i64 0]) := by kernel_rfl
theorem sb_58 [SpC] : sbA X 58 = some (2, 16) := by kernel_rfl
noncomputable def flds_58 : Array Field := match Tryz.prog.underlying 58 with | some (.struct f) => f | _ => #[]
theorem und_58 [SpC] : X.P.underlying 58 = some (.struct flds_58) := by kernel_rfl
theorem size_59 [SpC] : sizeA X 59 = some 2 := by kernel_rfl
theorem shape_59 [SpC] : shapeA X 59 = some (true, 2) := by kernel_rfl
theorem zero_59 [SpC] : zeroA X 59 = some (.agg [.int .i64 0, .int .i64 0]) := by kernel_rfl
theorem sb_59 [SpC] : sbA X 59 = some (2, 16) := by kernel_rfl
theorem und_59 [SpC] : X.P.underlying 59 = some (.struct flds_58) := by kernel_rfl
theorem size_60 [SpC] : sizeA X 60 = some 1 := by kernel_rfl
theorem shape_60 [SpC] : shapeA X 60 = some (false, 1) := by kernel_rfl
theorem zero_60 [SpC] : zeroA X 60 = some (.nilfunc) := by kernel_rfl
theorem sb_60 [SpC] : sbA X 60 = some (1, 8) := by kernel_rfl
theorem size_61 [SpC] : sizeA X 61 = some 1 := by kernel_rfl
theorem shape_61 [SpC] : shapeA X 61 = some (false, 1) := by kernel_rfl
theorem zero_61 [SpC] : zeroA X 61 = some (.nilfunc) := by kernel_rfl
theorem sb_61 [SpC] : sbA X 61 = some (1, 8) := by kernel_rfl
theorem size_62 [SpC] : sizeA X 62 = some 1 := by kernel_rfl
theorem shape_62 [SpC] : shapeA X 62 = some (false, 1) := by kernel_rfl
theorem zero_62 [SpC] : zeroA X 62 = some (.nilfunc) := by kernel_rfl
theorem sb_62 [SpC] : sbA X 62 = some (1, 8) := by kernel_rfl
theorem size_63 [SpC] : sizeA X 63 = some 1 := by kernel_rfl
theorem shape_63 [SpC] : shapeA X 63 = some (false, 1) := by kernel_rfl
theorem zero_63 [SpC] : zeroA X 63 = some (.nilfunc) := by kernel_rfl
theorem sb_63 [SpC] : sbA X 63 = some (1, 8) := by kernel_rfl
theorem size_64 [SpC] : sizeA X 64 = some 1 := by kernel_rfl
theorem shape_64 [SpC] : shapeA X 64 = some (false, 1) := by kernel_rfl
theorem zero_64 [SpC] : zeroA X 64 = some (.ro [] 0 true) := by kernel_rfl
theorem sb_64 [SpC] : sbA X 64 = some (1, 24) := by kernel_rfl
theorem und_64 [SpC] : X.P.underlying 64 = some (.slice 87) := Tryz.underlying64
theorem size_65 [SpC] : sizeA X 65 = some 1 := by kernel_rfl
theorem shape_65 [SpC] : shapeA X 65 = some (false, 1) := by kernel_rfl
theorem zero_65 [SpC] : zeroA X 65 = some (.nilfunc) := by kernel_rfl
theorem sb_65 [SpC] : sbA X 65 = some (1, 8) := by kernel_rfl
theorem size_66 [SpC] : sizeA X 66 = some 1 := by kernel_rfl
theorem shape_66 [SpC] : shapeA X 66 = some (false, 1) := by kernel_rfl
theorem zero_66 [SpC] : zeroA X 66 = some (.nilfunc) := by kernel_rfl
theorem sb_66 [SpC] : sbA X 66 = some (1, 8) := by kernel_rfl
theorem size_67 [SpC] : sizeA X 67 = some 1 := by kernel_rfl
theorem shape_67 [SpC] : shapeA X 67 = some (false, 1) := by kernel_rfl
theorem zero_67 [SpC] : zeroA X 67 = some (.nilfunc) := by kernel_rfl
theorem sb_67 [SpC] : sbA X 67 = some (1, 8) := by kernel_rfl
theorem size_68 [SpC] : sizeA X 68 = some 1 := by kernel_rfl
theorem shape_68 [SpC] : shapeA X 68 = some (false, 1) := by kernel_rfl
theorem zero_68 [SpC] : zeroA X 68 = some (.nilfunc) := by kernel_rfl
theorem sb_68 [SpC] : sbA X 68 = some (1, 8) := by kernel_rfl
theorem size_69 [SpC] : sizeA X 69 = some 1 := by kernel_rfl
theorem shape_69 [SpC] : shapeA X 69 = some (false, 1) := by kernel_rfl
theorem zero_69 [SpC] : zeroA X 69 = some (.nilfunc) := by kernel_rfl
theorem sb_69 [SpC] : sbA X 69 = some (1, 8) := by kernel_rfl
theorem size_70 [SpC] : sizeA X 70 = some 1 := by kernel_rfl
theorem shape_70 [SpC] : shapeA X 70 = some (false, 1) := by kernel_rfl
theorem zero_70 [SpC] : zeroA X 70 = some (.ro [] 0 true) := by kernel_rfl
theorem sb_70 [SpC] : sbA X 70 = some (1, 24) := by kernel_rfl
theorem und_70 [SpC] : X.P.underlying 70 = some (.slice 113) := Tryz.underlying70
theorem size_71 [SpC] : sizeA X 71 = some 1 := by kernel_rfl
theorem shape_71 [SpC] : shapeA X 71 = some (false, 1) := by kernel_rfl
theorem zero_71 [SpC] : zeroA X 71 = some (.nilfunc) := by kernel_rfl
theorem sb_71 [SpC] : sbA X 71 = some (1, 8) := by kernel_rfl
theorem size_72 [SpC] : sizeA X 72 = some 1 := by kernel_rfl
theorem shape_72 [SpC] : shapeA X 72 = some (false, 1) := by kernel_rfl
theorem zero_72 [SpC] : zeroA X 72 = some (.nilfunc) := by kernel_rfl
theorem sb_72 [SpC] : sbA X 72 = some (1, 8) := by kernel_rfl
theorem size_73 [SpC] : sizeA X 73 = some 1 := by kernel_rfl
theorem shape_73 [SpC] : shapeA X 73 = some (false, 1) := by kernel_rfl
theorem zero_73 [SpC] : zeroA X 73 = some (.nilfunc) := by kernel_rfl
theorem sb_73 [SpC] : sbA X 73 = some (1, 8) := by kernel_rfl
theorem size_74 [SpC] : sizeA X 74 = some 1 := by kernel_rfl
theorem shape_74 [SpC] : shapeA X 74 = some (false, 1) := by kernel_rfl
theorem zero_74 [SpC] : zeroA X 74 = some (.nilfunc) := by kernel_rfl
theorem sb_74 [SpC] : sbA X 74 = some (1, 8) := by kernel_rfl
theorem size_75 [SpC] : sizeA X 75 = some 1 := by kernel_rfl
theorem shape_75 [SpC] : shapeA X 75 = some (false, 1) := by kernel_rfl
theorem zero_75 [SpC] : zeroA X 75 = some (.nilfunc) := by kernel_rfl
theorem sb_75 [SpC] : sbA X 75 = some (1, 8) := by kernel_rfl
theorem size_76 [SpC] : sizeA X 76 = some 8 := by kernel_rfl
theorem shape_76 [SpC] : shapeA X 76 = some (true, 8) := by kernel_rfl
theorem zero_76 [SpC] : zeroA X 76 = some (.agg [.bool false, .ro [] 0 false, .bool false, .ro [] 0 false, .bool false, .ro [] 0 false, .bool false, .ro [] 0 false]) := by kernel_rfl
theorem sb_76 [SpC] : sbA X 76 = some (8, 128) := by kernel_rfl
theorem und_76 [SpC] : X.P.underlying 76 = some (.array 2 28) := Tryz.underlying76
theorem size_77 [SpC] : sizeA X 77 = some 1 := by kernel_rfl
theorem shape_77 [SpC] : shapeA X 77 = some (false, 1) := by kernel_rfl
theorem zero_77 [SpC] : zeroA X 77 = some (.nilfunc) := by kernel_rfl
theorem sb_77 [SpC] : sbA X 77 = some (1, 8) := by kernel_rfl
theorem size_78 [SpC] : sizeA X 78 = some 1 := by kernel_rfl
theorem shape_78 [SpC] : shapeA X 78 = some (false, 1) := by kernel_rfl
theorem zero_78 [SpC] : zeroA X 78 = some (.nilfunc) := by kernel_rfl
theorem sb_78 [SpC] : sbA X 78 = some (1, 8) := by kernel_rfl
theorem size_79 [SpC] : sizeA X 79 = some 2 := by kernel_rfl
theorem shape_79 [SpC] : shapeA X 79 = some (true, 2) := by kernel_rfl
theorem zero_79 [SpC] : zeroA X 79 = some (.agg [.nilfunc, .nilfunc]) := by kernel_rfl
theorem sb_79 [SpC] : sbA X 79 = some (2, 16) := by kernel_rfl
noncomputable def flds_79 : Array Field := match Tryz.prog.underlying 79 with | some (.struct f) => f | _ => #[]
theorem und_79 [SpC] : X.P.underlying 79 = some (.struct flds_79) := by kernel_rfl
theorem size_80 [SpC] : sizeA X 80 = some 2 := by kernel_rfl
theorem shape_80 [SpC] : shapeA X 80 = some (true, 2) := by kernel_rfl
theorem zero_80 [SpC] : zeroA X 80 = some (.agg [.nilfunc, .nilfunc]) := by kernel_rfl
theorem sb_80 [SpC] : sbA X 80 = some (2, 16) := by kernel_rfl
theorem und_80 [SpC] : X.P.underlying 80 = some (.struct flds_79) := by kernel_rfl
theorem size_81 [SpC] : sizeA X 81 = some 4 := by kernel_rfl
theorem shape_81 [SpC] : shapeA X 81 = some (true, 4) := by kernel_rfl
theorem zero_81 [SpC] : zeroA X 81 = some (.agg [.nilfunc, .nilfunc, .nilfunc, .nilfunc]) := by kernel_rfl
theorem sb_81 [SpC] : sbA X 81 = some (4, 32) := by kernel_rfl
theorem und_81 [SpC] : X.P.underlying 81 = some (.array 2 80) := Tryz.underlying81
theorem size_82 [SpC] : sizeA X 82 = some 1 := by kernel_rfl
theorem shape_82 [SpC] : shapeA X 82 = some (false, 1) := by kernel_rfl
theorem zero_82 [SpC] : zeroA X 82 = some (.nilfunc) := by kernel_rfl
theorem sb_82 [SpC] : sbA X 82 = some (1, 8) := by kernel_rfl
theorem size_83 [SpC] : sizeA X 83 = some 1 := by kernel_rfl
theorem shape_83 [SpC] : shapeA X 83 = some (false, 1) := by kernel_rfl
theorem zero_83 [SpC] : zeroA X 83 = some (.nilfunc) := by kernel_rfl
theorem sb_83 [SpC] : sbA X 83 = some (1, 8) := by kernel_rfl
theorem size_85 [SpC] : sizeA X 85 = some 1 := by kernel_rfl
theorem shape_85 [SpC] : shapeA X 85 = some (false, 1) := by kernel_rfl
theorem zero_85 [SpC] : zeroA X 85 = some (.nilfunc) := by kernel_rfl
theorem sb_85 [SpC] : sbA X 85 = some (1, 8) := by kernel_rfl
theorem size_86 [SpC] : sizeA X 86 = some 1 := by kernel_rfl
theorem shape_86 [SpC] : shapeA X 86 = some (false, 1) := by kernel_rfl
theorem zero_86 [SpC] : zeroA X 86 = some (.nilfunc) := by kernel_rfl
theorem sb_86 [SpC] : sbA X 86 = some (1, 8) := by kernel_rfl
theorem size_87 [SpC] : sizeA X 87 = some 2 := by kernel_rfl
theorem shape_87 [SpC] : shapeA X 87 = some (true, 2) := by kernel_rfl
theorem zero_87 [SpC] : zeroA X 87 = some (.agg [.int .i64 0, .int .i64 0]) := by kernel_rfl
theorem sb_87 [SpC] : sbA X 87 = some (2, 16) := by kernel_rfl
theorem und_87 [SpC] : X.P.underlying 87 = some (.array 2 3) := Tryz.underlying87
theorem size_88 [SpC] : sizeA X 88 = some 1 := by kernel_rfl
theorem shape_88 [SpC] : shapeA X 88 = some (false, 1) := by kernel_rfl
theorem zero_88 [SpC] : zeroA X 88 = some (.nilfunc) := by kernel_rfl
theorem sb_88 [SpC] : sbA X 88 = some (1, 8) := by kernel_rfl
theorem size_89 [SpC] : sizeA X 89 = some 1 := by kernel_rfl
theorem shape_89 [SpC] : shapeA X 89 = some (false, 1) := by kernel_rfl
theorem zero_89 [SpC] : zeroA X 89 = some (.ro [] 0 true) := by kernel_rfl
theorem sb_89 [SpC] : sbA X 89 = some (1, 24) := by kernel_rfl
theorem und_89 [SpC] : X.P.underlying 89 = some (.slice 80) := Tryz.underlying89
theorem size_90 [SpC] : sizeA X 90 = some 1 := by kernel_rfl
theorem shape_90 [SpC] : shapeA X 90 = some (false, 1) := by kernel_rfl
theorem zero_90 [SpC] : zeroA X 90 = some (.nilfunc) := by kernel_rfl
theorem sb_90 [SpC] : sbA X 90 = some (1, 8) := by kernel_rfl
theorem size_91 [SpC] : sizeA X 91 = some 1 := by kernel_rfl
theorem shape_91 [SpC] : shapeA X 91 = some (false, 1) := by kernel_rfl
theorem zero_91 [SpC] : zeroA X 91 = some (.nilfunc) := by kernel_rfl
theorem sb_91 [SpC] : sbA X 91 = some (1, 8) := by kernel_rfl
theorem size_92 [SpC] : sizeA X 92 = some 1 := by kernel_rfl
theorem shape_92 [SpC] : shapeA X 92 = some (false, 1) := by kernel_rfl
theorem zero_92 [SpC] : zeroA X 92 = some (.nilfunc) := by kernel_rfl
theorem sb_92 [SpC] : sbA X 92 = some (1, 8) := by kernel_rfl
theorem size_93 [SpC] : sizeA X 93 = some 1 := by kernel_rfl
theorem shape_93 [SpC] : shapeA X 93 = some (false, 1) := by kernel_rfl
theorem zero_93 [SpC] : zeroA X 93 = some (.nilfunc) := by kernel_rfl
theorem sb_93 [SpC] : sbA X 93 = some (1, 8) := by kernel_rfl
theorem size_94 [SpC] : sizeA X 94 = some 1 := by kernel_rfl
theorem shape_94 [SpC] : shapeA X 94 = some (false, 1) := by kernel_rfl
theorem zero_94 [SpC] : zeroA X 94 = some (.nilfunc) := by kernel_rfl
theorem sb_94 [SpC] : sbA X 94 = some (1, 8) := by kernel_rfl
theorem size_95 [SpC] : sizeA X 95 = some 1 := by kernel_rfl
theorem shape_95 [SpC] : shapeA X 95 = some (false, 1) := by kernel_rfl
theorem zero_95 [SpC] : zeroA X 95 = some (.nilfunc) := by kernel_rfl
theorem sb_95 [SpC] : sbA X 95 = some (1, 8) := by kernel_rfl
theorem size_96 [SpC] : sizeA X 96 = some 1 := by kernel_rfl
theorem shape_96 [SpC] : shapeA X 96 = some (false, 1) := by kernel_rfl
theorem zero_96 [SpC] : zeroA X 96 = some (.nilfunc) := by kernel_rfl
theorem sb_96 [SpC] : sbA X 96 = some (1, 8) := by kernel_rfl
theorem size_97 [SpC] : sizeA X 97 = some 1 := by kernel_rfl
theorem shape_97 [SpC] : shapeA X 97 = some (false, 1) := by kernel_rfl
theorem zero_97 [SpC] : zeroA X 97 = some (.nilfunc) := by kernel_rfl
theorem sb_97 [SpC] : sbA X 97 = some (1, 8) := by kernel_rfl
theorem size_98 [SpC] : sizeA X 98 = some 1 := by kernel_rfl
theorem shape_98 [SpC] : shapeA X 98 = some (false, 1) := by kernel_rfl
theorem zero_98 [SpC] : zeroA X 98 = some (.nilmap) := by kernel_rfl
theorem sb_98 [SpC] : sbA X 98 = some (1, 8) := by kernel_rfl
theorem und_98 [SpC] : X.P.underlying 98 = some (.map 3 4) := Tryz.underlying98
theorem size_99 [SpC] : sizeA X 99 = some 1 := by kernel_rfl
theorem shape_99 [SpC] : shapeA X 99 = some (false, 1) := by kernel_rfl
theorem zero_99 [SpC] : zeroA X 99 = some (.nilfunc) := by kernel_rfl
theorem sb_99 [SpC] : sbA X 99 = some (1, 8) := by kernel_rfl
theorem size_100 [SpC] : sizeA X 100 = some 1 := by kernel_rfl
theorem shape_100 [SpC] : shapeA X 100 = some (false, 1) := by kernel_rfl
theorem zero_100 [SpC] : zeroA X 100 = some (.nilfunc) := by kernel_rfl
theorem sb_100 [SpC] : sbA X 100 = some (1, 8) := by kernel_rfl
theorem size_101 [SpC] : sizeA X 101 = some 1 := by kernel_rfl
theorem shape_101 [SpC] : shapeA X 101 = some (false, 1) := by kernel_rfl
theorem zero_101 [SpC] : zeroA X 101 = some (.nilfunc) := by kernel_rfl
theorem sb_101 [SpC] : sbA X 101 = some (1, 8) := by kernel_rfl
theorem size_102 [SpC] : sizeA X 102 = some 1 := by kernel_rfl
theorem shape_102 [SpC] : shapeA X 102 = some (false, 1) := by kernel_rfl
theorem zero_102 [SpC] : zeroA X 102 = some (.nilfunc) := by kernel_rfl
theorem sb_102 [SpC] : sbA X 102 = some (1, 8) := by kernel_rfl
theorem size_103 [SpC] : sizeA X 103 = some 1 := by kernel_rfl
theorem shape_103 [SpC] : shapeA X 103 = some (false, 1) := by kernel_rfl
theorem zero_103 [SpC] : zeroA X 103 = some (.nilfunc) := by kernel_rfl
theorem sb_103 [SpC] : sbA X 103 = some (1, 8) := by kernel_rfl
theorem size_104 [SpC] : sizeA X 104 = some 3 := by kernel_rfl
theorem shape_104 [SpC] : shapeA X 104 = some (true, 3) := by kernel_rfl
theorem zero_104 [SpC] : zeroA X 104 = some (.agg [.int .i64 0, .int .i64 0, .int .i64 0]) := by kernel_rfl
theorem sb_104 [SpC] : sbA X 104 = some (3, 24) := by kernel_rfl
noncomputable def flds_104 : Array Field := match Tryz.prog.underlying 104 with | some (.struct f) => f | _ => #[]
theorem und_104 [SpC] : X.P.underlying 104 = some (.struct flds_104) := by kernel_rfl
theorem size_105 [SpC] : sizeA X 105 = some 3 := by kernel_rfl
theorem shape_105 [SpC] : shapeA X 105 = some (true, 3) := by kernel_rfl
theorem zero_105 [SpC] : zeroA X 105 = some (.agg [.int .i64 0, .int .i64 0, .int .i64 0]) := by kernel_rfl
theorem sb_105 [SpC] : sbA X 105 = some (3, 24) := by kernel_rfl
theorem und_105 [SpC] : X.P.underlying 105 = some (.struct flds_104) := by kernel_rfl
theorem size_107 [SpC] : sizeA X 107 = some 1 := by kernel_rfl
theorem shape_107 [SpC] : shapeA X 107 = some (false, 1) := by kernel_rfl
theorem zero_107 [SpC] : zeroA X 107 = some (.nilfunc) := by kernel_rfl
theorem sb_107 [SpC] : sbA X 107 = some (1, 8) := by kernel_rfl
theorem size_108 [SpC] : sizeA X 108 = some 1 := by kernel_rfl
theorem shape_108 [SpC] : shapeA X 108 = some (false, 1) := by kernel_rfl
theorem zero_108 [SpC] : zeroA X 108 = some (.nilfunc) := by kernel_rfl
theorem sb_108 [SpC] : sbA X 108 = some (1, 8) := by kernel_rfl
theorem size_109 [SpC] : sizeA X 109 = some 1 := by kernel_rfl
theorem shape_109 [SpC] : shapeA X 109 = some (false, 1) := by kernel_rfl
theorem zero_109 [SpC] : zeroA X 109 = some (.nilfunc) := by kernel_rfl
theorem sb_109 [SpC] : sbA X 109 = some (1, 8) := by kernel_rfl
theorem size_110 [SpC] : sizeA X 110 = some 1 := by kernel_rfl
theorem shape_110 [SpC] : shapeA X 110 = some (false, 1) := by kernel_rfl
theorem zero_110 [SpC] : zeroA X 110 = some (.nilfunc) := by kernel_rfl
theorem sb_110 [SpC] : sbA X 110 = some (1, 8) := by kernel_rfl
theorem size_111 [SpC] : sizeA X 111 = some 1 := by kernel_rfl
theorem shape_111 [SpC] : shapeA X 111 = some (false, 1) := by kernel_rfl
theorem zero_111 [SpC] : zeroA X 111 = some (.nilfunc) := by kernel_rfl
theorem sb_111 [SpC] : sbA X 111 = some (1, 8) := by kernel_rfl
theorem size_112 [SpC] : sizeA X 112 = some 4 := by kernel_rfl
theorem shape_112 [SpC] : shapeA X 112 = some (true, 4) := by kernel_rfl
theorem zero_112 [SpC] : zeroA X 112 = some (.agg [.int .i64 0, .int .i64 0, .int .i64 0, .int .i64 0]) := by kernel_rfl
theorem sb_112 [SpC] : sbA X 112 = some (4, 32) := by kernel_rfl
noncomputable def flds_112 : Array Field := match Tryz.prog.underlying 112 with | some (.struct f) => f | _ => #[]
theorem und_112 [SpC] : X.P.underlying 112 = some (.struct flds_112) := by kernel_rfl
theorem size_113 [SpC] : sizeA X 113 = some 4 := by kernel_rfl
theorem shape_113 [SpC] : shapeA X 113 = some (true, 4) := by kernel_rfl
theorem zero_113 [SpC] : zeroA X 113 = some (.agg [.int .i64 0, .int .i64 0, .int .i64 0, .int .i64 0]) := by kernel_rfl
theorem sb_113 [SpC] : sbA X 113 = some (4, 32) := by kernel_rfl
theorem und_113 [SpC] : X.P.underlying 113 = some (.struct flds_112) := by kernel_rfl
theorem size_114 [SpC] : sizeA X 114 = some 1 := by kernel_rfl
theorem shape_114 [SpC] : shapeA X 114 = some (false, 1) := by kernel_rfl
theorem zero_114 [SpC] : zeroA X 114 = some (.nilfunc) := by kernel_rfl
theorem sb_114 [SpC] : sbA X 114 = some (1, 8) := by kernel_rfl
theorem size_115 [SpC] : sizeA X 115 = some 1 := by kernel_rfl
theorem shape_115 [SpC] : shapeA X 115 = some (false, 1) := by kernel_rfl
theorem zero_115 [SpC] : zeroA X 115 = some (.nilfunc) := by kernel_rfl
theorem sb_115 [SpC] : sbA X 115 = some (1, 8) := by kernel_rfl
theorem size_116 [SpC] : sizeA X 116 = some 1 := by kernel_rfl
theorem shape_116 [SpC] : shapeA X 116 = some (false, 1) := by kernel_rfl
theorem zero_116 [SpC] : zeroA X 116 = some (.nilfunc) := by kernel_rfl
theorem sb_116 [SpC] : sbA X 116 = some (1, 8) := by kernel_rfl
theorem size_117 [SpC] : sizeA X 117 = some 1 := by kernel_rfl
theorem shape_117 [SpC] : shapeA X 117 = some (false, 1) := by kernel_rfl
theorem zero_117 [SpC] : zeroA X 117 = some (.nilfunc) := by kernel_rfl
theorem sb_117 [SpC] : sbA X 117 = some (1, 8) := by kernel_rfl
theorem size_118 [SpC] : sizeA X 118 = some 1 := by kernel_rfl
theorem shape_118 [SpC] : shapeA X 118 = some (false, 1) := by kernel_rfl
theorem zero_118 [SpC] : zeroA X 118 = some (.nilfunc) := by kernel_rfl
theorem sb_118 [SpC] : sbA X 118 = some (1, 8) := by kernel_rfl
theorem size_119 [SpC] : sizeA X 119 = some 1 := by kernel_rfl
theorem shape_119 [SpC] : shapeA X 119 = some (false, 1) := by kernel_rfl
theorem zero_119 [SpC] : zeroA X 119 = some (.nilfunc) := by kernel_rfl
theorem sb_119 [SpC] : sbA X 119 = some (1, 8) := by kernel_rfl
theorem size_120 [SpC] : sizeA X 120 = some 1 := by kernel_rfl
theorem shape_120 [SpC] : shapeA X 120 = some (false, 1) := by kernel_rfl
theorem zero_120 [SpC] : zeroA X 120 = some (.nilfunc) := by kernel_rfl
theorem sb_120 [SpC] : sbA X 120 = some (1, 8) := by kernel_rfl
theorem size_121 [SpC] : sizeA X 121 = some 1 := by kernel_rfl
theorem shape_121 [SpC] : shapeA X 121 = some (false, 1) := by kernel_rfl
theorem zero_121 [SpC] : zeroA X 121 = some (.nilfunc) := by kernel_rfl
theorem sb_121 [SpC] : sbA X 121 = some (1, 8) := by kernel_rfl
theorem size_122 [SpC] : sizeA X 122 = some 1 := by kernel_rfl
theorem shape_122 [SpC] : shapeA X 122 = some (false, 1) := by kernel_rfl
theorem zero_122 [SpC] : zeroA X 122 = some (.nilfunc) := by kernel_rfl
theorem sb_122 [SpC] : sbA X 122 = some (1, 8) := by kernel_rfl
theorem size_124 [SpC] : sizeA X 124 = some 1 := by kernel_rfl
theorem shape_124 [SpC] : shapeA X 124 = some (false, 1) := by kernel_rfl
theorem zero_124 [SpC] : zeroA X 124 = some (.nilfunc) := by kernel_rfl
theorem sb_124 [SpC] : sbA X 124 = some (1, 8) := by kernel_rfl
theorem size_125 [SpC] : sizeA X 125 = some 1 := by kernel_rfl
theorem shape_125 [SpC] : shapeA X 125 = some (false, 1) := by kernel_rfl
theorem zero_125 [SpC] : zeroA X 125 = some (.nilfunc) := by kernel_rfl
theorem sb_125 [SpC] : sbA X 125 = some (1, 8) := by kernel_rfl
theorem size_126 [SpC] : sizeA X 126 = some 1 := by kernel_rfl
theorem shape_126 [SpC] : shapeA X 126 = some (false, 1) := by kernel_rfl
theorem zero_126 [SpC] : zeroA X 126 = some (.nilfunc) := by kernel_rfl
theorem sb_126 [SpC] : sbA X 126 = some (1, 8) := by kernel_rfl
theorem size_127 [SpC] : sizeA X 127 = some 1 := by kernel_rfl
theorem shape_127 [SpC] : shapeA X 127 = some (false, 1) := by kernel_rfl
theorem zero_127 [SpC] : zeroA X 127 = some (.nilfunc) := by kernel_rfl
theorem sb_127 [SpC] : sbA X 127 = some (1, 8) := by kernel_rfl
theorem size_128 [SpC] : sizeA X 128 = some 1 := by kernel_rfl
theorem shape_128 [SpC] : shapeA X 128 = some (false, 1) := by kernel_rfl
theorem zero_128 [SpC] : zeroA X 128 = some (.nilfunc) := by kernel_rfl
theorem sb_128 [SpC] : sbA X 128 = some (1, 8) := by kernel_rfl
theorem size_129 [SpC] : sizeA X 129 = some 1 := by kernel_rfl
theorem shape_129 [SpC] : shapeA X 129 = some (false, 1) := by kernel_rfl
theorem zero_129 [SpC] : zeroA X 129 = some (.nilfunc) := by kernel_rfl
theorem sb_129 [SpC] : sbA X 129 = some (1, 8) := by kernel_rfl
theorem size_130 [SpC] : sizeA X 130 = some 1 := by kernel_rfl
theorem shape_130 [SpC] : shapeA X 130 = some (false, 1) := by kernel_rfl
theorem zero_130 [SpC] : zeroA X 130 = some (.nilfunc) := by kernel_rfl
theorem sb_130 [SpC] : sbA X 130 = some (1, 8) := by kernel_rfl
theorem size_131 [SpC] : sizeA X 131 = some 1 := by kernel_rfl
theorem shape_131 [SpC] : shapeA X 131 = some (false, 1) := by kernel_rfl
theorem zero_131 [SpC] : zeroA X 131 = some (.nilfunc) := by kernel_rfl
theorem sb_131 [SpC] : sbA X 131 = some (1, 8) := by kernel_rfl
theorem size_132 [SpC] : sizeA X 132 = some 1 := by kernel_rfl
theorem shape_132 [SpC] : shapeA X 132 = some (false, 1) := by kernel_rfl
theorem zero_132 [SpC] : zeroA X 132 = some (.int .u64 0) := by kernel_rfl
theorem sb_132 [SpC] : sbA X 132 = some (1, 8) := by kernel_rfl
theorem und_132 [SpC] : X.P.underlying 132 = some (.int .u64) := Tryz.underlying132
theorem size_133 [SpC] : sizeA X 133 = some 1 := by kernel_rfl
theorem shape_133 [SpC] : shapeA X 133 = some (false, 1) := by kernel_rfl
theorem zero_133 [SpC] : zeroA X 133 = some (.nilfunc) := by kernel_rfl
theorem sb_133 [SpC] : sbA X 133 = some (1, 8) := by kernel_rfl
theorem size_134 [SpC] : sizeA X 134 = some 1 := by kernel_rfl
theorem shape_134 [SpC] : shapeA X 134 = some (false, 1) := by kernel_rfl
theorem zero_134 [SpC] : zeroA X 134 = some (.nilfunc) := by kernel_rfl
theorem sb_134 [SpC] : sbA X 134 = some (1, 8) := by kernel_rfl
theorem size_136 [SpC] : sizeA X 136 = some 1 := by kernel_rfl
theorem shape_136 [SpC] : shapeA X 136 = some (false, 1) := by kernel_rfl
theorem zero_136 [SpC] : zeroA X 136 = some (.nilfunc) := by kernel_rfl
theorem sb_136 [SpC] : sbA X 136 = some (1, 8) := by kernel_rfl
theorem size_138 [SpC] : sizeA X 138 = some 1 := by kernel_rfl
theorem shape_138 [SpC] : shapeA X 138 = some (false, 1) := by kernel_rfl
theorem zero_138 [SpC] : zeroA X 138 = some (.nilfunc) := by kernel_rfl
theorem sb_138 [SpC] : sbA X 138 = some (1, 8) := by kernel_rfl
theorem size_139 [SpC] : sizeA X 139 = some 1 := by kernel_rfl
theorem shape_139 [SpC] : shapeA X 139 = some (false, 1) := by kernel_rfl
theorem zero_139 [SpC] : zeroA X 139 = some (.nilfunc) := by kernel_rfl
theorem sb_139 [SpC] : sbA X 139 = some (1, 8) := by kernel_rfl
theorem size_140 [SpC] : sizeA X 140 = some 1 := by kernel_rfl
theorem shape_140 [SpC] : shapeA X 140 = some (false, 1) := by kernel_rfl
theorem zero_140 [SpC] : zeroA X 140 = some (.nilfunc) := by kernel_rfl
theorem sb_140 [SpC] : sbA X 140 = some (1, 8) := by kernel_rfl
theorem size_141 [SpC] : sizeA X 141 = some 1 := by kernel_rfl
theorem shape_141 [SpC] : shapeA X 141 = some (false, 1) := by kernel_rfl
theorem zero_141 [SpC] : zeroA X 141 = some (.nilfunc) := by kernel_rfl
theorem sb_141 [SpC] : sbA X 141 = some (1, 8) := by kernel_rfl
theorem size_142 [SpC] : sizeA X 142 = some 1 := by kernel_rfl
theorem shape_142 [SpC] : shapeA X 142 = some (false, 1) := by kernel_rfl
theorem zero_142 [SpC] : zeroA X 142 = some (.nilfunc) := by kernel_rfl
theorem sb_142 [SpC] : sbA X 142 = some (1, 8) := by kernel_rfl
theorem size_143 [SpC] : sizeA X 143 = some 1 := by kernel_rfl
theorem shape_143 [SpC] : shapeA X 143 = some (false, 1) := by kernel_rfl
theorem zero_143 [SpC] : zeroA X 143 = some (.nilfunc) := by kernel_rfl
theorem sb_143 [SpC] : sbA X 143 = some (1, 8) := by kernel_rfl
theorem size_144 [SpC] : sizeA X 144 = some 1 := by kernel_rfl
theorem shape_144 [SpC] : shapeA X 144 = some (false, 1) := by kernel_rfl
theorem zero_144 [SpC] : zeroA X 144 = some (.nilfunc) := by kernel_rfl
theorem sb_144 [SpC] : sbA X 144 = some (1, 8) := by kernel_rfl
theorem size_145 [SpC] : sizeA X 145 = some 1 := by kernel_rfl
theorem shape_145 [SpC] : shapeA X 145 = some (false, 1) := by kernel_rfl
theorem zero_145 [SpC] : zeroA X 145 = some (.int .u64 0) := by kernel_rfl
theorem sb_145 [SpC] : sbA X 145 = some (1, 8) := by kernel_rfl
theorem und_145 [SpC] : X.P.underlying 145 = some (.int .u64) := Tryz.underlying145
theorem size_146 [SpC] : sizeA X 146 = some 1 := by kernel_rfl
theorem shape_146 [SpC] : shapeA X 146 = some (false, 1) := by kernel_rfl
theorem zero_146 [SpC] : zeroA X 146 = some (.nilfunc) := by kernel_rfl
theorem sb_146 [SpC] : sbA X 146 = some (1, 8) := by kernel_rfl
theorem size_148 [SpC] : sizeA X 148 = some 1 := by kernel_rfl
theorem shape_148 [SpC] : shapeA X 148 = some (false, 1) := by kernel_rfl
theorem zero_148 [SpC] : zeroA X 148 = some (.nilfunc) := by kernel_rfl
theorem sb_148 [SpC] : sbA X 148 = some (1, 8) := by kernel_rfl
theorem size_149 [SpC] : sizeA X 149 = some 1 := by kernel_rfl
theorem shape_149 [SpC] : shapeA X 149 = some (false, 1) := by kernel_rfl
theorem zero_149 [SpC] : zeroA X 149 = some (.nilfunc) := by kernel_rfl
theorem sb_149 [SpC] : sbA X 149 = some (1, 8) := by kernel_rfl
theorem size_150 [SpC] : sizeA X 150 = some 1 := by kernel_rfl
theorem shape_150 [SpC] : shapeA X 150 = some (false, 1) := by kernel_rfl
theorem zero_150 [SpC] : zeroA X 150 = some (.nilfunc) := by kernel_rfl
theorem sb_150 [SpC] : sbA X 150 = some (1, 8) := by kernel_rfl
theorem size_151 [SpC] : sizeA X 151 = some 1 := by kernel_rfl
theorem shape_151 [SpC] : shapeA X 151 = some (false, 1) := by kernel_rfl
theorem zero_151 [SpC] : zeroA X 151 = some (.int .i64 0) := by kernel_rfl
theorem sb_151 [SpC] : sbA X 151 = some (1, 8) := by kernel_rfl
theorem und_151 [SpC] : X.P.underlying 151 = some (.int .i64) := Tryz.underlying151
theorem size_153 [SpC] : sizeA X 153 = some 1 := by kernel_rfl
theorem shape_153 [SpC] : shapeA X 153 = some (false, 1) := by kernel_rfl
theorem zero_153 [SpC] : zeroA X 153 = some (.nilfunc) := by kernel_rfl
theorem sb_153 [SpC] : sbA X 153 = some (1, 8) := by kernel_rfl
theorem size_154 [SpC] : sizeA X 154 = some 1 := by kernel_rfl
theorem shape_154 [SpC] : shapeA X 154 = some (false, 1) := by kernel_rfl
theorem zero_154 [SpC] : zeroA X 154 = some (.nilfunc) := by kernel_rfl
theorem sb_154 [SpC] : sbA X 154 = some (1, 8) := by kernel_rfl
theorem size_155 [SpC] : sizeA X 155 = some 1 := by kernel_rfl
theorem shape_155 [SpC] : shapeA X 155 = some (false, 1) := by kernel_rfl
theorem zero_155 [SpC] : zeroA X 155 = some (.nilfunc) := by kernel_rfl
theorem sb_155 [SpC] : sbA X 155 = some (1, 8) := by kernel_rfl
theorem size_156 [SpC] : sizeA X 156 = some 1 := by kernel_rfl
theorem shape_156 [SpC] : shapeA X 156 = some (false, 1) := by kernel_rfl
theorem zero_156 [SpC] : zeroA X 156 = some (.nilfunc) := by kernel_rfl
theorem sb_156 [SpC] : sbA X 156 = some (1, 8) := by kernel_rfl
theorem size_157 [SpC] : sizeA X 157 = some 1 := by kernel_rfl
theorem shape_157 [SpC] : shapeA X 157 = some (false, 1) := by kernel_rfl
theorem zero_157 [SpC] : zeroA X 157 = some (.nilfunc) := by kernel_rfl
theorem sb_157 [SpC] : sbA X 157 = some (1, 8) := by kernel_rfl
theorem size_158 [SpC] : sizeA X 158 = some 1 := by kernel_rfl
theorem shape_158 [SpC] : shapeA X 158 = some (false, 1) := by kernel_rfl
theorem zero_158 [SpC] : zeroA X 158 = some (.int .u32 0) := by kernel_rfl
theorem sb_158 [SpC] : sbA X 158 = some (1, 4) := by kernel_rfl
theorem und_158 [SpC] : X.P.underlying 158 = some (.int .u32) := Tryz.underlying158
theorem size_159 [SpC] : sizeA X 159 = some 1 := by kernel_rfl
theorem shape_159 [SpC] : shapeA X 159 = some (false, 1) := by kernel_rfl
theorem zero_159 [SpC] : zeroA X 159 = some (.nilfunc) := by kernel_rfl
theorem sb_159 [SpC] : sbA X 159 = some (1, 8) := by kernel_rfl
theorem size_160 [SpC] : sizeA X 160 = some 1 := by kernel_rfl
theorem shape_160 [SpC] : shapeA X 160 = some (false, 1) := by kernel_rfl
theorem zero_160 [SpC] : zeroA X 160 = some (.nilfunc) := by kernel_rfl
theorem sb_160 [SpC] : sbA X 160 = some (1, 8) := by kernel_rfl
theorem size_161 [SpC] : sizeA X 161 = some 1 := by kernel_rfl
theorem shape_161 [SpC] : shapeA X 161 = some (false, 1) := by kernel_rfl
theorem zero_161 [SpC] : zeroA X 161 = some (.nilfunc) := by kernel_rfl
theorem sb_161 [SpC] : sbA X 161 = some (1, 8) := by kernel_rfl
theorem size_162 [SpC] : sizeA X 162 = some 1 := by kernel_rfl
theorem shape_162 [SpC] : shapeA X 162 = some (false, 1) := by kernel_rfl
theorem zero_162 [SpC] : zeroA X 162 = some (.nilfunc) := by kernel_rfl
theorem sb_162 [SpC] : sbA X 162 = some (1, 8) := by kernel_rfl
theorem size_163 [SpC] : sizeA X 163 = some 1 := by kernel_rfl
theorem shape_163 [SpC] : shapeA X 163 = some (false, 1) := by kernel_rfl
theorem zero_163 [SpC] : zeroA X 163 = some (.nilfunc) := by kernel_rfl
theorem sb_163 [SpC] : sbA X 163 = some (1, 8) := by kernel_rfl
theorem size_164 [SpC] : sizeA X 164 = some 1 := by kernel_rfl
theorem shape_164 [SpC] : shapeA X 164 = some (false, 1) := by kernel_rfl
theorem zero_164 [SpC] : zeroA X 164 = some (.nilfunc) := by kernel_rfl
theorem sb_164 [SpC] : sbA X 164 = some (1, 8) := by kernel_rfl
theorem size_165 [SpC] : sizeA X 165 = some 1 := by kernel_rfl
theorem shape_165 [SpC] : shapeA X 165 = some (false, 1) := by kernel_rfl
theorem zero_165 [SpC] : zeroA X 165 = some (.nilfunc) := by kernel_rfl
theorem sb_165 [SpC] : sbA X 165 = some (1, 8) := by kernel_rfl
theorem size_166 [SpC] : sizeA X 166 = some 1 := by kernel_rfl
theorem shape_166 [SpC] : shapeA X 166 = some (false, 1) := by kernel_rfl
theorem zero_166 [SpC] : zeroA X 166 = some (.nilfunc) := by kernel_rfl
theorem sb_166 [SpC] : sbA X 166 = some (1, 8) := by kernel_rfl
theorem size_167 [SpC] : sizeA X 167 = some 1 := by kernel_rfl
theorem shape_167 [SpC] : shapeA X 167 = some (false, 1) := by kernel_rfl
theorem zero_167 [SpC] : zeroA X 167 = some (.nilfunc) := by kernel_rfl
theorem sb_167 [SpC] : sbA X 167 = some (1, 8) := by kernel_rfl
theorem size_168 [SpC] : sizeA X 168 = some 1 := by kernel_rfl
theorem shape_168 [SpC] : shapeA X 168 = some (false, 1) := by kernel_rfl
theorem zero_168 [SpC] : zeroA X 168 = some (.int .u64 0) := by kernel_rfl
theorem sb_168 [SpC] : sbA X 168 = some (1, 8) := by kernel_rfl
theorem und_168 [SpC] : X.P.underlying 168 = some (.int .u64) := Tryz.underlying168
theorem size_169 [SpC] : sizeA X 169 = some 1 := by kernel_rfl
theorem shape_169 [SpC] : shapeA X 169 = some (false, 1) := by kernel_rfl
theorem zero_169 [SpC] : zeroA X 169 = some (.nilfunc) := by kernel_rfl
theorem sb_169 [SpC] : sbA X 169 = some (1, 8) := by kernel_rfl
theorem size_170 [SpC] : sizeA X 170 = some 1 := by kernel_rfl
theorem shape_170 [SpC] : shapeA X 170 = some (false, 1) := by kernel_rfl
theorem zero_170 [SpC] : zeroA X 170 = some (.nilfunc) := by kernel_rfl
theorem sb_170 [SpC] : sbA X 170 = some (1, 8) := by kernel_rfl
theorem size_171 [SpC] : sizeA X 171 = some 1 := by kernel_rfl
theorem shape_171 [SpC] : shapeA X 171 = some (false, 1) := by kernel_rfl
theorem zero_171 [SpC] : zeroA X 171 = some (.nilfunc) := by kernel_rfl
theorem sb_171 [SpC] : sbA X 171 = some (1, 8) := by kernel_rfl
theorem size_172 [SpC] : sizeA X 172 = some 1 := by kernel_rfl
theorem shape_172 [SpC] : shapeA X 172 = some (false, 1) := by kernel_rfl
theorem zero_172 [SpC] : zeroA X 172 = some (.nilptr) := by kernel_rfl
theorem sb_172 [SpC] : sbA X 172 = some (1, 8) := by kernel_rfl
theorem und_172 [SpC] : X.P.underlying 172 = some (.pointer 3) := Tryz.underlying172
theorem size_173 [SpC] : sizeA X 173 = some 1 := by kernel_rfl
theorem shape_173 [SpC] : shapeA X 173 = some (false, 1) := by kernel_rfl
theorem zero_173 [SpC] : zeroA X 173 = some (.nilfunc) := by kernel_rfl
theorem sb_173 [SpC] : sbA X 173 = some (1, 8) := by kernel_rfl
theorem size_174 [SpC] : sizeA X 174 = some 1 := by kernel_rfl
theorem shape_174 [SpC] : shapeA X 174 = some (false, 1) := by kernel_rfl
theorem zero_174 [SpC] : zeroA X 174 = some (.nilfunc) := by kernel_rfl
theorem sb_174 [SpC] : sbA X 174 = some (1, 8) := by kernel_rfl
theorem size_175 [SpC] : sizeA X 175 = some 1 := by kernel_rfl
theorem shape_175 [SpC] : shapeA X 175 = some (false, 1) := by kernel_rfl
theorem zero_175 [SpC] : zeroA X 175 = some (.nilfunc) := by kernel_rfl
theorem sb_175 [SpC] : sbA X 175 = some (1, 8) := by kernel_rfl
theorem size_177 [SpC] : sizeA X 177 = some 1 := by kernel_rfl
theorem shape_177 [SpC] : shapeA X 177 = some (false, 1) := by kernel_rfl
theorem zero_177 [SpC] : zeroA X 177 = some (.nilfunc) := by kernel_rfl
theorem sb_177 [SpC] : sbA X 177 = some (1, 8) := by kernel_rfl
theorem size_178 [SpC] : sizeA X 178 = some 1 := by kernel_rfl
theorem shape_178 [SpC] : shapeA X 178 = some (false, 1) := by kernel_rfl
theorem zero_178 [SpC] : zeroA X 178 = some (.nilptr) := by kernel_rfl
theorem sb_178 [SpC] : sbA X 178 = some (1, 8) := by kernel_rfl
theorem und_178 [SpC] : X.P.underlying 178 = some (.pointer 168) := Tryz.underlying178
theorem size_180 [SpC] : sizeA X 180 = some 1 := by kernel_rfl
theorem shape_180 [SpC] : shapeA X 180 = some (false, 1) := by kernel_rfl
theorem zero_180 [SpC] : zeroA X 180 = some (.nilfunc) := by kernel_rfl
theorem sb_180 [SpC] : sbA X 180 = some (1, 8) := by kernel_rfl
theorem size_181 [SpC] : sizeA X 181 = some 1 := by kernel_rfl
theorem shape_181 [SpC] : shapeA X 181 = some (false, 1) := by kernel_rfl
theorem zero_181 [SpC] : zeroA X 181 = some (.nilfunc) := by kernel_rfl
theorem sb_181 [SpC] : sbA X 181 = some (1, 8) := by kernel_rfl
theorem size_182 [SpC] : sizeA X 182 = some 1 := by kernel_rfl
theorem shape_182 [SpC] : shapeA X 182 = some (false, 1) := by kernel_rfl
theorem zero_182 [SpC] : zeroA X 182 = some (.nilfunc) := by kernel_rfl
theorem sb_182 [SpC] : sbA X 182 = some (1, 8) := by kernel_rfl
theorem size_188 [SpC] : sizeA X 188 = some 1 := by kernel_rfl
theorem shape_188 [SpC] : shapeA X 188 = some (false, 1) := by kernel_rfl
theorem zero_188 [SpC] : zeroA X 188 = some (.nilfunc) := by kernel_rfl
theorem sb_188 [SpC] : sbA X 188 = some (1, 8) := by kernel_rfl
theorem size_191 [SpC] : sizeA X 191 = some 1 := by kernel_rfl
theorem shape_191 [SpC] : shapeA X 191 = some (false, 1) := by kernel_rfl
theorem zero_191 [SpC] : zeroA X 191 = some (.nilfunc) := by kernel_rfl
theorem sb_191 [SpC] : sbA X 191 = some (1, 8) := by kernel_rfl
theorem size_192 [SpC] : sizeA X 192 = some 1 := by kernel_rfl
theorem shape_192 [SpC] : shapeA X 192 = some (false, 1) := by kernel_rfl
theorem zero_192 [SpC] : zeroA X 192 = some (.nilptr) := by kernel_rfl
theorem sb_192 [SpC] : sbA X 192 = some (1, 8) := by kernel_rfl
theorem und_192 [SpC] : X.P.underlying 192 = some (.pointer 5) := Tryz.underlying192
theorem ld_1 [SpC] (h : Heap) (p : AV) : aLoad X h 1 p = ld1 (cellsAt h p) := ld_leaf shape_1 h p
theorem st_1 [SpC] (h : Heap) (p v : AV) : aStore X h 1 p v = stS 1 h p v := st_type size_1 h p v
theorem al_1 [SpC] (id : Nat) : aAlloc X id 1 = some (.loc ⟨.ptr id 0, [], [(id, some (.cells [.nilfunc] false false))]⟩) := al_type zero_1 rfl rfl id
theorem ld_2 [SpC] (h : Heap) (p : AV) : aLoad X h 2 p = ld1 (cellsAt h p) := ld_leaf shape_2 h p
theorem st_2 [SpC] (h : Heap) (p v : AV) : aStore X h 2 p v = stS 1 h p v := st_type size_2 h p v
theorem al_2 [SpC] (id : Nat) : aAlloc X id 2 = some (.loc ⟨.ptr id 0, [], [(id, some (.cells [.int .i64 0] false false))]⟩) := al_type zero_2 rfl rfl id
theorem ld_3 [SpC] (h : Heap) (p : AV) : aLoad X h 3 p = ld1 (cellsAt h p) := ld_leaf shape_3 h p
theorem st_3 [SpC] (h : Heap) (p v : AV) : aStore X h 3 p v = stS 1 h p v := st_type size_3 h p v
theorem al_3 [SpC] (id : Nat) : aAlloc X id 3 = some (.loc ⟨.ptr id 0, [], [(id, some (.cells [.int .i64 0] false false))]⟩) := al_type zero_3 rfl rfl id
theorem ld_4 [SpC] (h : Heap) (p : AV) : aLoad X h 4 p = ld1 (cellsAt h p) := ld_leaf shape_4 h p
theorem st_4 [SpC] (h : Heap) (p v : AV) : aStore X h 4 p v = stS 1 h p v := st_type size_4 h p v
theorem al_4 [SpC] (id : Nat) : aAlloc X id 4 = some (.loc ⟨.ptr id 0, [], [(id, some (.cells [.bool false] false false))]⟩) := al_type zero_4 rfl rfl id
theorem ld_5 [SpC] (h : Heap) (p : AV) : aLoad X h 5 p = ld1 (cellsAt h p) := ld_leaf shape_5 h p
theorem st_5 [SpC] (h : Heap) (p v : AV) : aStore X h 5 p v = stS 1 h p v := st_type size_5 h p v
theorem al_5 [SpC] (id : Nat) : aAlloc X id 5 = some (.loc ⟨.ptr id 0, [], [(id, some (.cells [.int .u8 0] false false))]⟩) := al_type zero_5 rfl rfl id
theorem ld_9 [SpC] (h : Heap) (p : AV) : aLoad X h 9 p = ld1 (cellsAt h p) := ld_leaf shape_9 h p
theorem st_9 [SpC] (h : Heap) (p v : AV) : aStore X h 9 p v = stS 1 h p v := st_type size_9 h p v
theorem al_9 [SpC] (id : Nat) : aAlloc X id 9 = some (.loc ⟨.ptr id 0, [], [(id, some (.cells [.str ⟨#[]⟩] false false))]⟩) := al_type zero_9 rfl rfl id
theorem ld_12 [SpC] (h : Heap) (p : AV) : aLoad X h 12 p = ld1 (cellsAt h p) := ld_leaf shape_12 h p
theorem st_12 [SpC] (h : Heap) (p v : AV) : aStore X h 12 p v = stS 1 h p v := st_type size_12 h p v
theorem al_12 [SpC] (id : Nat) : aAlloc X id 12 = some (.loc ⟨.ptr id 0, [], [(id, some (.cells [.int .u64 0] false false))]⟩) := al_type zero_12 rfl rfl id
theorem ld_13 [SpC] (h : Heap) (p : AV) : aLoad X h 13 p = ldn 2 (cellsAt h p) := ld_agg shape_13 h p
theorem st_13 [SpC] (h : Heap) (p v : AV) : aStore X h 13 p v = stS 2 h p v := st_type size_13 h p v
theorem al_13 [SpC] (id : Nat) : aAlloc X id 13 = some (.loc ⟨.ptr id 0, [], [(id, some (.cells [.str ⟨#[]⟩, .int .u64 0] false false))]⟩) := al_type zero_13 rfl rfl id
theorem fa_13_0 [SpC] (p : AV) : aFieldAddr X 13 p 0 = faS 0 p := fa_fieldN und_13 (by kernel_rfl) size_9 p
theorem fd_13_0 [SpC] (x : AV) : aField X 13 x 0 = fdS false 1 0 x := fd_fieldN und_13 (by kernel_rfl) shape_9 x
theorem fa_13_1 [SpC] (p : AV) : aFieldAddr X 13 p 1 = faS 1 p := fa_fieldN und_13 (by kernel_rfl) size_12 p
theorem fd_13_1 [SpC] (x : AV) : aField X 13 x 1 = fdS false 1 1 x := fd_fieldN und_13 (by kernel_rfl) shape_12 x
theorem pl_13 [SpC] : fieldPlaces X flds_13.toList = some [(0, 1), (1, 1)] := by kernel_rfl
theorem bl_13 [SpC] (ps : List (Nat × AV)) : aBuild X 13 ps = blS (plOf [(0, 1), (1, 1)]) [.str ⟨#[]⟩, .int .u64 0] ps := bl_struct zero_13 rfl rfl und_13 pl_13 ps
theorem ld_21 [SpC] (h : Heap) (p : AV) : aLoad X h 21 p = ld1 (cellsAt h p) := ld_leaf shape_21 h p
theorem st_21 [SpC] (h : Heap) (p v : AV) : aStore X h 21 p v = stS 1 h p v := st_type size_21 h p v
theorem al_21 [SpC] (id : Nat) : aAlloc X id 21 = some (.loc ⟨.ptr id 0, [], [(id, some (.cells [.int .i32 0] false false))]⟩) := al_type zero_21 rfl rfl id
theorem ld_22 [SpC] (h : Heap) (p : AV) : aLoad X h 22 p = ld1 (cellsAt h p) := ld_leaf shape_22 h p
theorem st_22 [SpC] (h : Heap) (p v : AV) : aStore X h 22 p v = stS 1 h p v := st_type size_22 h p v
theorem al_22 [SpC] (id : Nat) : aAlloc X id 22 = some (.loc ⟨.ptr id 0, [], [(id, some (.cells [.ro [] 0 true] false false))]⟩) := al_type zero_22 rfl rfl id
theorem len_22 [SpC] (x : AV) : lenA X 22 x = lenS x := len_slice und_22 x
theorem cp_22 [SpC] (h : Heap) (t' : Nat) (d x : AV) : aCopy X h #[22, t'] d x = nx (srcCells h 1 x) fun y => cpD 1 h y.1 y.2.1 y.2.2 d := cp_slice und_22 size_3 h t' d x
theorem ix_22 [SpC] (x : AV) (k : IntKind) (n : Int) : aIndexAddr X 22 x (.int k n) = ixS 1 x n := ix_slice und_22 size_3 x k n
theorem sli_22 [SpC] (x : AV) (lo hi mx : Option AV) : aSlice X 22 x lo hi mx = sliS 1 x lo hi mx := sli_slice und_22 size_3 x lo hi mx
theorem bs_22 [SpC] (id len : Nat) (hn : len * 1 ≤ 2 ^ 24) (ps : List (Nat × AV)) : aBuildSlice X id 22 len ps = bsS id len 1 [.int .i64 0] ps := bs_slice und_22 size_3 zero_3 rfl rfl rfl id len hn ps
theorem mk_22 [SpC] (id : Nat) (l c : AV) : aMakeSlice X id 22 l c = mkS id 1 8 [.int .i64 0] l c := mk_slice und_22 sb_3 zero_3 rfl rfl rfl id l c
theorem ap_22 [SpC] (h : Heap) (id : Nat) (a x : AV) : aAppend X h id #[22, 22] a x = apS 1 8 h id a x := ap_slice und_22 und_22 rfl sb_3 zero_3 rfl rfl rfl h id a x
theorem ld_23 [SpC] (h : Heap) (p : AV) : aLoad X h 23 p = ld1 (cellsAt h p) := ld_leaf shape_23 h p
theorem st_23 [SpC] (h : Heap) (p v : AV) : aStore X h 23 p v = stS 1 h p v := st_type size_23 h p v
theorem al_23 [SpC] (id : Nat) : aAlloc X id 23 = some (.loc ⟨.ptr id 0, [], [(id, some (.cells [.ro [] 0 true] false false))]⟩) := al_type zero_23 rfl rfl id
theorem len_23 [SpC] (x : AV) : lenA X 23 x = lenS x := len_slice und_23 x
theorem cp_23 [SpC] (h : Heap) (t' : Nat) (d x : AV) : aCopy X h #[23, t'] d x = nx (srcCells h 2 x) fun y => cpD 2 h y.1 y.2.1 y.2.2 d := cp_slice und_23 size_59 h t' d x
theorem ix_23 [SpC] (x : AV) (k : IntKind) (n : Int) : aIndexAddr X 23 x (.int k n) = ixS 2 x n := ix_slice und_23 size_59 x k n
theorem sli_23 [SpC] (x : AV) (lo hi mx : Option AV) : aSlice X 23 x lo hi mx = sliS 2 x lo hi mx := sli_slice und_23 size_59 x lo hi mx
theorem bs_23 [SpC] (id len : Nat) (hn : len * 2 ≤ 2 ^ 24) (ps : List (Nat × AV)) : aBuildSlice X id 23 len ps = bsS id len 2 [.int .i64 0, .int .i64 0] ps := bs_slice und_23 size_59 zero_59 rfl rfl rfl id len hn ps
theorem mk_23 [SpC] (id : Nat) (l c : AV) : aMakeSlice X id 23 l c = mkS id 2 16 [.int .i64 0, .int .i64 0] l c := mk_slice und_23 sb_59 zero_59 rfl rfl rfl id l c
theorem ap_23 [SpC] (h : Heap) (id : Nat) (a x : AV) : aAppend X h id #[23, 23] a x = apS 2 16 h id a x := ap_slice und_23 und_23 rfl sb_59 zero_59 rfl rfl rfl h id a x
theorem ld_24 [SpC] (h : Heap) (p : AV) : aLoad X h 24 p = ld1 (cellsAt h p) := ld_leaf shape_24 h p
theorem st_24 [SpC] (h : Heap) (p v : AV) : aStore X h 24 p v = stS 1 h p v := st_type size_24 h p v
theorem al_24 [SpC] (id : Nat) : aAlloc X id 24 = some (.loc ⟨.ptr id 0, [], [(id, some (.cells [.nilfunc] false false))]⟩) := al_type zero_24 rfl rfl id
theorem ld_25 [SpC] (h : Heap) (p : AV) : aLoad X h 25 p = ldn 2 (cellsAt h p) := ld_agg shape_25 h p
theorem st_25 [SpC] (h : Heap) (p v : AV) : aStore X h 25 p v = stS 2 h p v := st_type size_25 h p v
theorem al_25 [SpC] (id : Nat) : aAlloc X id 25 = some (.loc ⟨.ptr id 0, [], [(id, some (.cells [.bool false, .ro [] 0 false] false false))]⟩) := al_type zero_25 rfl rfl id
theorem fa_25_0 [SpC] (p : AV) : aFieldAddr X 25 p 0 = faS 0 p := fa_fieldN und_25 (by kernel_rfl) size_4 p
theorem fd_25_0 [SpC] (x : AV) : aField X 25 x 0 = fdS false 1 0 x := fd_fieldN und_25 (by kernel_rfl) shape_4 x
theorem fa_25_1 [SpC] (p : AV) : aFieldAddr X 25 p 1 = faS 1 p := fa_fieldN und_25 (by kernel_rfl) size_22 p
theorem fd_25_1 [SpC] (x : AV) : aField X 25 x 1 = fdS false 1 1 x := fd_fieldN und_25 (by kernel_rfl) shape_22 x
theorem pl_25 [SpC] : fieldPlaces X flds_25.toList = some [(0, 1), (1, 1)] := by kernel_rfl
theorem bl_25 [SpC] (ps : List (Nat × AV)) : aBuild X 25 ps = blS (plOf [(0, 1), (1, 1)]) [.bool false, .ro [] 0 false] ps := bl_struct zero_25 rfl rfl und_25 pl_25 ps
theorem ld_26 [SpC] (h : Heap) (p : AV) : aLoad X h 26 p = ldn 2 (cellsAt h p) := ld_agg shape_26 h p
theorem st_26 [SpC] (h : Heap) (p v : AV) : aStore X h 26 p v = stS 2 h p v := st_type size_26 h p v
theorem al_26 [SpC] (id : Nat) : aAlloc X id 26 = some (.loc ⟨.ptr id 0, [], [(id, some (.cells [.bool false, .ro [] 0 false] false false))]⟩) := al_type zero_26 rfl rfl id
theorem fa_26_0 [SpC] (p : AV) : aFieldAddr X 26 p 0 = faS 0 p := fa_fieldN und_26 (by kernel_rfl) size_4 p
theorem fd_26_0 [SpC] (x : AV) : aField X 26 x 0 = fdS false 1 0 x := fd_fieldN und_26 (by kernel_rfl) shape_4 x
theorem fa_26_1 [SpC] (p : AV) : aFieldAddr X 26 p 1 = faS 1 p := fa_fieldN und_26 (by kernel_rfl) size_22 p
theorem fd_26_1 [SpC] (x : AV) : aField X 26 x 1 = fdS false 1 1 x := fd_fieldN und_26 (by kernel_rfl) shape_22 x
theorem pl_26 [SpC] : fieldPlaces X flds_25.toList = some [(0, 1), (1, 1)] := by kernel_rfl
theorem bl_26 [SpC] (ps : List (Nat × AV)) : aBuild X 26 ps = blS (plOf [(0, 1), (1, 1)]) [.bool false, .ro [] 0 false] ps := bl_struct zero_26 rfl rfl und_26 pl_26 ps
theorem ld_27 [SpC] (h : Heap) (p : AV) : aLoad X h 27 p = ldn 4 (cellsAt h p) := ld_agg shape_27 h p
theorem st_27 [SpC] (h : Heap) (p v : AV) : aStore X h 27 p v = stS 4 h p v := st_type size_27 h p v
theorem al_27 [SpC] (id : Nat) : aAlloc X id 27 = some (.loc ⟨.ptr id 0, [], [(id, some (.cells [.bool false, .ro [] 0 false, .bool false, .ro [] 0 false] false false))]⟩) := al_type zero_27 rfl rfl id
theorem fa_27_0 [SpC] (p : AV) : aFieldAddr X 27 p 0 = faS 0 p := fa_fieldN und_27 (by kernel_rfl) size_26 p
theorem fd_27_0 [SpC] (x : AV) : aField X 27 x 0 = fdS true 2 0 x := fd_fieldN und_27 (by kernel_rfl) shape_26 x
theorem fa_27_1 [SpC] (p : AV) : aFieldAddr X 27 p 1 = faS 2 p := fa_fieldN und_27 (by kernel_rfl) size_26 p
theorem fd_27_1 [SpC] (x : AV) : aField X 27 x 1 = fdS true 2 2 x := fd_fieldN und_27 (by kernel_rfl) shape_26 x
theorem pl_27 [SpC] : fieldPlaces X flds_27.toList = some [(0, 2), (2, 2)] := by kernel_rfl
theorem bl_27 [SpC] (ps : List (Nat × AV)) : aBuild X 27 ps = blS (plOf [(0, 2), (2, 2)]) [.bool false, .ro [] 0 false, .bool false, .ro [] 0 false] ps := bl_struct zero_27 rfl rfl und_27 pl_27 ps
theorem ld_28 [SpC] (h : Heap) (p : AV) : aLoad X h 28 p = ldn 4 (cellsAt h p) := ld_agg shape_28 h p
theorem st_28 [SpC] (h : Heap) (p v : AV) : aStore X h 28 p v = stS 4 h p v := st_type size_28 h p v
theorem al_28 [SpC] (id : Nat) : aAlloc X id 28 = some (.loc ⟨.ptr id 0, [], [(id, some (.cells [.bool false, .ro [] 0 false, .bool false, .ro [] 0 false] false false))]⟩) := al_type zero_28 rfl rfl id
theorem fa_28_0 [SpC] (p : AV) : aFieldAddr X 28 p 0 = faS 0 p := fa_fieldN und_28 (by kernel_rfl) size_26 p
theorem fd_28_0 [SpC] (x : AV) : aField X 28 x 0 = fdS true 2 0 x := fd_fieldN und_28 (by kernel_rfl) shape_26 x
theorem fa_28_1 [SpC] (p : AV) : aFieldAddr X 28 p 1 = faS 2 p := fa_fieldN und_28 (by kernel_rfl) size_26 p
theorem fd_28_1 [SpC] (x : AV) : aField X 28 x 1 = fdS true 2 2 x := fd_fieldN und_28 (by kernel_rfl) shape_26 x
theorem pl_28 [SpC] : fieldPlaces X flds_27.toList = some [(0, 2), (2, 2)] := by kernel_rfl
theorem bl_28 [SpC] (ps : List (Nat × AV)) : aBuild X 28 ps = blS (plOf [(0, 2), (2, 2)]) [.bool false, .ro [] 0 false, .bool false, .ro [] 0 false] ps := bl_struct zero_28 rfl rfl und_28 pl_28 ps
theorem ld_29 [SpC] (h : Heap) (p : AV) : aLoad X h 29 p = ldn 8 (cellsAt h p) := ld_agg shape_29 h p
theorem st_29 [SpC] (h : Heap) (p v : AV) : aStore X h 29 p v = stS 8 h p v := st_type size_29 h p v
theorem al_29 [SpC] (id : Nat) : aAlloc X id 29 = some (.loc ⟨.ptr id 0, [], [(id, some (.cells [.bool false, .ro [] 0 false, .bool false, .ro [] 0 false, .bool false, .ro [] 0 false, .bool false, .ro [] 0 false] false false))]⟩) := al_type zero_29 rfl rfl id
theorem fa_29_0 [SpC] (p : AV) : aFieldAddr X 29 p 0 = faS 0 p := fa_fieldN und_29 (by kernel_rfl) size_28 p
theorem fd_29_0 [SpC] (x : AV) : aField X 29 x 0 = fdS true 4 0 x := fd_fieldN und_29 (by kernel_rfl) shape_28 x
theorem fa_29_1 [SpC] (p : AV) : aFieldAddr X 29 p 1 = faS 4 p := fa_fieldN und_29 (by kernel_rfl) size_28 p
theorem fd_29_1 [SpC] (x : AV) : aField X 29 x 1 = fdS true 4 4 x := fd_fieldN und_29 (by kernel_rfl) shape_28 x
theorem pl_29 [SpC] : fieldPlaces X flds_29.toList = some [(0, 4), (4, 4)] := by kernel_rfl
theorem bl_29 [SpC] (ps : List (Nat × AV)) : aBuild X 29 ps = blS (plOf [(0, 4), (4, 4)]) [.bool false, .ro [] 0 false, .bool false, .ro [] 0 false, .bool false, .ro [] 0 false, .bool false, .ro [] 0 false] ps := bl_struct zero_29 rfl rfl und_29 pl_29 ps
theorem ld_30 [SpC] (h : Heap) (p : AV) : aLoad X h 30 p = ldn 8 (cellsAt h p) := ld_agg shape_30 h p
theorem st_30 [SpC] (h : Heap) (p v : AV) : aStore X h 30 p v = stS 8 h p v := st_type size_30 h p v
theorem al_30 [SpC] (id : Nat) : aAlloc X id 30 = some (.loc ⟨.ptr id 0, [], [(id, some (.cells [.bool false, .ro [] 0 false, .bool false, .ro [] 0 false, .bool false, .ro [] 0 false, .bool false, .ro [] 0 false] false false))]⟩) := al_type zero_30 rfl rfl id
theorem fa_30_0 [SpC] (p : AV) : aFieldAddr X 30 p 0 = faS 0 p := fa_fieldN und_30 (by kernel_rfl) size_28 p
theorem fd_30_0 [SpC] (x : AV) : aField X 30 x 0 = fdS true 4 0 x := fd_fieldN und_30 (by kernel_rfl) shape_28 x
theorem fa_30_1 [SpC] (p : AV) : aFieldAddr X 30 p 1 = faS 4 p := fa_fieldN und_30 (by kernel_rfl) size_28 p
theorem fd_30_1 [SpC] (x : AV) : aField X 30 x 1 = fdS true 4 4 x := fd_fieldN und_30 (by kernel_rfl) shape_28 x
theorem pl_30 [SpC] : fieldPlaces X flds_29.toList = some [(0, 4), (4, 4)] := by kernel_rfl
theorem bl_30 [SpC] (ps : List (Nat × AV)) : aBuild X 30 ps = blS (plOf [(0, 4), (4, 4)]) [.bool false, .ro [] 0 false, .bool false, .ro [] 0 false, .bool false, .ro [] 0 false, .bool false, .ro [] 0 false] ps := bl_struct zero_30 rfl rfl und_30 pl_30 ps
theorem ld_31 [SpC] (h : Heap) (p : AV) : aLoad X h 31 p = ld1 (cellsAt h p) := ld_leaf shape_31 h p
theorem st_31 [SpC] (h : Heap) (p v : AV) : aStore X h 31 p v = stS 1 h p v := st_type size_31 h p v
theorem al_31 [SpC] (id : Nat) : aAlloc X id 31 = some (.loc ⟨.ptr id 0, [], [(id, some (.cells [.nilfunc] false false))]⟩) := al_type zero_31 rfl rfl id
theorem ld_32 [SpC] (h : Heap) (p : AV) : aLoad X h 32 p = ld1 (cellsAt h p) := ld_leaf shape_32 h p
theorem st_32 [SpC] (h : Heap) (p v : AV) : aStore X h 32 p v = stS 1 h p v := st_type size_32 h p v
theorem al_32 [SpC] (id : Nat) : aAlloc X id 32 = some (.loc ⟨.ptr id 0, [], [(id, some (.cells [.nilfunc] false false))]⟩) := al_type zero_32 rfl rfl id
theorem ld_33 [SpC] (h : Heap) (p : AV) : aLoad X h 33 p = ld1 (cellsAt h p) := ld_leaf shape_33 h p
theorem st_33 [SpC] (h : Heap) (p v : AV) : aStore X h 33 p v = stS 1 h p v := st_type size_33 h p v
theorem al_33 [SpC] (id : Nat) : aAlloc X id 33 = some (.loc ⟨.ptr id 0, [], [(id, some (.cells [.nilfunc] false false))]⟩) := al_type zero_33 rfl rfl id
theorem ld_34 [SpC] (h : Heap) (p : AV) : aLoad X h 34 p = ldn 16 (cellsAt h p) := ld_agg shape_34 h p
theorem st_34 [SpC] (h : Heap) (p v : AV) : aStore X h 34 p v = stS 16 h p v := st_type size_34 h p v
theorem al_34 [SpC] (id : Nat) : aAlloc X id 34 = some (.loc ⟨.ptr id 0, [], [(id, some (.cells [.bool false, .ro [] 0 false, .bool false, .ro [] 0 false, .bool false, .ro [] 0 false, .bool false, .ro [] 0 false, .bool false, .ro [] 0 false, .bool false, .ro [] 0 false, .bool false, .ro [] 0 false, .bool false, .ro [] 0 false] false false))]⟩) := al_type zero_34 rfl rfl id
theorem fa_34_0 [SpC] (p : AV) : aFieldAddr X 34 p 0 = faS 0 p := fa_fieldN und_34 (by kernel_rfl) size_30 p
theorem fd_34_0 [SpC] (x : AV) : aField X 34 x 0 = fdS true 8 0 x := fd_fieldN und_34 (by kernel_rfl) shape_30 x
theorem fa_34_1 [SpC] (p : AV) : aFieldAddr X 34 p 1 = faS 8 p := fa_fieldN und_34 (by kernel_rfl) size_30 p
theorem fd_34_1 [SpC] (x : AV) : aField X 34 x 1 = fdS true 8 8 x := fd_fieldN und_34 (by kernel_rfl) shape_30 x
theorem pl_34 [SpC] : fieldPlaces X flds_34.toList = some [(0, 8), (8, 8)] := by kernel_rfl
theorem bl_34 [SpC] (ps : List (Nat × AV)) : aBuild X 34 ps = blS (plOf [(0, 8), (8, 8)]) [.bool false, .ro [] 0 false, .bool false, .ro [] 0 false, .bool false, .ro [] 0 false, .bool false, .ro [] 0 false, .bool false, .ro [] 0 false, .bool false, .ro [] 0 false, .bool false, .ro [] 0 false, .bool false, .ro [] 0 false] ps := bl_struct zero_34 rfl rfl und_34 pl_34 ps
theorem ld_35 [SpC] (h : Heap) (p : AV) : aLoad X h 35 p = ldn 16 (cellsAt h p) := ld_agg shape_35 h p
theorem st_35 [SpC] (h : Heap) (p v : AV) : aStore X h 35 p v = stS 16 h p v := st_type size_35 h p v
theorem al_35 [SpC] (id : Nat) : aAlloc X id 35 = some (.loc ⟨.ptr id 0, [], [(id, some (.cells [.bool false, .ro [] 0 false, .bool false, .ro [] 0 false, .bool false, .ro [] 0 false, .bool false, .ro [] 0 false, .bool false, .ro [] 0 false, .bool false, .ro [] 0 false, .bool false, .ro [] 0 false, .bool false, .ro [] 0 false] false false))]⟩) := al_type zero_35 rfl rfl id
theorem fa_35_0 [SpC] (p : AV) : aFieldAddr X 35 p 0 = faS 0 p := fa_fieldN und_35 (by kernel_rfl) size_30 p
theorem fd_35_0 [SpC] (x : AV) : aField X 35 x 0 = fdS true 8 0 x := fd_fieldN und_35 (by kernel_rfl) shape_30 x
theorem fa_35_1 [SpC] (p : AV) : aFieldAddr X 35 p 1 = faS 8 p := fa_fieldN und_35 (by kernel_rfl) size_30 p
theorem fd_35_1 [SpC] (x : AV) : aField X 35 x 1 = fdS true 8 8 x := fd_fieldN und_35 (by kernel_rfl) shape_30 x
theorem pl_35 [SpC] : fieldPlaces X flds_34.toList = some [(0, 8), (8, 8)] := by kernel_rfl
theorem bl_35 [SpC] (ps : List (Nat × AV)) : aBuild X 35 ps = blS (plOf [(0, 8), (8, 8)]) [.bool false, .ro [] 0 false, .bool false, .ro [] 0 false, .bool false, .ro [] 0 false, .bool false, .ro [] 0 false, .bool false, .ro [] 0 false, .bool false, .ro [] 0 false, .bool false, .ro [] 0 false, .bool false, .ro [] 0 false] ps := bl_struct zero_35 rfl rfl und_35 pl_35 ps
theorem ld_36 [SpC] (h : Heap) (p : AV) : aLoad X h 36 p = ld1 (cellsAt h p) := ld_leaf shape_36 h p
theorem st_36 [SpC] (h : Heap) (p v : AV) : aStore X h 36 p v = stS 1 h p v := st_type size_36 h p v
theorem al_36 [SpC] (id : Nat) : aAlloc X id 36 = some (.loc ⟨.ptr id 0, [], [(id, some (.cells [.nilfunc] false false))]⟩) := al_type zero_36 rfl rfl id
theorem ld_37 [SpC] (h : Heap) (p : AV) : aLoad X h 37 p = ldn 16 (cellsAt h p) := ld_agg shape_37 h p
theorem st_37 [SpC] (h : Heap) (p v : AV) : aStore X h 37 p v = stS 16 h p v := st_type size_37 h p v
theorem al_37 [SpC] (id : Nat) : aAlloc X id 37 = some (.loc ⟨.ptr id 0, [], [(id, some (.cells [.bool false, .ro [] 0 false, .bool false, .ro [] 0 false, .bool false, .ro [] 0 false, .bool false, .ro [] 0 false, .bool false, .ro [] 0 false, .bool false, .ro [] 0 false, .bool false, .ro [] 0 false, .bool false, .ro [] 0 false] false false))]⟩) := al_type zero_37 rfl rfl id
theorem fa_37_0 [SpC] (p : AV) : aFieldAddr X 37 p 0 = faS 0 p := fa_fieldN und_37 (by kernel_rfl) size_30 p
theorem fd_37_0 [SpC] (x : AV) : aField X 37 x 0 = fdS true 8 0 x := fd_fieldN und_37 (by kernel_rfl) shape_30 x
theorem fa_37_1 [SpC] (p : AV) : aFieldAddr X 37 p 1 = faS 8 p := fa_fieldN und_37 (by kernel_rfl) size_30 p
theorem fd_37_1 [SpC] (x : AV) : aField X 37 x 1 = fdS true 8 8 x := fd_fieldN und_37 (by kernel_rfl) shape_30 x
theorem pl_37 [SpC] : fieldPlaces X flds_34.toList = some [(0, 8), (8, 8)] := by kernel_rfl
theorem bl_37 [SpC] (ps : List (Nat × AV)) : aBuild X 37 ps = blS (plOf [(0, 8), (8, 8)]) [.bool false, .ro [] 0 false, .bool false, .ro [] 0 false, .bool false, .ro [] 0 false, .bool false, .ro [] 0 false, .bool false, .ro [] 0 false, .bool false, .ro [] 0 false, .bool false, .ro [] 0 false, .bool false, .ro [] 0 false] ps := bl_struct zero_37 rfl rfl und_37 pl_37 ps
theorem ld_38 [SpC] (h : Heap) (p : AV) : aLoad X h 38 p = ld1 (cellsAt h p) := ld_leaf shape_38 h p
theorem st_38 [SpC] (h : Heap) (p v : AV) : aStore X h 38 p v = stS 1 h p v := st_type size_38 h p v
theorem al_38 [SpC] (id : Nat) : aAlloc X id 38 = some (.loc ⟨.ptr id 0, [], [(id, some (.cells [.nilfunc] false false))]⟩) := al_type zero_38 rfl rfl id
theorem ld_39 [SpC] (h : Heap) (p : AV) : aLoad X h 39 p = ld1 (cellsAt h p) := ld_leaf shape_39 h p
theorem st_39 [SpC] (h : Heap) (p v : AV) : aStore X h 39 p v = stS 1 h p v := st_type size_39 h p v
theorem al_39 [SpC] (id : Nat) : aAlloc X id 39 = some (.loc ⟨.ptr id 0, [], [(id, some (.cells [.nilfunc] false false))]⟩) := al_type zero_39 rfl rfl id
theorem ld_40 [SpC] (h : Heap) (p : AV) : aLoad X h 40 p = ld1 (cellsAt h p) := ld_leaf shape_40 h p
theorem st_40 [SpC] (h : Heap) (p v : AV) : aStore X h 40 p v = stS 1 h p v := st_type size_40 h p v
theorem al_40 [SpC] (id : Nat) : aAlloc X id 40 = some (.loc ⟨.ptr id 0, [], [(id, some (.cells [.nilfunc] false false))]⟩) := al_type zero_40 rfl rfl id
theorem ld_41 [SpC] (h : Heap) (p : AV) : aLoad X h 41 p = ld1 (cellsAt h p) := ld_leaf shape_41 h p
theorem st_41 [SpC] (h : Heap) (p v : AV) : aStore X h 41 p v = stS 1 h p v := st_type size_41 h p v
theorem al_41 [SpC] (id : Nat) : aAlloc X id 41 = some (.loc ⟨.ptr id 0, [], [(id, some (.cells [.nilfunc] false false))]⟩) := al_type zero_41 rfl rfl id
theorem ld_42 [SpC] (h : Heap) (p : AV) : aLoad X h 42 p = ld1 (cellsAt h p) := ld_leaf shape_42 h p
theorem st_42 [SpC] (h : Heap) (p v : AV) : aStore X h 42 p v = stS 1 h p v := st_type size_42 h p v
theorem al_42 [SpC] (id : Nat) : aAlloc X id 42 = some (.loc ⟨.ptr id 0, [], [(id, some (.cells [.ro [] 0 true] false false))]⟩) := al_type zero_42 rfl rfl id
theorem len_42 [SpC] (x : AV) : lenA X 42 x = lenS x := len_slice und_42 x
theorem cp_42 [SpC] (h : Heap) (t' : Nat) (d x : AV) : aCopy X h #[42, t'] d x = nx (srcCells h 16 x) fun y => cpD 16 h y.1 y.2.1 y.2.2 d := cp_slice und_42 size_35 h t' d x
theorem ix_42 [SpC] (x : AV) (k : IntKind) (n : Int) : aIndexAddr X 42 x (.int k n) = ixS 16 x n := ix_slice und_42 size_35 x k n
theorem sli_42 [SpC] (x : AV) (lo hi mx : Option AV) : aSlice X 42 x lo hi mx = sliS 16 x lo hi mx := sli_slice und_42 size_35 x lo hi mx
theorem bs_42 [SpC] (id len : Nat) (hn : len * 16 ≤ 2 ^ 24) (ps : List (Nat × AV)) : aBuildSlice X id 42 len ps = bsS id len 16 [.bool false, .ro [] 0 false, .bool false, .ro [] 0 false, .bool false, .ro [] 0 false, .bool false, .ro [] 0 false, .bool false, .ro [] 0 false, .bool false, .ro [] 0 false, .bool false, .ro [] 0 false, .bool false, .ro [] 0 false] ps := bs_slice und_42 size_35 zero_35 rfl rfl rfl id len hn ps
theorem mk_42 [SpC] (id : Nat) (l c : AV) : aMakeSlice X id 42 l c = mkS id 16 256 [.bool false, .ro [] 0 false, .bool false, .ro [] 0 false, .bool false, .ro [] 0 false, .bool false, .ro [] 0 false, .bool false, .ro [] 0 false, .bool false, .ro [] 0 false, .bool false, .ro [] 0 false, .bool false, .ro [] 0 false] l c := mk_slice und_42 sb_35 zero_35 rfl rfl rfl id l c
theorem ap_42 [SpC] (h : Heap) (id : Nat) (a x : AV) : aAppend X h id #[42, 42] a x = apS 16 256 h id a x := ap_slice und_42 und_42 rfl sb_35 zero_35 rfl rfl rfl h id a x
theorem ld_43 [SpC] (h : Heap) (p : AV) : aLoad X h 43 p = ld1 (cellsAt h p) := ld_leaf shape_43 h p
theorem st_43 [SpC] (h : Heap) (p v : AV) : aStore X h 43 p v = stS 1 h p v := st_type size_43 h p v
theorem al_43 [SpC] (id : Nat) : aAlloc X id 43 = some (.loc ⟨.ptr id 0, [], [(id, some (.cells [.nilfunc] false false))]⟩) := al_type zero_43 rfl rfl id
theorem ld_44 [SpC] (h : Heap) (p : AV) : aLoad X h 44 p = ld1 (cellsAt h p) := ld_leaf shape_44 h p
theorem st_44 [SpC] (h : Heap) (p v : AV) : aStore X h 44 p v = stS 1 h p v := st_type size_44 h p v
theorem al_44 [SpC] (id : Nat) : aAlloc X id 44 = some (.loc ⟨.ptr id 0, [], [(id, some (.cells [.nilfunc] false false))]⟩) := al_type zero_44 rfl rfl id
theorem ld_45 [SpC] (h : Heap) (p : AV) : aLoad X h 45 p = ld1 (cellsAt h p) := ld_leaf shape_45 h p
theorem st_45 [SpC] (h : Heap) (p v : AV) : aStore X h 45 p v = stS 1 h p v := st_type size_45 h p v
theorem al_45 [SpC] (id : Nat) : aAlloc X id 45 = some (.loc ⟨.ptr id 0, [], [(id, some (.cells [.nilfunc] false false))]⟩) := al_type zero_45 rfl rfl id
theorem ld_46 [SpC] (h : Heap) (p : AV) : aLoad X h 46 p = ld1 (cellsAt h p) := ld_leaf shape_46 h p
theorem st_46 [SpC] (h : Heap) (p v : AV) : aStore X h 46 p v = stS 1 h p v := st_type size_46 h p v
theorem al_46 [SpC] (id : Nat) : aAlloc X id 46 = some (.loc ⟨.ptr id 0, [], [(id, some (.cells [.nilfunc] false false))]⟩) := al_type zero_46 rfl rfl id
theorem ld_47 [SpC] (h : Heap) (p : AV) : aLoad X h 47 p = ld1 (cellsAt h p) := ld_leaf shape_47 h p
theorem st_47 [SpC] (h : Heap) (p v : AV) : aStore X h 47 p v = stS 1 h p v := st_type size_47 h p v
theorem al_47 [SpC] (id : Nat) : aAlloc X id 47 = some (.loc ⟨.ptr id 0, [], [(id, some (.cells [.nilfunc] false false))]⟩) := al_type zero_47 rfl rfl id
theorem ld_48 [SpC] (h : Heap) (p : AV) : aLoad X h 48 p = ld1 (cellsAt h p) := ld_leaf shape_48 h p
theorem st_48 [SpC] (h : Heap) (p v : AV) : aStore X h 48 p v = stS 1 h p v := st_type size_48 h p v
theorem al_48 [SpC] (id : Nat) : aAlloc X id 48 = some (.loc ⟨.ptr id 0, [], [(id, some (.cells [.nilfunc] false false))]⟩) := al_type zero_48 rfl rfl id
theorem ld_49 [SpC] (h : Heap) (p : AV) : aLoad X h 49 p = ld1 (cellsAt h p) := ld_leaf shape_49 h p
theorem st_49 [SpC] (h : Heap) (p v : AV) : aStore X h 49 p v = stS 1 h p v := st_type size_49 h p v
theorem al_49 [SpC] (id : Nat) : aAlloc X id 49 = some (.loc ⟨.ptr id 0, [], [(id, some (.cells [.nilfunc] false false))]⟩) := al_type zero_49 rfl rfl id
theorem ld_50 [SpC] (h : Heap) (p : AV) : aLoad X h 50 p = ld1 (cellsAt h p) := ld_leaf shape_50 h p
theorem st_50 [SpC] (h : Heap) (p v : AV) : aStore X h 50 p v = stS 1 h p v := st_type size_50 h p v
theorem al_50 [SpC] (id : Nat) : aAlloc X id 50 = some (.loc ⟨.ptr id 0, [], [(id, some (.cells [.ro [] 0 true] false false))]⟩) := al_type zero_50 rfl rfl id
theorem len_50 [SpC] (x : AV) : lenA X 50 x = lenS x := len_slice und_50 x
theorem cp_50 [SpC] (h : Heap) (t' : Nat) (d x : AV) : aCopy X h #[50, t'] d x = nx (srcCells h 16 x) fun y => cpD 16 h y.1 y.2.1 y.2.2 d := cp_slice und_50 size_37 h t' d x
theorem ix_50 [SpC] (x : AV) (k : IntKind) (n : Int) : aIndexAddr X 50 x (.int k n) = ixS 16 x n := ix_slice und_50 size_37 x k n
theorem sli_50 [SpC] (x : AV) (lo hi mx : Option AV) : aSlice X 50 x lo hi mx = sliS 16 x lo hi mx := sli_slice und_50 size_37 x lo hi mx
theorem bs_50 [SpC] (id len : Nat) (hn : len * 16 ≤ 2 ^ 24) (ps : List (Nat × AV)) : aBuildSlice X id 50 len ps = bsS id len 16 [.bool false, .ro [] 0 false, .bool false, .ro [] 0 false, .bool false, .ro [] 0 false, .bool false, .ro [] 0 false, .bool false, .ro [] 0 false, .bool false, .ro [] 0 false, .bool false, .ro [] 0 false, .bool false, .ro [] 0 false] ps := bs_slice und_50 size_37 zero_37 rfl rfl rfl id len hn ps
theorem mk_50 [SpC] (id : Nat) (l c : AV) : aMakeSlice X id 50 l c = mkS id 16 256 [.bool false, .ro [] 0 false, .bool false, .ro [] 0 false, .bool false, .ro [] 0 false, .bool false, .ro [] 0 false, .bool false, .ro [] 0 false, .bool false, .ro [] 0 false, .bool false, .ro [] 0 false, .bool false, .ro [] 0 false] l c := mk_slice und_50 sb_37 zero_37 rfl rfl rfl id l c
theorem ap_50 [SpC] (h : Heap) (id : Nat) (a x : AV) : aAppend X h id #[50, 50] a x = apS 16 256 h id a x := ap_slice und_50 und_50 rfl sb_37 zero_37 rfl rfl rfl h id a x
theorem ld_51 [SpC] (h : Heap) (p : AV) : aLoad X h 51 p = ld1 (cellsAt h p) := ld_leaf shape_51 h p
theorem st_51 [SpC] (h : Heap) (p v : AV) : aStore X h 51 p v = stS 1 h p v := st_type size_51 h p v
theorem al_51 [SpC] (id : Nat) : aAlloc X id 51 = some (.loc ⟨.ptr id 0, [], [(id, some (.cells [.nilfunc] false false))]⟩) := al_type zero_51 rfl rfl id
theorem ld_52 [SpC] (h : Heap) (p : AV) : aLoad X h 52 p = ld1 (cellsAt h p) := ld_leaf shape_52 h p
theorem st_52 [SpC] (h : Heap) (p v : AV) : aStore X h 52 p v = stS 1 h p v := st_type size_52 h p v
theorem al_52 [SpC] (id : Nat) : aAlloc X id 52 = some (.loc ⟨.ptr id 0, [], [(id, some (.cells [.nilfunc] false false))]⟩) := al_type zero_52 rfl rfl id
theorem ld_53 [SpC] (h : Heap) (p : AV) : aLoad X h 53 p = ld1 (cellsAt h p) := ld_leaf shape_53 h p
theorem st_53 [SpC] (h : Heap) (p v : AV) : aStore X h 53 p v = stS 1 h p v := st_type size_53 h p v
theorem al_53 [SpC] (id : Nat) : aAlloc X id 53 = some (.loc ⟨.ptr id 0, [], [(id, some (.cells [.nilfunc] false false))]⟩) := al_type zero_53 rfl rfl id
theorem ld_54 [SpC] (h : Heap) (p : AV) : aLoad X h 54 p = ld1 (cellsAt h p) := ld_leaf shape_54 h p
theorem st_54 [SpC] (h : Heap) (p v : AV) : aStore X h 54 p v = stS 1 h p v := st_type size_54 h p v
theorem al_54 [SpC] (id : Nat) : aAlloc X id 54 = some (.loc ⟨.ptr id 0, [], [(id, some (.cells [.nilfunc] false false))]⟩) := al_type zero_54 rfl rfl id
theorem ld_55 [SpC] (h : Heap) (p : AV) : aLoad X h 55 p = ld1 (cellsAt h p) := ld_leaf shape_55 h p
theorem st_55 [SpC] (h : Heap) (p v : AV) : aStore X h 55 p v = stS 1 h p v := st_type size_55 h p v
theorem al_55 [SpC] (id : Nat) : aAlloc X id 55 = some (.loc ⟨.ptr id 0, [], [(id, some (.cells [.nilfunc] false false))]⟩) := al_type zero_55 rfl rfl id
theorem ld_56 [SpC] (h : Heap) (p : AV) : aLoad X h 56 p = ld1 (cellsAt h p) := ld_leaf shape_56 h p
theorem st_56 [SpC] (h : Heap) (p v : AV) : aStore X h 56 p v = stS 1 h p v := st_type size_56 h p v
theorem al_56 [SpC] (id : Nat) : aAlloc X id 56 = some (.loc ⟨.ptr id 0, [], [(id, some (.cells [.nilfunc] false false))]⟩) := al_type zero_56 rfl rfl id
theorem ld_57 [SpC] (h : Heap) (p : AV) : aLoad X h 57 p = ld1 (cellsAt h p) := ld_leaf shape_57 h p
theorem st_57 [SpC] (h : Heap) (p v : AV) : aStore X h 57 p v = stS 1 h p v := st_type size_57 h p v
theorem al_57 [SpC] (id : Nat) : aAlloc X id 57 = some (.loc ⟨.ptr id 0, [], [(id, some (.cells [.ro [] 0 true] false false))]⟩) := al_type zero_57 rfl rfl id
theorem len_57 [SpC] (x : AV) : lenA X 57 x = lenS x := len_slice und_57 x
theorem cp_57 [SpC] (h : Heap) (t' : Nat) (d x : AV) : aCopy X h #[57, t'] d x = nx (srcCells h 4 x) fun y => cpD 4 h y.1 y.2.1 y.2.2 d := cp_slice und_57 size_28 h t' d x
theorem ix_57 [SpC] (x : AV) (k : IntKind) (n : Int) : aIndexAddr X 57 x (.int k n) = ixS 4 x n := ix_slice und_57 size_28 x k n
theorem sli_57 [SpC] (x : AV) (lo hi mx : Option AV) : aSlice X 57 x lo hi mx = sliS 4 x lo hi mx := sli_slice und_57 size_28 x lo hi mx
theorem bs_57 [SpC] (id len : Nat) (hn : len * 4 ≤ 2 ^ 24) (ps : List (Nat × AV)) : aBuildSlice X id 57 len ps = bsS id len 4 [.bool false, .ro [] 0 false, .bool false, .ro [] 0 false] ps := bs_slice und_57 size_28 zero_28 rfl rfl rfl id len hn ps
theorem mk_57 [SpC] (id : Nat) (l c : AV) : aMakeSlice X id 57 l c = mkS id 4 64 [.bool false, .ro [] 0 false, .bool false, .ro [] 0 false] l c := mk_slice und_57 sb_28 zero_28 rfl rfl rfl id l c
theorem ap_57 [SpC] (h : Heap) (id : Nat) (a x : AV) : aAppend X h id #[57, 57] a x = apS 4 64 h id a x := ap_slice und_57 und_57 rfl sb_28 zero_28 rfl rfl rfl h id a x
theorem ld_58 [SpC] (h : Heap) (p : AV) : aLoad X h 58 p = ldn 2 (cellsAt h p) := ld_agg shape_58 h p
theorem st_58 [SpC] (h : Heap) (p v : AV) : aStore X h 58 p v = stS 2 h p v := st_type size_58 h p v
theorem al_58 [SpC] (id : Nat) : aAlloc X id 58 = some (.loc ⟨.ptr id 0, [], [(id, some (.cells [.int .i64 0, .int .i64 0] false false))]⟩) := al_type zero_58 rfl rfl id
theorem fa_58_0 [SpC] (p : AV) : aFieldAddr X 58 p 0 = faS 0 p := fa_fieldN und_58 (by kernel_rfl) size_3 p
theorem fd_58_0 [SpC] (x : AV) : aField X 58 x 0 = fdS false 1 0 x := fd_fieldN und_58 (by kernel_rfl) shape_3 x
theorem fa_58_1 [SpC] (p : AV) : aFieldAddr X 58 p 1 = faS 1 p := fa_fieldN und_58 (by kernel_rfl) size_3 p
theorem fd_58_1 [SpC] (x : AV) : aField X 58 x 1 = fdS false 1 1 x := fd_fieldN und_58 (by kernel_rfl) shape_3 x
theorem pl_58 [SpC] : fieldPlaces X flds_58.toList = some [(0, 1), (1, 1)] := by kernel_rfl
theorem bl_58 [SpC] (ps : List (Nat × AV)) : aBuild X 58 ps = blS (plOf [(0, 1), (1, 1)]) [.int .i64 0, .int .i64 0] ps := bl_struct zero_58 rfl rfl und_58 pl_58 ps
theorem ld_59 [SpC] (h : Heap) (p : AV) : aLoad X h 59 p = ldn 2 (cellsAt h p) := ld_agg shape_59 h p
theorem st_59 [SpC] (h : Heap) (p v : AV) : aStore X h 59 p v = stS 2 h p v := st_type size_59 h p v
theorem al_59 [SpC] (id : Nat) : aAlloc X id 59 = some (.loc ⟨.ptr id 0, [], [(id, some (.cells [.int .i64 0, .int .i64 0] false false))]⟩) := al_type zero_59 rfl rfl id
theorem fa_59_0 [SpC] (p : AV) : aFieldAddr X 59 p 0 = faS 0 p := fa_fieldN und_59 (by kernel_rfl) size_3 p
theorem fd_59_0 [SpC] (x : AV) : aField X 59 x 0 = fdS false 1 0 x := fd_fieldN und_59 (by kernel_rfl) shape_3 x
theorem fa_59_1 [SpC] (p : AV) : aFieldAddr X 59 p 1 = faS 1 p := fa_fieldN und_59 (by kernel_rfl) size_3 p
theorem fd_59_1 [SpC] (x : AV) : aField X 59 x 1 = fdS false 1 1 x := fd_fieldN und_59 (by kernel_rfl) shape_3 x
theorem pl_59 [SpC] : fieldPlaces X flds_58.toList = some [(0, 1), (1, 1)] := by kernel_rfl
theorem bl_59 [SpC] (ps : List (Nat × AV)) : aBuild X 59 ps = blS (plOf [(0, 1), (1, 1)]) [.int .i64 0, .int .i64 0] ps := bl_struct zero_59 rfl rfl und_59 pl_59 ps
theorem ld_60 [SpC] (h : Heap) (p : AV) : aLoad X h 60 p = ld1 (cellsAt h p) := ld_leaf shape_60 h p
theorem st_60 [SpC] (h : Heap) (p v : AV) : aStore X h 60 p v = stS 1 h p v := st_type size_60 h p v
theorem al_60 [SpC] (id : Nat) : aAlloc X id 60 = some (.loc ⟨.ptr id 0, [], [(id, some (.cells [.nilfunc] false false))]⟩) := al_type zero_60 rfl rfl id
theorem ld_61 [SpC] (h : Heap) (p : AV) : aLoad X h 61 p = ld1 (cellsAt h p) := ld_leaf shape_61 h p
theorem st_61 [SpC] (h : Heap) (p v : AV) : aStore X h 61 p v = stS 1 h p v := st_type size_61 h p v
theorem al_61 [SpC] (id : Nat) : aAlloc X id 61 = some (.loc ⟨.ptr id 0, [], [(id, some (.cells [.nilfunc] false false))]⟩) := al_type zero_61 rfl rfl id
theorem ld_62 [SpC] (h : Heap) (p : AV) : aLoad X h 62 p = ld1 (cellsAt h p) := ld_leaf shape_62 h p
theorem st_62 [SpC] (h : Heap) (p v : AV) : aStore X h 62 p v = stS 1 h p v := st_type size_62 h p v
theorem al_62 [SpC] (id : Nat) : aAlloc X id 62 = some (.loc ⟨.ptr id 0, [], [(id, some (.cells [.nilfunc] false false))]⟩) := al_type zero_62 rfl rfl id
theorem ld_63 [SpC] (h : Heap) (p : AV) : aLoad X h 63 p = ld1 (cellsAt h p) := ld_leaf shape_63 h p
theorem st_63 [SpC] (h : Heap) (p v : AV) : aStore X h 63 p v = stS 1 h p v := st_type size_63 h p v
theorem al_63 [SpC] (id : Nat) : aAlloc X id 63 = some (.loc ⟨.ptr id 0, [], [(id, some (.cells [.nilfunc] false false))]⟩) := al_type zero_63 rfl rfl id
theorem ld_64 [SpC] (h : Heap) (p : AV) : aLoad X h 64 p = ld1 (cellsAt h p) := ld_leaf shape_64 h p
theorem st_64 [SpC] (h : Heap) (p v : AV) : aStore X h 64 p v = stS 1 h p v := st_type size_64 h p v
theorem al_64 [SpC] (id : Nat) : aAlloc X id 64 = some (.loc ⟨.ptr id 0, [], [(id, some (.cells [.ro [] 0 true] false false))]⟩) := al_type zero_64 rfl rfl id
theorem len_64 [SpC] (x : AV) : lenA X 64 x = lenS x := len_slice und_64 x
theorem cp_64 [SpC] (h : Heap) (t' : Nat) (d x : AV) : aCopy X h #[64, t'] d x = nx (srcCells h 2 x) fun y => cpD 2 h y.1 y.2.1 y.2.2 d := cp_slice und_64 size_87 h t' d x
theorem ix_64 [SpC] (x : AV) (k : IntKind) (n : Int) : aIndexAddr X 64 x (.int k n) = ixS 2 x n := ix_slice und_64 size_87 x k n
theorem sli_64 [SpC] (x : AV) (lo hi mx : Option AV) : aSlice X 64 x lo hi mx = sliS 2 x lo hi mx := sli_slice und_64 size_87 x lo hi mx
theorem bs_64 [SpC] (id len : Nat) (hn : len * 2 ≤ 2 ^ 24) (ps : List (Nat × AV)) : aBuildSlice X id 64 len ps = bsS id len 2 [.int .i64 0, .int .i64 0] ps := bs_slice und_64 size_87 zero_87 rfl rfl rfl id len hn ps
theorem mk_64 [SpC] (id : Nat) (l c : AV) : aMakeSlice X id 64 l c = mkS id 2 16 [.int .i64 0, .int .i64 0] l c := mk_slice und_64 sb_87 zero_87 rfl rfl rfl id l c
theorem ap_64 [SpC] (h : Heap) (id : Nat) (a x : AV) : aAppend X h id #[64, 64] a x = apS 2 16 h id a x := ap_slice und_64 und_64 rfl sb_87 zero_87 rfl rfl rfl h id a x
theorem ld_65 [SpC] (h : Heap) (p : AV) : aLoad X h 65 p = ld1 (cellsAt h p) := ld_leaf shape_65 h p
theorem st_65 [SpC] (h : Heap) (p v : AV) : aStore X h 65 p v = stS 1 h p v := st_type size_65 h p v
theorem al_65 [SpC] (id : Nat) : aAlloc X id 65 = some (.loc ⟨.ptr id 0, [], [(id, some (.cells [.nilfunc] false false))]⟩) := al_type zero_65 rfl rfl id
theorem ld_66 [SpC] (h : Heap) (p : AV) : aLoad X h 66 p = ld1 (cellsAt h p) := ld_leaf shape_66 h p
theorem st_66 [SpC] (h : Heap) (p v : AV) : aStore X h 66 p v = stS 1 h p v := st_type size_66 h p v
theorem al_66 [SpC] (id : Nat) : aAlloc X id 66 = some (.loc ⟨.ptr id 0, [], [(id, some (.cells [.nilfunc] false false))]⟩) := al_type zero_66 rfl rfl id
theorem ld_67 [SpC] (h : Heap) (p : AV) : aLoad X h 67 p = ld1 (cellsAt h p) := ld_leaf shape_67 h p
theorem st_67 [SpC] (h : Heap) (p v : AV) : aStore X h 67 p v = stS 1 h p v := st_type size_67 h p v
theorem al_67 [SpC] (id : Nat) : aAlloc X id 67 = some (.loc ⟨.ptr id 0, [], [(id, some (.cells [.nilfunc] false false))]⟩) := al_type zero_67 rfl rfl id
theorem ld_68 [SpC] (h : Heap) (p : AV) : aLoad X h 68 p = ld1 (cellsAt h p) := ld_leaf shape_68 h p
theorem st_68 [SpC] (h : Heap) (p v : AV) : aStore X h 68 p v = stS 1 h p v := st_type size_68 h p v
theorem al_68 [SpC] (id : Nat) : aAlloc X id 68 = some (.loc ⟨.ptr id 0, [], [(id, some (.cells [.nilfunc] false false))]⟩) := al_type zero_68 rfl rfl id
theorem ld_69 [SpC] (h : Heap) (p : AV) : aLoad X h 69 p = ld1 (cellsAt h p) := ld_leaf shape_69 h p
theorem st_69 [SpC] (h : Heap) (p v : AV) : aStore X h 69 p v = stS 1 h p v := st_type size_69 h p v
theorem al_69 [SpC] (id : Nat) : aAlloc X id 69 = some (.loc ⟨.ptr id 0, [], [(id, some (.cells [.nilfunc] false false))]⟩) := al_type zero_69 rfl rfl id
theorem ld_70 [SpC] (h : Heap) (p : AV) : aLoad X h 70 p = ld1 (cellsAt h p) := ld_leaf shape_70 h p
theorem st_70 [SpC] (h : Heap) (p v : AV) : aStore X h 70 p v = stS 1 h p v := st_type size_70 h p v
theorem al_70 [SpC] (id : Nat) : aAlloc X id 70 = some (.loc ⟨.ptr id 0, [], [(id, some (.cells [.ro [] 0 true] false false))]⟩) := al_type zero_70 rfl rfl id
theorem len_70 [SpC] (x : AV) : lenA X 70 x = lenS x := len_slice und_70 x
theorem cp_70 [SpC] (h : Heap) (t' : Nat) (d x : AV) : aCopy X h #[70, t'] d x = nx (srcCells h 4 x) fun y => cpD 4 h y.1 y.2.1 y.2.2 d := cp_slice und_70 size_113 h t' d x
theorem ix_70 [SpC] (x : AV) (k : IntKind) (n : Int) : aIndexAddr X 70 x (.int k n) = ixS 4 x n := ix_slice und_70 size_113 x k n
theorem sli_70 [SpC] (x : AV) (lo hi mx : Option AV) : aSlice X 70 x lo hi mx = sliS 4 x lo hi mx := sli_slice und_70 size_113 x lo hi mx
theorem bs_70 [SpC] (id len : Nat) (hn : len * 4 ≤ 2 ^ 24) (ps : List (Nat × AV)) : aBuildSlice X id 70 len ps = bsS id len 4 [.int .i64 0, .int .i64 0, .int .i64 0, .int .i64 0] ps := bs_slice und_70 size_113 zero_113 rfl rfl rfl id len hn ps
theorem mk_70 [SpC] (id : Nat) (l c : AV) : aMakeSlice X id 70 l c = mkS id 4 32 [.int .i64 0, .int .i64 0, .int .i64 0, .int .i64 0] l c := mk_slice und_70 sb_113 zero_113 rfl rfl rfl id l c
theorem ap_70 [SpC] (h : Heap) (id : Nat) (a x : AV) : aAppend X h id #[70, 70] a x = apS 4 32 h id a x := ap_slice und_70 und_70 rfl sb_113 zero_113 rfl rfl rfl h id a x
theorem ld_71 [SpC] (h : Heap) (p : AV) : aLoad X h 71 p = ld1 (cellsAt h p) := ld_leaf shape_71 h p
theorem st_71 [SpC] (h : Heap) (p v : AV) : aStore X h 71 p v = stS 1 h p v := st_type size_71 h p v
theorem al_71 [SpC] (id : Nat) : aAlloc X id 71 = some (.loc ⟨.ptr id 0, [], [(id, some (.cells [.nilfunc] false false))]⟩) := al_type zero_71 rfl rfl id
theorem ld_72 [SpC] (h : Heap) (p : AV) : aLoad X h 72 p = ld1 (cellsAt h p) := ld_leaf shape_72 h p
theorem st_72 [SpC] (h : Heap) (p v : AV) : aStore X h 72 p v = stS 1 h p v := st_type size_72 h p v
theorem al_72 [SpC] (id : Nat) : aAlloc X id 72 = some (.loc ⟨.ptr id 0, [], [(id, some (.cells [.nilfunc] false false))]⟩) := al_type zero_72 rfl rfl id
theorem ld_73 [SpC] (h : Heap) (p : AV) : aLoad X h 73 p = ld1 (cellsAt h p) := ld_leaf shape_73 h p
theorem st_73 [SpC] (h : Heap) (p v : AV) : aStore X h 73 p v = stS 1 h p v := st_type size_73 h p v
theorem al_73 [SpC] (id : Nat) : aAlloc X id 73 = some (.loc ⟨.ptr id 0, [], [(id, some (.cells [.nilfunc] false false))]⟩) := al_type zero_73 rfl rfl id
theorem ld_74 [SpC] (h : Heap) (p : AV) : aLoad X h 74 p = ld1 (cellsAt h p) := ld_leaf shape_74 h p
theorem st_74 [SpC] (h : Heap) (p v : AV) : aStore X h 74 p v = stS 1 h p v := st_type size_74 h p v
theorem al_74 [SpC] (id : Nat) : aAlloc X id 74 = some (.loc ⟨.ptr id 0, [], [(id, some (.cells [.nilfunc] false false))]⟩) := al_type zero_74 rfl rfl id
theorem ld_75 [SpC] (h : Heap) (p : AV) : aLoad X h 75 p = ld1 (cellsAt h p) := ld_leaf shape_75 h p
theorem st_75 [SpC] (h : Heap) (p v : AV) : aStore X h 75 p v = stS 1 h p v := st_type size_75 h p v
theorem al_75 [SpC] (id : Nat) : aAlloc X id 75 = some (.loc ⟨.ptr id 0, [], [(id, some (.cells [.nilfunc] false false))]⟩) := al_type zero_75 rfl rfl id
theorem ld_76 [SpC] (h : Heap) (p : AV) : aLoad X h 76 p = ldn 8 (cellsAt h p) := ld_agg shape_76 h p
theorem st_76 [SpC] (h : Heap) (p v : AV) : aStore X h 76 p v = stS 8 h p v := st_type size_76 h p v
theorem al_76 [SpC] (id : Nat) : aAlloc X id 76 = some (.loc ⟨.ptr id 0, [], [(id, some (.cells [.bool false, .ro [] 0 false, .bool false, .ro [] 0 false, .bool false, .ro [] 0 false, .bool false, .ro [] 0 false] false false))]⟩) := al_type zero_76 rfl rfl id
theorem len_76 [SpC] (x : AV) : lenA X 76 x = some (.int .i64 2) := len_array und_76 x
theorem ix_76 [SpC] (x : AV) (k : IntKind) (n : Int) : aIndexAddr X 76 x (.int k n) = ixA 2 4 x n := ix_array und_76 size_28 x k n
theorem bl_76 [SpC] (ps : List (Nat × AV)) : aBuild X 76 ps = blS (plEv 4) [.bool false, .ro [] 0 false, .bool false, .ro [] 0 false, .bool false, .ro [] 0 false, .bool false, .ro [] 0 false] ps := bl_array zero_76 rfl rfl und_76 size_28 ps
theorem ld_77 [SpC] (h : Heap) (p : AV) : aLoad X h 77 p = ld1 (cellsAt h p) := ld_leaf shape_77 h p
theorem st_77 [SpC] (h : Heap) (p v : AV) : aStore X h 77 p v = stS 1 h p v := st_type size_77 h p v
theorem al_77 [SpC] (id : Nat) : aAlloc X id 77 = some (.loc ⟨.ptr id 0, [], [(id, some (.cells [.nilfunc] false false))]⟩) := al_type zero_77 rfl rfl id
theorem ld_78 [SpC] (h : Heap) (p : AV) : aLoad X h 78 p = ld1 (cellsAt h p) := ld_leaf shape_78 h p
theorem st_78 [SpC] (h : Heap) (p v : AV) : aStore X h 78 p v = stS 1 h p v := st_type size_78 h p v
theorem al_78 [SpC] (id : Nat) : aAlloc X id 78 = some (.loc ⟨.ptr id 0, [], [(id, some (.cells [.nilfunc] false false))]⟩) := al_type zero_78 rfl rfl id
theorem ld_79 [SpC] (h : Heap) (p : AV) : aLoad X h 79 p = ldn 2 (cellsAt h p) := ld_agg shape_79 h p
theorem st_79 [SpC] (h : Heap) (p v : AV) : aStore X h 79 p v = stS 2 h p v := st_type size_79 h p v
theorem al_79 [SpC] (id : Nat) : aAlloc X id 79 = some (.loc ⟨.ptr id 0, [], [(id, some (.cells [.nilfunc, .nilfunc] false false))]⟩) := al_type zero_79 rfl rfl id
theorem fa_79_0 [SpC] (p : AV) : aFieldAddr X 79 p 0 = faS 0 p := fa_fieldN und_79 (by kernel_rfl) size_77 p
theorem fd_79_0 [SpC] (x : AV) : aField X 79 x 0 = fdS false 1 0 x := fd_fieldN und_79 (by kernel_rfl) shape_77 x
theorem fa_79_1 [SpC] (p : AV) : aFieldAddr X 79 p 1 = faS 1 p := fa_fieldN und_79 (by kernel_rfl) size_78 p
theorem fd_79_1 [SpC] (x : AV) : aField X 79 x 1 = fdS false 1 1 x := fd_fieldN und_79 (by kernel_rfl) shape_78 x
theorem pl_79 [SpC] : fieldPlaces X flds_79.toList = some [(0, 1), (1, 1)] := by kernel_rfl
theorem bl_79 [SpC] (ps : List (Nat × AV)) : aBuild X 79 ps = blS (plOf [(0, 1), (1, 1)]) [.nilfunc, .nilfunc] ps := bl_struct zero_79 rfl rfl und_79 pl_79 ps
theorem ld_80 [SpC] (h : Heap) (p : AV) : aLoad X h 80 p = ldn 2 (cellsAt h p) := ld_agg shape_80 h p
theorem st_80 [SpC] (h : Heap) (p v : AV) : aStore X h 80 p v = stS 2 h p v := st_type size_80 h p v
theorem al_80 [SpC] (id : Nat) : aAlloc X id 80 = some (.loc ⟨.ptr id 0, [], [(id, some (.cells [.nilfunc, .nilfunc] false false))]⟩) := al_type zero_80 rfl rfl id
theorem fa_80_0 [SpC] (p : AV) : aFieldAddr X 80 p 0 = faS 0 p := fa_fieldN und_80 (by kernel_rfl) size_77 p
theorem fd_80_0 [SpC] (x : AV) : aField X 80 x 0 = fdS false 1 0 x := fd_fieldN und_80 (by kernel_rfl) shape_77 x
theorem fa_80_1 [SpC] (p : AV) : aFieldAddr X 80 p 1 = faS 1 p := fa_fieldN und_80 (by kernel_rfl) size_78 p
theorem fd_80_1 [SpC] (x : AV) : aField X 80 x 1 = fdS false 1 1 x := fd_fieldN und_80 (by kernel_rfl) shape_78 x
theorem pl_80 [SpC] : fieldPlaces X flds_79.toList = some [(0, 1), (1, 1)] := by kernel_rfl
theorem bl_80 [SpC] (ps : List (Nat × AV)) : aBuild X 80 ps = blS (plOf [(0, 1), (1, 1)]) [.nilfunc, .nilfunc] ps := bl_struct zero_80 rfl rfl und_80 pl_80 ps
theorem ld_81 [SpC] (h : Heap) (p : AV) : aLoad X h 81 p = ldn 4 (cellsAt h p) := ld_agg shape_81 h p
theorem st_81 [SpC] (h : Heap) (p v : AV) : aStore X h 81 p v = stS 4 h p v := st_type size_81 h p v
theorem al_81 [SpC] (id : Nat) : aAlloc X id 81 = some (.loc ⟨.ptr id 0, [], [(id, some (.cells [.nilfunc, .nilfunc, .nilfunc, .nilfunc] false false))]⟩) := al_type zero_81 rfl rfl id
theorem len_81 [SpC] (x : AV) : lenA X 81 x = some (.int .i64 2) := len_array und_81 x
theorem ix_81 [SpC] (x : AV) (k : IntKind) (n : Int) : aIndexAddr X 81 x (.int k n) = ixA 2 2 x n := ix_array und_81 size_80 x k n
theorem bl_81 [SpC] (ps : List (Nat × AV)) : aBuild X 81 ps = blS (plEv 2) [.nilfunc, .nilfunc, .nilfunc, .nilfunc] ps := bl_array zero_81 rfl rfl und_81 size_80 ps
theorem ld_82 [SpC] (h : Heap) (p : AV) : aLoad X h 82 p = ld1 (cellsAt h p) := ld_leaf shape_82 h p
theorem st_82 [SpC] (h : Heap) (p v : AV) : aStore X h 82 p v = stS 1 h p v := st_type size_82 h p v
theorem al_82 [SpC] (id : Nat) : aAlloc X id 82 = some (.loc ⟨.ptr id 0, [], [(id, some (.cells [.nilfunc] false false))]⟩) := al_type zero_82 rfl rfl id
theorem ld_83 [SpC] (h : Heap) (p : AV) : aLoad X h 83 p = ld1 (cellsAt h p) := ld_leaf shape_83 h p
theorem st_83 [SpC] (h : Heap) (p v : AV) : aStore X h 83 p v = stS 1 h p v := st_type size_83 h p v
theorem al_83 [SpC] (id : Nat) : aAlloc X id 83 = some (.loc ⟨.ptr id 0, [], [(id, some (.cells [.nilfunc] false false))]⟩) := al_type zero_83 rfl rfl id
theorem ld_85 [SpC] (h : Heap) (p : AV) : aLoad X h 85 p = ld1 (cellsAt h p) := ld_leaf shape_85 h p
theorem st_85 [SpC] (h : Heap) (p v : AV) : aStore X h 85 p v = stS 1 h p v := st_type size_85 h p v
theorem al_85 [SpC] (id : Nat) : aAlloc X id 85 = some (.loc ⟨.ptr id 0, [], [(id, some (.cells [.nilfunc] false false))]⟩) := al_type zero_85 rfl rfl id
theorem ld_86 [SpC] (h : Heap) (p : AV) : aLoad X h 86 p = ld1 (cellsAt h p) := ld_leaf shape_86 h p
theorem st_86 [SpC] (h : Heap) (p v : AV) : aStore X h 86 p v = stS 1 h p v := st_type size_86 h p v
theorem al_86 [SpC] (id : Nat) : aAlloc X id 86 = some (.loc ⟨.ptr id 0, [], [(id, some (.cells [.nilfunc] false false))]⟩) := al_type zero_86 rfl rfl id
theorem ld_87 [SpC] (h : Heap) (p : AV) : aLoad X h 87 p = ldn 2 (cellsAt h p) := ld_agg shape_87 h p
theorem st_87 [SpC] (h : Heap) (p v : AV) : aStore X h 87 p v = stS 2 h p v := st_type size_87 h p v
theorem al_87 [SpC] (id : Nat) : aAlloc X id 87 = some (.loc ⟨.ptr id 0, [], [(id, some (.cells [.int .i64 0, .int .i64 0] false false))]⟩) := al_type zero_87 rfl rfl id
theorem len_87 [SpC] (x : AV) : lenA X 87 x = some (.int .i64 2) := len_array und_87 x
theorem ix_87 [SpC] (x : AV) (k : IntKind) (n : Int) : aIndexAddr X 87 x (.int k n) = ixA 2 1 x n := ix_array und_87 size_3 x k n
theorem bl_87 [SpC] (ps : List (Nat × AV)) : aBuild X 87 ps = blS (plEv 1) [.int .i64 0, .int .i64 0] ps := bl_array zero_87 rfl rfl und_87 size_3 ps
theorem ld_88 [SpC] (h : Heap) (p : AV) : aLoad X h 88 p = ld1 (cellsAt h p) := ld_leaf shape_88 h p
theorem st_88 [SpC] (h : Heap) (p v : AV) : aStore X h 88 p v = stS 1 h p v := st_type size_88 h p v
theorem al_88 [SpC] (id : Nat) : aAlloc X id 88 = some (.loc ⟨.ptr id 0, [], [(id, some (.cells [.nilfunc] false false))]⟩) := al_type zero_88 rfl rfl id
theorem ld_89 [SpC] (h : Heap) (p : AV) : aLoad X h 89 p = ld1 (cellsAt h p) := ld_leaf shape_89 h p
theorem st_89 [SpC] (h : Heap) (p v : AV) : aStore X h 89 p v = stS 1 h p v := st_type size_89 h p v
theorem al_89 [SpC] (id : Nat) : aAlloc X id 89 = some (.loc ⟨.ptr id 0, [], [(id, some (.cells [.ro [] 0 true] false false))]⟩) := al_type zero_89 rfl rfl id
theorem len_89 [SpC] (x : AV) : lenA X 89 x = lenS x := len_slice und_89 x
theorem cp_89 [SpC] (h : Heap) (t' : Nat) (d x : AV) : aCopy X h #[89, t'] d x = nx (srcCells h 2 x) fun y => cpD 2 h y.1 y.2.1 y.2.2 d := cp_slice und_89 size_80 h t' d x
theorem ix_89 [SpC] (x : AV) (k : IntKind) (n : Int) : aIndexAddr X 89 x (.int k n) = ixS 2 x n := ix_slice und_89 size_80 x k n
theorem sli_89 [SpC] (x : AV) (lo hi mx : Option AV) : aSlice X 89 x lo hi mx = sliS 2 x lo hi mx := sli_slice und_89 size_80 x lo hi mx
theorem bs_89 [SpC] (id len : Nat) (hn : len * 2 ≤ 2 ^ 24) (ps : List (Nat × AV)) : aBuildSlice X id 89 len ps = bsS id len 2 [.nilfunc, .nilfunc] ps := bs_slice und_89 size_80 zero_80 rfl rfl rfl id len hn ps
theorem mk_89 [SpC] (id : Nat) (l c : AV) : aMakeSlice X id 89 l c = mkS id 2 16 [.nilfunc, .nilfunc] l c := mk_slice und_89 sb_80 zero_80 rfl rfl rfl id l c
theorem ap_89 [SpC] (h : Heap) (id : Nat) (a x : AV) : aAppend X h id #[89, 89] a x = apS 2 16 h id a x := ap_slice und_89 und_89 rfl sb_80 zero_80 rfl rfl rfl h id a x
theorem ld_90 [SpC] (h : Heap) (p : AV) : aLoad X h 90 p = ld1 (cellsAt h p) := ld_leaf shape_90 h p
theorem st_90 [SpC] (h : Heap) (p v : AV) : aStore X h 90 p v = stS 1 h p v := st_type size_90 h p v
theorem al_90 [SpC] (id : Nat) : aAlloc X id 90 = some (.loc ⟨.ptr id 0, [], [(id, some (.cells [.nilfunc] false false))]⟩) := al_type zero_90 rfl rfl id
theorem ld_91 [SpC] (h : Heap) (p : AV) : aLoad X h 91 p = ld1 (cellsAt h p) := ld_leaf shape_91 h p
theorem st_91 [SpC] (h : Heap) (p v : AV) : aStore X h 91 p v = stS 1 h p v := st_type size_91 h p v
theorem al_91 [SpC] (id : Nat) : aAlloc X id 91 = some (.loc ⟨.ptr id 0, [], [(id, some (.cells [.nilfunc] false false))]⟩) := al_type zero_91 rfl rfl id
theorem ld_92 [SpC] (h : Heap) (p : AV) : aLoad X h 92 p = ld1 (cellsAt h p) := ld_leaf shape_92 h p
theorem st_92 [SpC] (h : Heap) (p v : AV) : aStore X h 92 p v = stS 1 h p v := st_type size_92 h p v
theorem al_92 [SpC] (id : Nat) : aAlloc X id 92 = some (.loc ⟨.ptr id 0, [], [(id, some (.cells [.nilfunc] false false))]⟩) := al_type zero_92 rfl rfl id
theorem ld_93 [SpC] (h : Heap) (p : AV) : aLoad X h 93 p = ld1 (cellsAt h p) := ld_leaf shape_93 h p
theorem st_93 [SpC] (h : Heap) (p v : AV) : aStore X h 93 p v = stS 1 h p v := st_type size_93 h p v
theorem al_93 [SpC] (id : Nat) : aAlloc X id 93 = some (.loc ⟨.ptr id 0, [], [(id, some (.cells [.nilfunc] false false))]⟩) := al_type zero_93 rfl rfl id
theorem ld_94 [SpC] (h : Heap) (p : AV) : aLoad X h 94 p = ld1 (cellsAt h p) := ld_leaf shape_94 h p
theorem st_94 [SpC] (h : Heap) (p v : AV) : aStore X h 94 p v = stS 1 h p v := st_type size_94 h p v
theorem al_94 [SpC] (id : Nat) : aAlloc X id 94 = some (.loc ⟨.ptr id 0, [], [(id, some (.cells [.nilfunc] false false))]⟩) := al_type zero_94 rfl rfl id
theorem ld_95 [SpC] (h : Heap) (p : AV) : aLoad X h 95 p = ld1 (cellsAt h p) := ld_leaf shape_95 h p
theorem st_95 [SpC] (h : Heap) (p v : AV) : aStore X h 95 p v = stS 1 h p v := st_type size_95 h p v
theorem al_95 [SpC] (id : Nat) : aAlloc X id 95 = some (.loc ⟨.ptr id 0, [], [(id, some (.cells [.nilfunc] false false))]⟩) := al_type zero_95 rfl rfl id
theorem ld_96 [SpC] (h : Heap) (p : AV) : aLoad X h 96 p = ld1 (cellsAt h p) := ld_leaf shape_96 h p
theorem st_96 [SpC] (h : Heap) (p v : AV) : aStore X h 96 p v = stS 1 h p v := st_type size_96 h p v
theorem al_96 [SpC] (id : Nat) : aAlloc X id 96 = some (.loc ⟨.ptr id 0, [], [(id, some (.cells [.nilfunc] false false))]⟩) := al_type zero_96 rfl rfl id
theorem ld_97 [SpC] (h : Heap) (p : AV) : aLoad X h 97 p = ld1 (cellsAt h p) := ld_leaf shape_97 h p
theorem st_97 [SpC] (h : Heap) (p v : AV) : aStore X h 97 p v = stS 1 h p v := st_type size_97 h p v
theorem al_97 [SpC] (id : Nat) : aAlloc X id 97 = some (.loc ⟨.ptr id 0, [], [(id, some (.cells [.nilfunc] false false))]⟩) := al_type zero_97 rfl rfl id
theorem ld_98 [SpC] (h : Heap) (p : AV) : aLoad X h 98 p = ld1 (cellsAt h p) := ld_leaf shape_98 h p
theorem st_98 [SpC] (h : Heap) (p v : AV) : aStore X h 98 p v = stS 1 h p v := st_type size_98 h p v
theorem al_98 [SpC] (id : Nat) : aAlloc X id 98 = some (.loc ⟨.ptr id 0, [], [(id, some (.cells [.nilmap] false false))]⟩) := al_type zero_98 rfl rfl id
theorem ld_99 [SpC] (h : Heap) (p : AV) : aLoad X h 99 p = ld1 (cellsAt h p) := ld_leaf shape_99 h p
theorem st_99 [SpC] (h : Heap) (p v : AV) : aStore X h 99 p v = stS 1 h p v := st_type size_99 h p v
theorem al_99 [SpC] (id : Nat) : aAlloc X id 99 = some (.loc ⟨.ptr id 0, [], [(id, some (.cells [.nilfunc] false false))]⟩) := al_type zero_99 rfl rfl id
theorem ld_100 [SpC] (h : Heap) (p : AV) : aLoad X h 100 p = ld1 (cellsAt h p) := ld_leaf shape_100 h p
theorem st_100 [SpC] (h : Heap) (p v : AV) : aStore X h 100 p v = stS 1 h p v := st_type size_100 h p v
theorem al_100 [SpC] (id : Nat) : aAlloc X id 100 = some (.loc ⟨.ptr id 0, [], [(id, some (.cells [.nilfunc] false false))]⟩) := al_type zero_100 rfl rfl id
theorem ld_101 [SpC] (h : Heap) (p : AV) : aLoad X h 101 p = ld1 (cellsAt h p) := ld_leaf shape_101 h p
theorem st_101 [SpC] (h : Heap) (p v : AV) : aStore X h 101 p v = stS 1 h p v := st_type size_101 h p v
theorem al_101 [SpC] (id : Nat) : aAlloc X id 101 = some (.loc ⟨.ptr id 0, [], [(id, some (.cells [.nilfunc] false false))]⟩) := al_type zero_101 rfl rfl id
theorem ld_102 [SpC] (h : Heap) (p : AV) : aLoad X h 102 p = ld1 (cellsAt h p) := ld_leaf shape_102 h p
theorem st_102 [SpC] (h : Heap) (p v : AV) : aStore X h 102 p v = stS 1 h p v := st_type size_102 h p v
theorem al_102 [SpC] (id : Nat) : aAlloc X id 102 = some (.loc ⟨.ptr id 0, [], [(id, some (.cells [.nilfunc] false false))]⟩) := al_type zero_102 rfl rfl id
theorem ld_103 [SpC] (h : Heap) (p : AV) : aLoad X h 103 p = ld1 (cellsAt h p) := ld_leaf shape_103 h p
theorem st_103 [SpC] (h : Heap) (p v : AV) : aStore X h 103 p v = stS 1 h p v := st_type size_103 h p v
theorem al_103 [SpC] (id : Nat) : aAlloc X id 103 = some (.loc ⟨.ptr id 0, [], [(id, some (.cells [.nilfunc] false false))]⟩) := al_type zero_103 rfl rfl id
theorem ld_104 [SpC] (h : Heap) (p : AV) : aLoad X h 104 p = ldn 3 (cellsAt h p) := ld_agg shape_104 h p
theorem st_104 [SpC] (h : Heap) (p v : AV) : aStore X h 104 p v = stS 3 h p v := st_type size_104 h p v
theorem al_104 [SpC] (id : Nat) : aAlloc X id 104 = some (.loc ⟨.ptr id 0, [], [(id, some (.cells [.int .i64 0, .int .i64 0, .int .i64 0] false false))]⟩) := al_type zero_104 rfl rfl id
theorem fa_104_0 [SpC] (p : AV) : aFieldAddr X 104 p 0 = faS 0 p := fa_fieldN und_104 (by kernel_rfl) size_3 p
theorem fd_104_0 [SpC] (x : AV) : aField X 104 x 0 = fdS false 1 0 x := fd_fieldN und_104 (by kernel_rfl) shape_3 x
theorem fa_104_1 [SpC] (p : AV) : aFieldAddr X 104 p 1 = faS 1 p := fa_fieldN und_104 (by kernel_rfl) size_3 p
theorem fd_104_1 [SpC] (x : AV) : aField X 104 x 1 = fdS false 1 1 x := fd_fieldN und_104 (by kernel_rfl) shape_3 x
theorem fa_104_2 [SpC] (p : AV) : aFieldAddr X 104 p 2 = faS 2 p := fa_fieldN und_104 (by kernel_rfl) size_3 p
theorem fd_104_2 [SpC] (x : AV) : aField X 104 x 2 = fdS false 1 2 x := fd_fieldN und_104 (by kernel_rfl) shape_3 x
theorem pl_104 [SpC] : fieldPlaces X flds_104.toList = some [(0, 1), (1, 1), (2, 1)] := by kernel_rfl
theorem bl_104 [SpC] (ps : List (Nat × AV)) : aBuild X 104 ps = blS (plOf [(0, 1), (1, 1), (2, 1)]) [.int .i64 0, .int .i64 0, .int .i64 0] ps := bl_struct zero_104 rfl rfl und_104 pl_104 ps
theorem ld_105 [SpC] (h : Heap) (p : AV) : aLoad X h 105 p = ldn 3 (cellsAt h p) := ld_agg shape_105 h p
theorem st_105 [SpC] (h : Heap) (p v : AV) : aStore X h 105 p v = stS 3 h p v := st_type size_105 h p v
theorem al_105 [SpC] (id : Nat) : aAlloc X id 105 = some (.loc ⟨.ptr id 0, [], [(id, some (.cells [.int .i64 0, .int .i64 0, .int .i64 0] false false))]⟩) := al_type zero_105 rfl rfl id
theorem fa_105_0 [SpC] (p : AV) : aFieldAddr X 105 p 0 = faS 0 p := fa_fieldN und_105 (by kernel_rfl) size_3 p
theorem fd_105_0 [SpC] (x : AV) : aField X 105 x 0 = fdS false 1 0 x := fd_fieldN und_105 (by kernel_rfl) shape_3 x
theorem fa_105_1 [SpC] (p : AV) : aFieldAddr X 105 p 1 = faS 1 p := fa_fieldN und_105 (by kernel_rfl) size_3 p
theorem fd_105_1 [SpC] (x : AV) : aField X 105 x 1 = fdS false 1 1 x := fd_fieldN und_105 (by kernel_rfl) shape_3 x
theorem fa_105_2 [SpC] (p : AV) : aFieldAddr X 105 p 2 = faS 2 p := fa_fieldN und_105 (by kernel_rfl) size_3 p
theorem fd_105_2 [SpC] (x : AV) : aField X 105 x 2 = fdS false 1 2 x := fd_fieldN und_105 (by kernel_rfl) shape_3 x
theorem pl_105 [SpC] : fieldPlaces X flds_104.toList = some [(0, 1), (1, 1), (2, 1)] := by kernel_rfl
theorem bl_105 [SpC] (ps : List (Nat × AV)) : aBuild X 105 ps = blS (plOf [(0, 1), (1, 1), (2, 1)]) [.int .i64 0, .int .i64 0, .int .i64 0] ps := bl_struct zero_105 rfl rfl und_105 pl_105 ps
theorem ld_107 [SpC] (h : Heap) (p : AV) : aLoad X h 107 p = ld1 (cellsAt h p) := ld_leaf shape_107 h p
theorem st_107 [SpC] (h : Heap) (p v : AV) : aStore X h 107 p v = stS 1 h p v := st_type size_107 h p v
theorem al_107 [SpC] (id : Nat) : aAlloc X id 107 = some (.loc ⟨.ptr id 0, [], [(id, some (.cells [.nilfunc] false false))]⟩) := al_type zero_107 rfl rfl id
theorem ld_108 [SpC] (h : Heap) (p : AV) : aLoad X h 108 p = ld1 (cellsAt h p) := ld_leaf shape_108 h p
theorem st_108 [SpC] (h : Heap) (p v : AV) : aStore X h 108 p v = stS 1 h p v := st_type size_108 h p v
theorem al_108 [SpC] (id : Nat) : aAlloc X id 108 = some (.loc ⟨.ptr id 0, [], [(id, some (.cells [.nilfunc] false false))]⟩) := al_type zero_108 rfl rfl id
theorem ld_109 [SpC] (h : Heap) (p : AV) : aLoad X h 109 p = ld1 (cellsAt h p) := ld_leaf shape_109 h p
theorem st_109 [SpC] (h : Heap) (p v : AV) : aStore X h 109 p v = stS 1 h p v := st_type size_109 h p v
theorem al_109 [SpC] (id : Nat) : aAlloc X id 109 = some (.loc ⟨.ptr id 0, [], [(id, some (.cells [.nilfunc] false false))]⟩) := al_type zero_109 rfl rfl id
theorem ld_110 [SpC] (h : Heap) (p : AV) : aLoad X h 110 p = ld1 (cellsAt h p) := ld_leaf shape_110 h p
theorem st_110 [SpC] (h : Heap) (p v : AV) : aStore X h 110 p v = stS 1 h p v := st_type size_110 h p v
theorem al_110 [SpC] (id : Nat) : aAlloc X id 110 = some (.loc ⟨.ptr id 0, [], [(id, some (.cells [.nilfunc] false false))]⟩) := al_type zero_110 rfl rfl id
theorem ld_111 [SpC] (h : Heap) (p : AV) : aLoad X h 111 p = ld1 (cellsAt h p) := ld_leaf shape_111 h p
theorem st_111 [SpC] (h : Heap) (p v : AV) : aStore X h 111 p v = stS 1 h p v := st_type size_111 h p v
theorem al_111 [SpC] (id : Nat) : aAlloc X id 111 = some (.loc ⟨.ptr id 0, [], [(id, some (.cells [.nilfunc] false false))]⟩) := al_type zero_111 rfl rfl id
theorem ld_112 [SpC] (h : Heap) (p : AV) : aLoad X h 112 p = ldn 4 (cellsAt h p) := ld_agg shape_112 h p
theorem st_112 [SpC] (h : Heap) (p v : AV) : aStore X h 112 p v = stS 4 h p v := st_type size_112 h p v
theorem al_112 [SpC] (id : Nat) : aAlloc X id 112 = some (.loc ⟨.ptr id 0, [], [(id, some (.cells [.int .i64 0, .int .i64 0, .int .i64 0, .int .i64 0] false false))]⟩) := al_type zero_112 rfl rfl id
theorem fa_112_0 [SpC] (p : AV) : aFieldAddr X 112 p 0 = faS 0 p := fa_fieldN und_112 (by kernel_rfl) size_105 p
theorem fd_112_0 [SpC] (x : AV) : aField X 112 x 0 = fdS true 3 0 x := fd_fieldN und_112 (by kernel_rfl) shape_105 x
theorem fa_112_1 [SpC] (p : AV) : aFieldAddr X 112 p 1 = faS 3 p := fa_fieldN und_112 (by kernel_rfl) size_3 p
theorem fd_112_1 [SpC] (x : AV) : aField X 112 x 1 = fdS false 1 3 x := fd_fieldN und_112 (by kernel_rfl) shape_3 x
theorem pl_112 [SpC] : fieldPlaces X flds_112.toList = some [(0, 3), (3, 1)] := by kernel_rfl
theorem bl_112 [SpC] (ps : List (Nat × AV)) : aBuild X 112 ps = blS (plOf [(0, 3), (3, 1)]) [.int .i64 0, .int .i64 0, .int .i64 0, .int .i64 0] ps := bl_struct zero_112 rfl rfl und_112 pl_112 ps
theorem ld_113 [SpC] (h : Heap) (p : AV) : aLoad X h 113 p = ldn 4 (cellsAt h p) := ld_agg shape_113 h p
theorem st_113 [SpC] (h : Heap) (p v : AV) : aStore X h 113 p v = stS 4 h p v := st_type size_113 h p v
theorem al_113 [SpC] (id : Nat) : aAlloc X id 113 = some (.loc ⟨.ptr id 0, [], [(id, some (.cells [.int .i64 0, .int .i64 0, .int .i64 0, .int .i64 0] false false))]⟩) := al_type zero_113 rfl rfl id
theorem fa_113_0 [SpC] (p : AV) : aFieldAddr X 113 p 0 = faS 0 p := fa_fieldN und_113 (by kernel_rfl) size_105 p
theorem fd_113_0 [SpC] (x : AV) : aField X 113 x 0 = fdS true 3 0 x := fd_fieldN und_113 (by kernel_rfl) shape_105 x
theorem fa_113_1 [SpC] (p : AV) : aFieldAddr X 113 p 1 = faS 3 p := fa_fieldN und_113 (by kernel_rfl) size_3 p
theorem fd_113_1 [SpC] (x : AV) : aField X 113 x 1 = fdS false 1 3 x := fd_fieldN und_113 (by kernel_rfl) shape_3 x
theorem pl_113 [SpC] : fieldPlaces X flds_112.toList = some [(0, 3), (3, 1)] := by kernel_rfl
theorem bl_113 [SpC] (ps : List (Nat × AV)) : aBuild X 113 ps = blS (plOf [(0, 3), (3, 1)]) [.int .i64 0, .int .i64 0, .int .i64 0, .int .i64 0] ps := bl_struct zero_113 rfl rfl und_113 pl_113 ps
theorem ld_114 [SpC] (h : Heap) (p : AV) : aLoad X h 114 p = ld1 (cellsAt h p) := ld_leaf shape_114 h p
theorem st_114 [SpC] (h : Heap) (p v : AV) : aStore X h 114 p v = stS 1 h p v := st_type size_114 h p v
theorem al_114 [SpC] (id : Nat) : aAlloc X id 114 = some (.loc ⟨.ptr id 0, [], [(id, some (.cells [.nilfunc] false false))]⟩) := al_type zero_114 rfl rfl id
theorem ld_115 [SpC] (h : Heap) (p : AV) : aLoad X h 115 p = ld1 (cellsAt h p) := ld_leaf shape_115 h p
theorem st_115 [SpC] (h : Heap) (p v : AV) : aStore X h 115 p v = stS 1 h p v := st_type size_115 h p v
theorem al_115 [SpC] (id : Nat) : aAlloc X id 115 = some (.loc ⟨.ptr id 0, [], [(id, some (.cells [.nilfunc] false false))]⟩) := al_type zero_115 rfl rfl id
theorem ld_116 [SpC] (h : Heap) (p : AV) : aLoad X h 116 p = ld1 (cellsAt h p) := ld_leaf shape_116 h p
theorem st_116 [SpC] (h : Heap) (p v : AV) : aStore X h 116 p v = stS 1 h p v := st_type size_116 h p v
theorem al_116 [SpC] (id : Nat) : aAlloc X id 116 = some (.loc ⟨.ptr id 0, [], [(id, some (.cells [.nilfunc] false false))]⟩) := al_type zero_116 rfl rfl id
theorem ld_117 [SpC] (h : Heap) (p : AV) : aLoad X h 117 p = ld1 (cellsAt h p) := ld_leaf shape_117 h p
theorem st_117 [SpC] (h : Heap) (p v : AV) : aStore X h 117 p v = stS 1 h p v := st_type size_117 h p v
theorem al_117 [SpC] (id : Nat) : aAlloc X id 117 = some (.loc ⟨.ptr id 0, [], [(id, some (.cells [.nilfunc] false false))]⟩) := al_type zero_117 rfl rfl id
theorem ld_118 [SpC] (h : Heap) (p : AV) : aLoad X h 118 p = ld1 (cellsAt h p) := ld_leaf shape_118 h p
theorem st_118 [SpC] (h : Heap) (p v : AV) : aStore X h 118 p v = stS 1 h p v := st_type size_118 h p v
theorem al_118 [SpC] (id : Nat) : aAlloc X id 118 = some (.loc ⟨.ptr id 0, [], [(id, some (.cells [.nilfunc] false false))]⟩) := al_type zero_118 rfl rfl id
theorem ld_119 [SpC] (h : Heap) (p : AV) : aLoad X h 119 p = ld1 (cellsAt h p) := ld_leaf shape_119 h p
theorem st_119 [SpC] (h : Heap) (p v : AV) : aStore X h 119 p v = stS 1 h p v := st_type size_119 h p v
theorem al_119 [SpC] (id : Nat) : aAlloc X id 119 = some (.loc ⟨.ptr id 0, [], [(id, some (.cells [.nilfunc] false false))]⟩) := al_type zero_119 rfl rfl id
theorem ld_120 [SpC] (h : Heap) (p : AV) : aLoad X h 120 p = ld1 (cellsAt h p) := ld_leaf shape_120 h p
theorem st_120 [SpC] (h : Heap) (p v : AV) : aStore X h 120 p v = stS 1 h p v := st_type size_120 h p v
theorem al_120 [SpC] (id : Nat) : aAlloc X id 120 = some (.loc ⟨.ptr id 0, [], [(id, some (.cells [.nilfunc] false false))]⟩) := al_type zero_120 rfl rfl id
theorem ld_121 [SpC] (h : Heap) (p : AV) : aLoad X h 121 p = ld1 (cellsAt h p) := ld_leaf shape_121 h p
theorem st_121 [SpC] (h : Heap) (p v : AV) : aStore X h 121 p v = stS 1 h p v := st_type size_121 h p v
theorem al_121 [SpC] (id : Nat) : aAlloc X id 121 = some (.loc ⟨.ptr id 0, [], [(id, some (.cells [.nilfunc] false false))]⟩) := al_type zero_121 rfl rfl id
theorem ld_122 [SpC] (h : Heap) (p : AV) : aLoad X h 122 p = ld1 (cellsAt h p) := ld_leaf shape_122 h p
theorem st_122 [SpC] (h : Heap) (p v : AV) : aStore X h 122 p v = stS 1 h p v := st_type size_122 h p v
theorem al_122 [SpC] (id : Nat) : aAlloc X id 122 = some (.loc ⟨.ptr id 0, [], [(id, some (.cells [.nilfunc] false false))]⟩) := al_type zero_122 rfl rfl id
theorem ld_124 [SpC] (h : Heap) (p : AV) : aLoad X h 124 p = ld1 (cellsAt h p) := ld_leaf shape_124 h p
theorem st_124 [SpC] (h : Heap) (p v : AV) : aStore X h 124 p v = stS 1 h p v := st_type size_124 h p v
theorem al_124 [SpC] (id : Nat) : aAlloc X id 124 = some (.loc ⟨.ptr id 0, [], [(id, some (.cells [.nilfunc] false false))]⟩) := al_type zero_124 rfl rfl id
theorem ld_125 [SpC] (h : Heap) (p : AV) : aLoad X h 125 p = ld1 (cellsAt h p) := ld_leaf shape_125 h p
theorem st_125 [SpC] (h : Heap) (p v : AV) : aStore X h 125 p v = stS 1 h p v := st_type size_125 h p v
theorem al_125 [SpC] (id : Nat) : aAlloc X id 125 = some (.loc ⟨.ptr id 0, [], [(id, some (.cells [.nilfunc] false false))]⟩) := al_type zero_125 rfl rfl id
theorem ld_126 [SpC] (h : Heap) (p : AV) : aLoad X h 126 p = ld1 (cellsAt h p) := ld_leaf shape_126 h p
theorem st_126 [SpC] (h : Heap) (p v : AV) : aStore X h 126 p v = stS 1 h p v := st_type size_126 h p v
theorem al_126 [SpC] (id : Nat) : aAlloc X id 126 = some (.loc ⟨.ptr id 0, [], [(id, some (.cells [.nilfunc] false false))]⟩) := al_type zero_126 rfl rfl id
theorem ld_127 [SpC] (h : Heap) (p : AV) : aLoad X h 127 p = ld1 (cellsAt h p) := ld_leaf shape_127 h p
theorem st_127 [SpC] (h : Heap) (p v : AV) : aStore X h 127 p v = stS 1 h p v := st_type size_127 h p v
theorem al_127 [SpC] (id : Nat) : aAlloc X id 127 = some (.loc ⟨.ptr id 0, [], [(id, some (.cells [.nilfunc] false false))]⟩) := al_type zero_127 rfl rfl id
theorem ld_128 [SpC] (h : Heap) (p : AV) : aLoad X h 128 p = ld1 (cellsAt h p) := ld_leaf shape_128 h p
theorem st_128 [SpC] (h : Heap) (p v : AV) : aStore X h 128 p v = stS 1 h p v := st_type size_128 h p v
theorem al_128 [SpC] (id : Nat) : aAlloc X id 128 = some (.loc ⟨.ptr id 0, [], [(id, some (.cells [.nilfunc] false false))]⟩) := al_type zero_128 rfl rfl id
theorem ld_129 [SpC] (h : Heap) (p : AV) : aLoad X h 129 p = ld1 (cellsAt h p) := ld_leaf shape_129 h p
theorem st_129 [SpC] (h : Heap) (p v : AV) : aStore X h 129 p v = stS 1 h p v := st_type size_129 h p v
theorem al_129 [SpC] (id : Nat) : aAlloc X id 129 = some (.loc ⟨.ptr id 0, [], [(id, some (.cells [.nilfunc] false false))]⟩) := al_type zero_129 rfl rfl id
theorem ld_130 [SpC] (h : Heap) (p : AV) : aLoad X h 130 p = ld1 (cellsAt h p) := ld_leaf shape_130 h p
theorem st_130 [SpC] (h : Heap) (p v : AV) : aStore X h 130 p v = stS 1 h p v := st_type size_130 h p v
theorem al_130 [SpC] (id : Nat) : aAlloc X id 130 = some (.loc ⟨.ptr id 0, [], [(id, some (.cells [.nilfunc] false false))]⟩) := al_type zero_130 rfl rfl id
theorem ld_131 [SpC] (h : Heap) (p : AV) : aLoad X h 131 p = ld1 (cellsAt h p) := ld_leaf shape_131 h p
theorem st_131 [SpC] (h : Heap) (p v : AV) : aStore X h 131 p v = stS 1 h p v := st_type size_131 h p v
theorem al_131 [SpC] (id : Nat) : aAlloc X id 131 = some (.loc ⟨.ptr id 0, [], [(id, some (.cells [.nilfunc] false false))]⟩) := al_type zero_131 rfl rfl id
theorem ld_132 [SpC] (h : Heap) (p : AV) : aLoad X h 132 p = ld1 (cellsAt h p) := ld_leaf shape_132 h p
theorem st_132 [SpC] (h : Heap) (p v : AV) : aStore X h 132 p v = stS 1 h p v := st_type size_132 h p v
theorem al_132 [SpC] (id : Nat) : aAlloc X id 132 = some (.loc ⟨.ptr id 0, [], [(id, some (.cells [.int .u64 0] false false))]⟩) := al_type zero_132 rfl rfl id
theorem ld_133 [SpC] (h : Heap) (p : AV) : aLoad X h 133 p = ld1 (cellsAt h p) := ld_leaf shape_133 h p
theorem st_133 [SpC] (h : Heap) (p v : AV) : aStore X h 133 p v = stS 1 h p v := st_type size_133 h p v
theorem al_133 [SpC] (id : Nat) : aAlloc X id 133 = some (.loc ⟨.ptr id 0, [], [(id, some (.cells [.nilfunc] false false))]⟩) := al_type zero_133 rfl rfl id
theorem ld_134 [SpC] (h : Heap) (p : AV) : aLoad X h 134 p = ld1 (cellsAt h p) := ld_leaf shape_134 h p
theorem st_134 [SpC] (h : Heap) (p v : AV) : aStore X h 134 p v = stS 1 h p v := st_type size_134 h p v
theorem al_134 [SpC] (id : Nat) : aAlloc X id 134 = some (.loc ⟨.ptr id 0, [], [(id, some (.cells [.nilfunc] false false))]⟩) := al_type zero_134 rfl rfl id
theorem ld_136 [SpC] (h : Heap) (p : AV) : aLoad X h 136 p = ld1 (cellsAt h p) := ld_leaf shape_136 h p
theorem st_136 [SpC] (h : Heap) (p v : AV) : aStore X h 136 p v = stS 1 h p v := st_type size_136 h p v
theorem al_136 [SpC] (id : Nat) : aAlloc X id 136 = some (.loc ⟨.ptr id 0, [], [(id, some (.cells [.nilfunc] false false))]⟩) := al_type zero_136 rfl rfl id
theorem ld_138 [SpC] (h : Heap) (p : AV) : aLoad X h 138 p = ld1 (cellsAt h p) := ld_leaf shape_138 h p
theorem st_138 [SpC] (h : Heap) (p v : AV) : aStore X h 138 p v = stS 1 h p v := st_type size_138 h p v
theorem al_138 [SpC] (id : Nat) : aAlloc X id 138 = some (.loc ⟨.ptr id 0, [], [(id, some (.cells [.nilfunc] false false))]⟩) := al_type zero_138 rfl rfl id
theorem ld_139 [SpC] (h : Heap) (p : AV) : aLoad X h 139 p = ld1 (cellsAt h p) := ld_leaf shape_139 h p
theorem st_139 [SpC] (h : Heap) (p v : AV) : aStore X h 139 p v = stS 1 h p v := st_type size_139 h p v
theorem al_139 [SpC] (id : Nat) : aAlloc X id 139 = some (.loc ⟨.ptr id 0, [], [(id, some (.cells [.nilfunc] false false))]⟩) := al_type zero_139 rfl rfl id
theorem ld_140 [SpC] (h : Heap) (p : AV) : aLoad X h 140 p = ld1 (cellsAt h p) := ld_leaf shape_140 h p
theorem st_140 [SpC] (h : Heap) (p v : AV) : aStore X h 140 p v = stS 1 h p v := st_type size_140 h p v
theorem al_140 [SpC] (id : Nat) : aAlloc X id 140 = some (.loc ⟨.ptr id 0, [], [(id, some (.cells [.nilfunc] false false))]⟩) := al_type zero_140 rfl rfl id
theorem ld_141 [SpC] (h : Heap) (p : AV) : aLoad X h 141 p = ld1 (cellsAt h p) := ld_leaf shape_141 h p
theorem st_141 [SpC] (h : Heap) (p v : AV) : aStore X h 141 p v = stS 1 h p v := st_type size_141 h p v
theorem al_141 [SpC] (id : Nat) : aAlloc X id 141 = some (.loc ⟨.ptr id 0, [], [(id, some (.cells [.nilfunc] false false))]⟩) := al_type zero_141 rfl rfl id
theorem ld_142 [SpC] (h : Heap) (p : AV) : aLoad X h 142 p = ld1 (cellsAt h p) := ld_leaf shape_142 h p
theorem st_142 [SpC] (h : Heap) (p v : AV) : aStore X h 142 p v = stS 1 h p v := st_type size_142 h p v
theorem al_142 [SpC] (id : Nat) : aAlloc X id 142 = some (.loc ⟨.ptr id 0, [], [(id, some (.cells [.nilfunc] false false))]⟩) := al_type zero_142 rfl rfl id
theorem ld_143 [SpC] (h : Heap) (p : AV) : aLoad X h 143 p = ld1 (cellsAt h p) := ld_leaf shape_143 h p
theorem st_143 [SpC] (h : Heap) (p v : AV) : aStore X h 143 p v = stS 1 h p v := st_type size_143 h p v
theorem al_143 [SpC] (id : Nat) : aAlloc X id 143 = some (.loc ⟨.ptr id 0, [], [(id, some (.cells [.nilfunc] false false))]⟩) := al_type zero_143 rfl rfl id
theorem ld_144 [SpC] (h : Heap) (p : AV) : aLoad X h 144 p = ld1 (cellsAt h p) := ld_leaf shape_144 h p
theorem st_144 [SpC] (h : Heap) (p v : AV) : aStore X h 144 p v = stS 1 h p v := st_type size_144 h p v
theorem al_144 [SpC] (id : Nat) : aAlloc X id 144 = some (.loc ⟨.ptr id 0, [], [(id, some (.cells [.nilfunc] false false))]⟩) := al_type zero_144 rfl rfl id
theorem ld_145 [SpC] (h : Heap) (p : AV) : aLoad X h 145 p = ld1 (cellsAt h p) := ld_leaf shape_145 h p
theorem st_145 [SpC] (h : Heap) (p v : AV) : aStore X h 145 p v = stS 1 h p v := st_type size_145 h p v
theorem al_145 [SpC] (id : Nat) : aAlloc X id 145 = some (.loc ⟨.ptr id 0, [], [(id, some (.cells [.int .u64 0] false false))]⟩) := al_type zero_145 rfl rfl id
theorem ld_146 [SpC] (h : Heap) (p : AV) : aLoad X h 146 p = ld1 (cellsAt h p) := ld_leaf shape_146 h p
theorem st_146 [SpC] (h : Heap) (p v : AV) : aStore X h 146 p v = stS 1 h p v := st_type size_146 h p v
theorem al_146 [SpC] (id : Nat) : aAlloc X id 146 = some (.loc ⟨.ptr id 0, [], [(id, some (.cells [.nilfunc] false false))]⟩) := al_type zero_146 rfl rfl id
theorem ld_148 [SpC] (h : Heap) (p : AV) : aLoad X h 148 p = ld1 (cellsAt h p) := ld_leaf shape_148 h p
theorem st_148 [SpC] (h : Heap) (p v : AV) : aStore X h 148 p v = stS 1 h p v := st_type size_148 h p v
theorem al_148 [SpC] (id : Nat) : aAlloc X id 148 = some (.loc ⟨.ptr id 0, [], [(id, some (.cells [.nilfunc] false false))]⟩) := al_type zero_148 rfl rfl id
theorem ld_149 [SpC] (h : Heap) (p : AV) : aLoad X h 149 p = ld1 (cellsAt h p) := ld_leaf shape_149 h p
theorem st_149 [SpC] (h : Heap) (p v : AV) : aStore X h 149 p v = stS 1 h p v := st_type size_149 h p v
theorem al_149 [SpC] (id : Nat) : aAlloc X id 149 = some (.loc ⟨.ptr id 0, [], [(id, some (.cells [.nilfunc] false false))]⟩) := al_type zero_149 rfl rfl id
theorem ld_150 [SpC] (h : Heap) (p : AV) : aLoad X h 150 p = ld1 (cellsAt h p) := ld_leaf shape_150 h p
theorem st_150 [SpC] (h : Heap) (p v : AV) : aStore X h 150 p v = stS 1 h p v := st_type size_150 h p v
theorem al_150 [SpC] (id : Nat) : aAlloc X id 150 = some (.loc ⟨.ptr id 0, [], [(id, some (.cells [.nilfunc] false false))]⟩) := al_type zero_150 rfl rfl id
theorem ld_151 [SpC] (h : Heap) (p : AV) : aLoad X h 151 p = ld1 (cellsAt h p) := ld_leaf shape_151 h p
theorem st_151 [SpC] (h : Heap) (p v : AV) : aStore X h 151 p v = stS 1 h p v := st_type size_151 h p v
theorem al_151 [SpC] (id : Nat) : aAlloc X id 151 = some (.loc ⟨.ptr id 0, [], [(id, some (.cells [.int .i64 0] false false))]⟩) := al_type zero_151 rfl rfl id
theorem ld_153 [SpC] (h : Heap) (p : AV) : aLoad X h 153 p = ld1 (cellsAt h p) := ld_leaf shape_153 h p
theorem st_153 [SpC] (h : Heap) (p v : AV) : aStore X h 153 p v = stS 1 h p v := st_type size_153 h p v
theorem al_153 [SpC] (id : Nat) : aAlloc X id 153 = some (.loc ⟨.ptr id 0, [], [(id, some (.cells [.nilfunc] false false))]⟩) := al_type zero_153 rfl rfl id
theorem ld_154 [SpC] (h : Heap) (p : AV) : aLoad X h 154 p = ld1 (cellsAt h p) := ld_leaf shape_154 h p
theorem st_154 [SpC] (h : Heap) (p v : AV) : aStore X h 154 p v = stS 1 h p v := st_type size_154 h p v
theorem al_154 [SpC] (id : Nat) : aAlloc X id 154 = some (.loc ⟨.ptr id 0, [], [(id, some (.cells [.nilfunc] false false))]⟩) := al_type zero_154 rfl rfl id
theorem ld_155 [SpC] (h : Heap) (p : AV) : aLoad X h 155 p = ld1 (cellsAt h p) := ld_leaf shape_155 h p
theorem st_155 [SpC] (h : Heap) (p v : AV) : aStore X h 155 p v = stS 1 h p v := st_type size_155 h p v
theorem al_155 [SpC] (id : Nat) : aAlloc X id 155 = some (.loc ⟨.ptr id 0, [], [(id, some (.cells [.nilfunc] false false))]⟩) := al_type zero_155 rfl rfl id
theorem ld_156 [SpC] (h : Heap) (p : AV) : aLoad X h 156 p = ld1 (cellsAt h p) := ld_leaf shape_156 h p
theorem st_156 [SpC] (h : Heap) (p v : AV) : aStore X h 156 p v = stS 1 h p v := st_type size_156 h p v
theorem al_156 [SpC] (id : Nat) : aAlloc X id 156 = some (.loc ⟨.ptr id 0, [], [(id, some (.cells [.nilfunc] false false))]⟩) := al_type zero_156 rfl rfl id
theorem ld_157 [SpC] (h : Heap) (p : AV) : aLoad X h 157 p = ld1 (cellsAt h p) := ld_leaf shape_157 h p
theorem st_157 [SpC] (h : Heap) (p v : AV) : aStore X h 157 p v = stS 1 h p v := st_type size_157 h p v
theorem al_157 [SpC] (id : Nat) : aAlloc X id 157 = some (.loc ⟨.ptr id 0, [], [(id, some (.cells [.nilfunc] false false))]⟩) := al_type zero_157 rfl rfl id
theorem ld_158 [SpC] (h : Heap) (p : AV) : aLoad X h 158 p = ld1 (cellsAt h p) := ld_leaf shape_158 h p
theorem st_158 [SpC] (h : Heap) (p v : AV) : aStore X h 158 p v = stS 1 h p v := st_type size_158 h p v
theorem al_158 [SpC] (id : Nat) : aAlloc X id 158 = some (.loc ⟨.ptr id 0, [], [(id, some (.cells [.int .u32 0] false false))]⟩) := al_type zero_158 rfl rfl id
theorem ld_159 [SpC] (h : Heap) (p : AV) : aLoad X h 159 p = ld1 (cellsAt h p) := ld_leaf shape_159 h p
theorem st_159 [SpC] (h : Heap) (p v : AV) : aStore X h 159 p v = stS 1 h p v := st_type size_159 h p v
theorem al_159 [SpC] (id : Nat) : aAlloc X id 159 = some (.loc ⟨.ptr id 0, [], [(id, some (.cells [.nilfunc] false false))]⟩) := al_type zero_159 rfl rfl id
theorem ld_160 [SpC] (h : Heap) (p : AV) : aLoad X h 160 p = ld1 (cellsAt h p) := ld_leaf shape_160 h p
theorem st_160 [SpC] (h : Heap) (p v : AV) : aStore X h 160 p v = stS 1 h p v := st_type size_160 h p v
theorem al_160 [SpC] (id : Nat) : aAlloc X id 160 = some (.loc ⟨.ptr id 0, [], [(id, some (.cells [.nilfunc] false false))]⟩) := al_type zero_160 rfl rfl id
theorem ld_161 [SpC] (h : Heap) (p : AV) : aLoad X h 161 p = ld1 (cellsAt h p) := ld_leaf shape_161 h p
theorem st_161 [SpC] (h : Heap) (p v : AV) : aStore X h 161 p v = stS 1 h p v := st_type size_161 h p v
theorem al_161 [SpC] (id : Nat) : aAlloc X id 161 = some (.loc ⟨.ptr id 0, [], [(id, some (.cells [.nilfunc] false false))]⟩) := al_type zero_161 rfl rfl id
theorem ld_162 [SpC] (h : Heap) (p : AV) : aLoad X h 162 p = ld1 (cellsAt h p) := ld_leaf shape_162 h p
theorem st_162 [SpC] (h : Heap) (p v : AV) : aStore X h 162 p v = stS 1 h p v := st_type size_162 h p v
theorem al_162 [SpC] (id : Nat) : aAlloc X id 162 = some (.loc ⟨.ptr id 0, [], [(id, some (.cells [.nilfunc] false false))]⟩) := al_type zero_162 rfl rfl id
theorem ld_163 [SpC] (h : Heap) (p : AV) : aLoad X h 163 p = ld1 (cellsAt h p) := ld_leaf shape_163 h p
theorem st_163 [SpC] (h : Heap) (p v : AV) : aStore X h 163 p v = stS 1 h p v := st_type size_163 h p v
theorem al_163 [SpC] (id : Nat) : aAlloc X id 163 = some (.loc ⟨.ptr id 0, [], [(id, some (.cells [.nilfunc] false false))]⟩) := al_type zero_163 rfl rfl id
theorem ld_164 [SpC] (h : Heap) (p : AV) : aLoad X h 164 p = ld1 (cellsAt h p) := ld_leaf shape_164 h p
theorem st_164 [SpC] (h : Heap) (p v : AV) : aStore X h 164 p v = stS 1 h p v := st_type size_164 h p v
theorem al_164 [SpC] (id : Nat) : aAlloc X id 164 = some (.loc ⟨.ptr id 0, [], [(id, some (.cells [.nilfunc] false false))]⟩) := al_type zero_164 rfl rfl id
theorem ld_165 [SpC] (h : Heap) (p : AV) : aLoad X h 165 p = ld1 (cellsAt h p) := ld_leaf shape_165 h p
theorem st_165 [SpC] (h : Heap) (p v : AV) : aStore X h 165 p v = stS 1 h p v := st_type size_165 h p v
theorem al_165 [SpC] (id : Nat) : aAlloc X id 165 = some (.loc ⟨.ptr id 0, [], [(id, some (.cells [.nilfunc] false false))]⟩) := al_type zero_165 rfl rfl id
theorem ld_166 [SpC] (h : Heap) (p : AV) : aLoad X h 166 p = ld1 (cellsAt h p) := ld_leaf shape_166 h p
theorem st_166 [SpC] (h : Heap) (p v : AV) : aStore X h 166 p v = stS 1 h p v := st_type size_166 h p v
theorem al_166 [SpC] (id : Nat) : aAlloc X id 166 = some (.loc ⟨.ptr id 0, [], [(id, some (.cells [.nilfunc] false false))]⟩) := al_type zero_166 rfl rfl id
theorem ld_167 [SpC] (h : Heap) (p : AV) : aLoad X h 167 p = ld1 (cellsAt h p) := ld_leaf shape_167 h p
theorem st_167 [SpC] (h : Heap) (p v : AV) : aStore X h 167 p v = stS 1 h p v := st_type size_167 h p v
theorem al_167 [SpC] (id : Nat) : aAlloc X id 167 = some (.loc ⟨.ptr id 0, [], [(id, some (.cells [.nilfunc] false false))]⟩) := al_type zero_167 rfl rfl id
theorem ld_168 [SpC] (h : Heap) (p : AV) : aLoad X h 168 p = ld1 (cellsAt h p) := ld_leaf shape_168 h p
theorem st_168 [SpC] (h : Heap) (p v : AV) : aStore X h 168 p v = stS 1 h p v := st_type size_168 h p v
theorem al_168 [SpC] (id : Nat) : aAlloc X id 168 = some (.loc ⟨.ptr id 0, [], [(id, some (.cells [.int .u64 0] false false))]⟩) := al_type zero_168 rfl rfl id
theorem ld_169 [SpC] (h : Heap) (p : AV) : aLoad X h 169 p = ld1 (cellsAt h p) := ld_leaf shape_169 h p
theorem st_169 [SpC] (h : Heap) (p v : AV) : aStore X h 169 p v = stS 1 h p v := st_type size_169 h p v
theorem al_169 [SpC] (id : Nat) : aAlloc X id 169 = some (.loc ⟨.ptr id 0, [], [(id, some (.cells [.nilfunc] false false))]⟩) := al_type zero_169 rfl rfl id
theorem ld_170 [SpC] (h : Heap) (p : AV) : aLoad X h 170 p = ld1 (cellsAt h p) := ld_leaf shape_170 h p
theorem st_170 [SpC] (h : Heap) (p v : AV) : aStore X h 170 p v = stS 1 h p v := st_type size_170 h p v
theorem al_170 [SpC] (id : Nat) : aAlloc X id 170 = some (.loc ⟨.ptr id 0, [], [(id, some (.cells [.nilfunc] false false))]⟩) := al_type zero_170 rfl rfl id
theorem ld_171 [SpC] (h : Heap) (p : AV) : aLoad X h 171 p = ld1 (cellsAt h p) := ld_leaf shape_171 h p
theorem st_171 [SpC] (h : Heap) (p v : AV) : aStore X h 171 p v = stS 1 h p v := st_type size_171 h p v
theorem al_171 [SpC] (id : Nat) : aAlloc X id 171 = some (.loc ⟨.ptr id 0, [], [(id, some (.cells [.nilfunc] false false))]⟩) := al_type zero_171 rfl rfl id
theorem ld_172 [SpC] (h : Heap) (p : AV) : aLoad X h 172 p = ld1 (cellsAt h p) := ld_leaf shape_172 h p
theorem st_172 [SpC] (h : Heap) (p v : AV) : aStore X h 172 p v = stS 1 h p v := st_type size_172 h p v
theorem al_172 [SpC] (id : Nat) : aAlloc X id 172 = some (.loc ⟨.ptr id 0, [], [(id, some (.cells [.nilptr] false false))]⟩) := al_type zero_172 rfl rfl id
theorem ld_173 [SpC] (h : Heap) (p : AV) : aLoad X h 173 p = ld1 (cellsAt h p) := ld_leaf shape_173 h p
theorem st_173 [SpC] (h : Heap) (p v : AV) : aStore X h 173 p v = stS 1 h p v := st_type size_173 h p v
theorem al_173 [SpC] (id : Nat) : aAlloc X id 173 = some (.loc ⟨.ptr id 0, [], [(id, some (.cells [.nilfunc] false false))]⟩) := al_type zero_173 rfl rfl id
theorem ld_174 [SpC] (h : Heap) (p : AV) : aLoad X h 174 p = ld1 (cellsAt h p) := ld_leaf shape_174 h p
theorem st_174 [SpC] (h : Heap) (p v : AV) : aStore X h 174 p v = stS 1 h p v := st_type size_174 h p v
theorem al_174 [SpC] (id : Nat) : aAlloc X id 174 = some (.loc ⟨.ptr id 0, [], [(id, some (.cells [.nilfunc] false false))]⟩) := al_type zero_174 rfl rfl id
theorem ld_175 [SpC] (h : Heap) (p : AV) : aLoad X h 175 p = ld1 (cellsAt h p) := ld_leaf shape_175 h p
theorem st_175 [SpC] (h : Heap) (p v : AV) : aStore X h 175 p v = stS 1 h p v := st_type size_175 h p v
theorem al_175 [SpC] (id : Nat) : aAlloc X id 175 = some (.loc ⟨.ptr id 0, [], [(id, some (.cells [.nilfunc] false false))]⟩) := al_type zero_175 rfl rfl id
theorem ld_177 [SpC] (h : Heap) (p : AV) : aLoad X h 177 p = ld1 (cellsAt h p) := ld_leaf shape_177 h p
theorem st_177 [SpC] (h : Heap) (p v : AV) : aStore X h 177 p v = stS 1 h p v := st_type size_177 h p v
theorem al_177 [SpC] (id : Nat) : aAlloc X id 177 = some (.loc ⟨.ptr id 0, [], [(id, some (.cells [.nilfunc] false false))]⟩) := al_type zero_177 rfl rfl id
theorem ld_178 [SpC] (h : Heap) (p : AV) : aLoad X h 178 p = ld1 (cellsAt h p) := ld_leaf shape_178 h p
theorem st_178 [SpC] (h : Heap) (p v : AV) : aStore X h 178 p v = stS 1 h p v := st_type size_178 h p v
theorem al_178 [SpC] (id : Nat) : aAlloc X id 178 = some (.loc ⟨.ptr id 0, [], [(id, some (.cells [.nilptr] false false))]⟩) := al_type zero_178 rfl rfl id
theorem ld_180 [SpC] (h : Heap) (p : AV) : aLoad X h 180 p = ld1 (cellsAt h p) := ld_leaf shape_180 h p
theorem st_180 [SpC] (h : Heap) (p v : AV) : aStore X h 180 p v = stS 1 h p v := st_type size_180 h p v
theorem al_180 [SpC] (id : Nat) : aAlloc X id 180 = some (.loc ⟨.ptr id 0, [], [(id, some (.cells [.nilfunc] false false))]⟩) := al_type zero_180 rfl rfl id
theorem ld_181 [SpC] (h : Heap) (p : AV) : aLoad X h 181 p = ld1 (cellsAt h p) := ld_leaf shape_181 h p
theorem st_181 [SpC] (h : Heap) (p v : AV) : aStore X h 181 p v = stS 1 h p v := st_type size_181 h p v
theorem al_181 [SpC] (id : Nat) : aAlloc X id 181 = some (.loc ⟨.ptr id 0, [], [(id, some (.cells [.nilfunc] false false))]⟩) := al_type zero_181 rfl rfl id
theorem ld_182 [SpC] (h : Heap) (p : AV) : aLoad X h 182 p = ld1 (cellsAt h p) := ld_leaf shape_182 h p
theorem st_182 [SpC] (h : Heap) (p v : AV) : aStore X h 182 p v = stS 1 h p v := st_type size_182 h p v
theorem al_182 [SpC] (id : Nat) : aAlloc X id 182 = some (.loc ⟨.ptr id 0, [], [(id, some (.cells [.nilfunc] false false))]⟩) := al_type zero_182 rfl rfl id
theorem ld_188 [SpC] (h : Heap) (p : AV) : aLoad X h 188 p = ld1 (cellsAt h p) := ld_leaf shape_188 h p
theorem st_188 [SpC] (h : Heap) (p v : AV) : aStore X h 188 p v = stS 1 h p v := st_type size_188 h p v
theorem al_188 [SpC] (id : Nat) : aAlloc X id 188 = some (.loc ⟨.ptr id 0, [], [(id, some (.cells [.nilfunc] false false))]⟩) := al_type zero_188 rfl rfl id
theorem ld_191 [SpC] (h : Heap) (p : AV) : aLoad X h 191 p = ld1 (cellsAt h p) := ld_leaf shape_191 h p
theorem st_191 [SpC] (h : Heap) (p v : AV) : aStore X h 191 p v = stS 1 h p v := st_type size_191 h p v
theorem al_191 [SpC] (id : Nat) : aAlloc X id 191 = some (.loc ⟨.ptr id 0, [], [(id, some (.cells [.nilfunc] false false))]⟩) := al_type zero_191 rfl rfl id
theorem ld_192 [SpC] (h : Heap) (p : AV) : aLoad X h 192 p = ld1 (cellsAt h p) := ld_leaf shape_192 h p
theorem st_192 [SpC] (h : Heap) (p v : AV) : aStore X h 192 p v = stS 1 h p v := st_type size_192 h p v
theorem al_192 [SpC] (id : Nat) : aAlloc X id 192 = some (.loc ⟨.ptr id 0, [], [(id, some (.cells [.nilptr] false false))]⟩) := al_type zero_192 rfl rfl id
theorem cv_2_3 [SpC] (k : IntKind) (n : Int) : convertA X 2 3 (.int k n) = some (.int .i64 (IntKind.wrap .i64 n)) := conv_int X und_2 und_3 k n
theorem cv_2_5 [SpC] (k : IntKind) (n : Int) : convertA X 2 5 (.int k n) = some (.int .u8 (IntKind.wrap .u8 n)) := conv_int X und_2 und_5 k n
theorem cv_2_12 [SpC] (k : IntKind) (n : Int) : convertA X 2 12 (.int k n) = some (.int .u64 (IntKind.wrap .u64 n)) := conv_int X und_2 und_12 k n
theorem cv_2_21 [SpC] (k : IntKind) (n : Int) : convertA X 2 21 (.int k n) = some (.int .i32 (IntKind.wrap .i32 n)) := conv_int X und_2 und_21 k n
theorem cv_2_132 [SpC] (k : IntKind) (n : Int) : convertA X 2 132 (.int k n) = some (.int .u64 (IntKind.wrap .u64 n)) := conv_int X und_2 und_132 k n
theorem cv_2_145 [SpC] (k : IntKind) (n : Int) : convertA X 2 145 (.int k n) = some (.int .u64 (IntKind.wrap .u64 n)) := conv_int X und_2 und_145 k n
theorem cv_2_151 [SpC] (k : IntKind) (n : Int) : convertA X 2 151 (.int k n) = some (.int .i64 (IntKind.wrap .i64 n)) := conv_int X und_2 und_151 k n
theorem cv_2_158 [SpC] (k : IntKind) (n : Int) : convertA X 2 158 (.int k n) = some (.int .u32 (IntKind.wrap .u32 n)) := conv_int X und_2 und_158 k n
theorem cv_2_168 [SpC] (k : IntKind) (n : Int) : convertA X 2 168 (.int k n) = some (.int .u64 (IntKind.wrap .u64 n)) := conv_int X und_2 und_168 k n
theorem cv_3_2 [SpC] (k : IntKind) (n : Int) : convertA X 3 2 (.int k n) = some (.int .i64 (IntKind.wrap .i64 n)) := conv_int X und_3 und_2 k n
theorem cv_3_5 [SpC] (k : IntKind) (n : Int) : convertA X 3 5 (.int k n) = some (.int .u8 (IntKind.wrap .u8 n)) := conv_int X und_3 und_5 k n
theorem cv_3_12 [SpC] (k : IntKind) (n : Int) : convertA X 3 12 (.int k n) = some (.int .u64 (IntKind.wrap .u64 n)) := conv_int X und_3 und_12 k n
theorem cv_3_21 [SpC] (k : IntKind) (n : Int) : convertA X 3 21 (.int k n) = some (.int .i32 (IntKind.wrap .i32 n)) := conv_int X und_3 und_21 k n
theorem cv_3_132 [SpC] (k : IntKind) (n : Int) : convertA X 3 132 (.int k n) = some (.int .u64 (IntKind.wrap .u64 n)) := conv_int X und_3 und_132 k n
theorem cv_3_145 [SpC] (k : IntKind) (n : Int) : convertA X 3 145 (.int k n) = some (.int .u64 (IntKind.wrap .u64 n)) := conv_int X und_3 und_145 k n
theorem cv_3_151 [SpC] (k : IntKind) (n : Int) : convertA X 3 151 (.int k n) = some (.int .i64 (IntKind.wrap .i64 n)) := conv_int X und_3 und_151 k n
theorem cv_3_158 [SpC] (k : IntKind) (n : Int) : convertA X 3 158 (.int k n) = some (.int .u32 (IntKind.wrap .u32 n)) := conv_int X und_3 und_158 k n
theorem cv_3_168 [SpC] (k : IntKind) (n : Int) : convertA X 3 168 (.int k n) = some (.int .u64 (IntKind.wrap .u64 n)) := conv_int X und_3 und_168 k n
theorem cv_5_2 [SpC] (k : IntKind) (n : Int) : convertA X 5 2 (.int k n) = some (.int .i64 (IntKind.wrap .i64 n)) := conv_int X und_5 und_2 k n
theorem cv_5_3 [SpC] (k : IntKind) (n : Int) : convertA X 5 3 (.int k n) = some (.int .i64 (IntKind.wrap .i64 n)) := conv_int X und_5 und_3 k n
theorem cv_5_12 [SpC] (k : IntKind) (n : Int) : convertA X 5 12 (.int k n) = some (.int .u64 (IntKind.wrap .u64 n)) := conv_int X und_5 und_12 k n
theorem cv_5_21 [SpC] (k : IntKind) (n : Int) : convertA X 5 21 (.int k n) = some (.int .i32 (IntKind.wrap .i32 n)) := conv_int X und_5 und_21 k n
theorem cv_5_132 [SpC] (k : IntKind) (n : Int) : convertA X 5 132 (.int k n) = some (.int .u64 (IntKind.wrap .u64 n)) := conv_int X und_5 und_132 k n
theorem cv_5_145 [SpC] (k : IntKind) (n : Int) : convertA X 5 145 (.int k n) = some (.int .u64 (IntKind.wrap .u64 n)) := conv_int X und_5 und_145 k n
theorem cv_5_151 [SpC] (k : IntKind) (n : Int) : convertA X 5 151 (.int k n) = some (.int .i64 (IntKind.wrap .i64 n)) := conv_int X und_5 und_151 k n
theorem cv_5_158 [SpC] (k : IntKind) (n : Int) : convertA X 5 158 (.int k n) = some (.int .u32 (IntKind.wrap .u32 n)) := conv_int X und_5 und_158 k n
theorem cv_5_168 [SpC] (k : IntKind) (n : Int) : convertA X 5 168 (.int k n) = some (.int .u64 (IntKind.wrap .u64 n)) := conv_int X und_5 und_168 k n
theorem cv_12_2 [SpC] (k : IntKind) (n : Int) : convertA X 12 2 (.int k n) = some (.int .i64 (IntKind.wrap .i64 n)) := conv_int X und_12 und_2 k n
theorem cv_12_3 [SpC] (k : IntKind) (n : Int) : convertA X 12 3 (.int k n) = some (.int .i64 (IntKind.wrap .i64 n)) := conv_int X und_12 und_3 k n
theorem cv_12_5 [SpC] (k : IntKind) (n : Int) : convertA X 12 5 (.int k n) = some (.int .u8 (IntKind.wrap .u8 n)) := conv_int X und_12 und_5 k n
theorem cv_12_21 [SpC] (k : IntKind) (n : Int) : convertA X 12 21 (.int k n) = some (.int .i32 (IntKind.wrap .i32 n)) := conv_int X und_12 und_21 k n
theorem cv_12_132 [SpC] (k : IntKind) (n : Int) : convertA X 12 132 (.int k n) = some (.int .u64 (IntKind.wrap .u64 n)) := conv_int X und_12 und_132 k n
theorem cv_12_145 [SpC] (k : IntKind) (n : Int) : convertA X 12 145 (.int k n) = some (.int .u64 (IntKind.wrap .u64 n)) := conv_int X und_12 und_145 k n
theorem cv_12_151 [SpC] (k : IntKind) (n : Int) : convertA X 12 151 (.int k n) = some (.int .i64 (IntKind.wrap .i64 n)) := conv_int X und_12 und_151 k n
theorem cv_12_158 [SpC] (k : IntKind) (n : Int) : convertA X 12 158 (.int k n) = some (.int .u32 (IntKind.wrap .u32 n)) := conv_int X und_12 und_158 k n
theorem cv_12_168 [SpC] (k : IntKind) (n : Int) : convertA X 12 168 (.int k n) = some (.int .u64 (IntKind.wrap .u64 n)) := conv_int X und_12 und_168 k n
theorem cv_21_2 [SpC] (k : IntKind) (n : Int) : convertA X 21 2 (.int k n) = some (.int .i64 (IntKind.wrap .i64 n)) := conv_int X und_21 und_2 k n
theorem cv_21_3 [SpC] (k : IntKind) (n : Int) : convertA X 21 3 (.int k n) = some (.int .i64 (IntKind.wrap .i64 n)) := conv_int X und_21 und_3 k n
theorem cv_21_5 [SpC] (k : IntKind) (n : Int) : convertA X 21 5 (.int k n) = some (.int .u8 (IntKind.wrap .u8 n)) := conv_int X und_21 und_5 k n
theorem cv_21_12 [SpC] (k : IntKind) (n : Int) : convertA X 21 12 (.int k n) = some (.int .u64 (IntKind.wrap .u64 n)) := conv_int X und_21 und_12 k n
theorem cv_21_132 [SpC] (k : IntKind) (n : Int) : convertA X 21 132 (.int k n) = some (.int .u64 (IntKind.wrap .u64 n)) := conv_int X und_21 und_132 k n
theorem cv_21_145 [SpC] (k : IntKind) (n : Int) : convertA X 21 145 (.int k n) = some (.int .u64 (IntKind.wrap .u64 n)) := conv_int X und_21 und_145 k n
theorem cv_21_151 [SpC] (k : IntKind) (n : Int) : convertA X 21 151 (.int k n) = some (.int .i64 (IntKind.wrap .i64 n)) := conv_int X und_21 und_151 k n
theorem cv_21_158 [SpC] (k : IntKind) (n : Int) : convertA X 21 158 (.int k n) = some (.int .u32 (IntKind.wrap .u32 n)) := conv_int X und_21 und_158 k n
theorem cv_21_168 [SpC] (k : IntKind) (n : Int) : convertA X 21 168 (.int k n) = some (.int .u64 (IntKind.wrap .u64 n)) := conv_int X und_21 und_168 k n
theorem cv_132_2 [SpC] (k : IntKind) (n : Int) : convertA X 132 2 (.int k n) = some (.int .i64 (IntKind.wrap .i64 n)) := conv_int X und_132 und_2 k n
theorem cv_132_3 [SpC] (k : IntKind) (n : Int) : convertA X 132 3 (.int k n) = some (.int .i64 (IntKind.wrap .i64 n)) := conv_int X und_132 und_3 k n
theorem cv_132_5 [SpC] (k : IntKind) (n : Int) : convertA X 132 5 (.int k n) = some (.int .u8 (IntKind.wrap .u8 n)) := conv_int X und_132 und_5 k n
theorem cv_132_12 [SpC] (k : IntKind) (n : Int) : convertA X 132 12 (.int k n) = some (.int .u64 (IntKind.wrap .u64 n)) := conv_int X und_132 und_12 k n
theorem cv_132_21 [SpC] (k : IntKind) (n : Int) : convertA X 132 21 (.int k n) = some (.int .i32 (IntKind.wrap .i32 n)) := conv_int X und_132 und_21 k n
theorem cv_132_145 [SpC] (k : IntKind) (n : Int) : convertA X 132 145 (.int k n) = some (.int .u64 (IntKind.wrap .u64 n)) := conv_int X und_132 und_145 k n
theorem cv_132_151 [SpC] (k : IntKind) (n : Int) : convertA X 132 151 (.int k n) = some (.int .i64 (IntKind.wrap .i64 n)) := conv_int X und_132 und_151 k n
theorem cv_132_158 [SpC] (k : IntKind) (n : Int) : convertA X 132 158 (.int k n) = some (.int .u32 (IntKind.wrap .u32 n)) := conv_int X und_132 und_158 k n
theorem cv_132_168 [SpC] (k : IntKind) (n : Int) : convertA X 132 168 (.int k n) = some (.int .u64 (IntKind.wrap .u64 n)) := conv_int X und_132 und_168 k n
theorem cv_145_2 [SpC] (k : IntKind) (n : Int) : convertA X 145 2 (.int k n) = some (.int .i64 (IntKind.wrap .i64 n)) := conv_int X und_145 und_2 k n
theorem cv_145_3 [SpC] (k : IntKind) (n : Int) : convertA X 145 3 (.int k n) = some (.int .i64 (IntKind.wrap .i64 n)) := conv_int X und_145 und_3 k n
theorem cv_145_5 [SpC] (k : IntKind) (n : Int) : convertA X 145 5 (.int k n) = some (.int .u8 (IntKind.wrap .u8 n)) := conv_int X und_145 und_5 k n
theorem cv_145_12 [SpC] (k : IntKind) (n : Int) : convertA X 145 12 (.int k n) = some (.int .u64 (IntKind.wrap .u64 n)) := conv_int X und_145 und_12 k n
theorem cv_145_21 [SpC] (k : IntKind) (n : Int) : convertA X 145 21 (.int k n) = some (.int .i32 (IntKind.wrap .i32 n)) := conv_int X und_145 und_21 k n
theorem cv_145_132 [SpC] (k : IntKind) (n : Int) : convertA X 145 132 (.int k n) = some (.int .u64 (IntKind.wrap .u64 n)) := conv_int X und_145 und_132 k n
theorem cv_145_151 [SpC] (k : IntKind) (n : Int) : convertA X 145 151 (.int k n) = some (.int .i64 (IntKind.wrap .i64 n)) := conv_int X und_145 und_151 k n
theorem cv_145_158 [SpC] (k : IntKind) (n : Int) : convertA X 145 158 (.int k n) = some (.int .u32 (IntKind.wrap .u32 n)) := conv_int X und_145 und_158 k n
theorem cv_145_168 [SpC] (k : IntKind) (n : Int) : convertA X 145 168 (.int k n) = some (.int .u64 (IntKind.wrap .u64 n)) := conv_int X und_145 und_168 k n
theorem cv_151_2 [SpC] (k : IntKind) (n : Int) : convertA X 151 2 (.int k n) = some (.int .i64 (IntKind.wrap .i64 n)) := conv_int X und_151 und_2 k n
theorem cv_151_3 [SpC] (k : IntKind) (n : Int) : convertA X 151 3 (.int k n) = some (.int .i64 (IntKind.wrap .i64 n)) := conv_int X und_151 und_3 k n
theorem cv_151_5 [SpC] (k : IntKind) (n : Int) : convertA X 151 5 (.int k n) = some (.int .u8 (IntKind.wrap .u8 n)) := conv_int X und_151 und_5 k n
theorem cv_151_12 [SpC] (k : IntKind) (n : Int) : convertA X 151 12 (.int k n) = some (.int .u64 (IntKind.wrap .u64 n)) := conv_int X und_151 und_12 k n
theorem cv_151_21 [SpC] (k : IntKind) (n : Int) : convertA X 151 21 (.int k n) = some (.int .i32 (IntKind.wrap .i32 n)) := conv_int X und_151 und_21 k n
theorem cv_151_132 [SpC] (k : IntKind) (n : Int) : convertA X 151 132 (.int k n) = some (.int .u64 (IntKind.wrap .u64 n)) := conv_int X und_151 und_132 k n
theorem cv_151_145 [SpC] (k : IntKind) (n : Int) : convertA X 151 145 (.int k n) = some (.int .u64 (IntKind.wrap .u64 n)) := conv_int X und_151 und_145 k n
theorem cv_151_158 [SpC] (k : IntKind) (n : Int) : convertA X 151 158 (.int k n) = some (.int .u32 (IntKind.wrap .u32 n)) := conv_int X und_151 und_158 k n
theorem cv_151_168 [SpC] (k : IntKind) (n : Int) : convertA X 151 168 (.int k n) = some (.int .u64 (IntKind.wrap .u64 n)) := conv_int X und_151 und_168 k n
theorem cv_158_2 [SpC] (k : IntKind) (n : Int) : convertA X 158 2 (.int k n) = some (.int .i64 (IntKind.wrap .i64 n)) := conv_int X und_158 und_2 k n
theorem cv_158_3 [SpC] (k : IntKind) (n : Int) : convertA X 158 3 (.int k n) = some (.int .i64 (IntKind.wrap .i64 n)) := conv_int X und_158 und_3 k n
theorem cv_158_5 [SpC] (k : IntKind) (n : Int) : convertA X 158 5 (.int k n) = some (.int .u8 (IntKind.wrap .u8 n)) := conv_int X und_158 und_5 k n
theorem cv_158_12 [SpC] (k : IntKind) (n : Int) : convertA X 158 12 (.int k n) = some (.int .u64 (IntKind.wrap .u64 n)) := conv_int X und_158 und_12 k n
theorem cv_158_21 [SpC] (k : IntKind) (n : Int) : convertA X 158 21 (.int k n) = some (.int .i32 (IntKind.wrap .i32 n)) := conv_int X und_158 und_21 k n
theorem cv_158_132 [SpC] (k : IntKind) (n : Int) : convertA X 158 132 (.int k n) = some (.int .u64 (IntKind.wrap .u64 n)) := conv_int X und_158 und_132 k n
theorem cv_158_145 [SpC] (k : IntKind) (n : Int) : convertA X 158 145 (.int k n) = some (.int .u64 (IntKind.wrap .u64 n)) := conv_int X und_158 und_145 k n
theorem cv_158_151 [SpC] (k : IntKind) (n : Int) : convertA X 158 151 (.int k n) = some (.int .i64 (IntKind.wrap .i64 n)) := conv_int X und_158 und_151 k n
theorem cv_158_168 [SpC] (k : IntKind) (n : Int) : convertA X 158 168 (.int k n) = some (.int .u64 (IntKind.wrap .u64 n)) := conv_int X und_158 und_168 k n
theorem cv_168_2 [SpC] (k : IntKind) (n : Int) : convertA X 168 2 (.int k n) = some (.int .i64 (IntKind.wrap .i64 n)) := conv_int X und_168 und_2 k n
theorem cv_168_3 [SpC] (k : IntKind) (n : Int) : convertA X 168 3 (.int k n) = some (.int .i64 (IntKind.wrap .i64 n)) := conv_int X und_168 und_3 k n
theorem cv_168_5 [SpC] (k : IntKind) (n : Int) : convertA X 168 5 (.int k n) = some (.int .u8 (IntKind.wrap .u8 n)) := conv_int X und_168 und_5 k n
theorem cv_168_12 [SpC] (k : IntKind) (n : Int) : convertA X 168 12 (.int k n) = some (.int .u64 (IntKind.wrap .u64 n)) := conv_int X und_168 und_12 k n
theorem cv_168_21 [SpC] (k : IntKind) (n : Int) : convertA X 168 21 (.int k n) = some (.int .i32 (IntKind.wrap .i32 n)) := conv_int X und_168 und_21 k n
theorem cv_168_132 [SpC] (k : IntKind) (n : Int) : convertA X 168 132 (.int k n) = some (.int .u64 (IntKind.wrap .u64 n)) := conv_int X und_168 und_132 k n
theorem cv_168_145 [SpC] (k : IntKind) (n : Int) : convertA X 168 145 (.int k n) = some (.int .u64 (IntKind.wrap .u64 n)) := conv_int X und_168 und_145 k n
theorem cv_168_151 [SpC] (k : IntKind) (n : Int) : convertA X 168 151 (.int k n) = some (.int .i64 (IntKind.wrap .i64 n)) := conv_int X und_168 und_151 k n
theorem cv_168_158 [SpC] (k : IntKind) (n : Int) : convertA X 168 158 (.int k n) = some (.int .u32 (IntKind.wrap .u32 n)) := conv_int X und_168 und_158 k n
theorem be_4 [SpC] (a b : Bool) : binA X .eql 4 (.bool a) (.bool b) = some (.bool (a == b)) := bin_beql X und_4 a b
theorem bn_4 [SpC] (a b : Bool) : binA X .neq 4 (.bool a) (.bool b) = some (.bool (!(a == b))) := bin_bneq X und_4 a b
theorem i3_104 [SpC] : ints3 X.P 104 .i64 = true := by kernel_rfl
theorem be_104 [SpC] (a b c a' b' c' : Int) : binA X .eql 104 (.agg [.int .i64 a, .int .i64 b, .int .i64 c]) (.agg [.int .i64 a', .int .i64 b', .int .i64 c']) = some (.bool ((decide (a = a') && (decide (b = b') && decide (c = c'))))) := bin_eq3 X i3_104 a b c a' b' c'
theorem bn_104 [SpC] (a b c a' b' c' : Int) : binA X .neq 104 (.agg [.int .i64 a, .int .i64 b, .int .i64 c]) (.agg [.int .i64 a', .int .i64 b', .int .i64 c']) = some (.bool (!(decide (a = a') && (decide (b = b') && decide (c = c'))))) := bin_ne3 X i3_104 a b c a' b' c'
theorem i3_105 [SpC] : ints3 X.P 105 .i64 = true := by kernel_rfl
theorem be_105 [SpC] (a b c a' b' c' : Int) : binA X .eql 105 (.agg [.int .i64 a, .int .i64 b, .int .i64 c]) (.agg [.int .i64 a', .int .i64 b', .int .i64 c']) = some (.bool ((decide (a = a') && (decide (b = b') && decide (c = c'))))) := bin_eq3 X i3_105 a b c a' b' c'
theorem bn_105 [SpC] (a b c a' b' c' : Int) : binA X .neq 105 (.agg [.int .i64 a, .int .i64 b, .int .i64 c]) (.agg [.int .i64 a', .int .i64 b', .int .i64 c']) = some (.bool (!(decide (a = a') && (decide (b = b') && decide (c = c'))))) := bin_ne3 X i3_105 a b c a' b' c'
theorem ok_3 : funcOk Tryz.f3 = true := by kernel_rfl
theorem res_3 : Tryz.f3.results.toList = [.tmp 6] := rfl
theorem mode_3 [SpC] : X.mode 3 = .ro := nr rfl
theorem ok_4 : funcOk Tryz.f4 = true := by kernel_rfl
theorem res_4 : Tryz.f4.results.toList = [.tmp 2] := rfl
theorem mode_4 [SpC] : X.mode 4 = .ro := nr rfl
theorem ok_5 : funcOk Tryz.f5 = true := by kernel_rfl
theorem res_5 : Tryz.f5.results.toList = [.tmp 8] := rfl
theorem mode_5 [SpC] : X.mode 5 = .ro := nr rfl
theorem ok_6 : funcOk Tryz.f6 = true := by kernel_rfl
theorem res_6 : Tryz.f6.results.toList = [.tmp 4] := rfl
theorem mode_6 [SpC] : X.mode 6 = .ro := nr rfl
theorem ok_7 : funcOk Tryz.f7 = true := by kernel_rfl
theorem res_7 : Tryz.f7.results.toList = [.tmp 4] := rfl
theorem mode_7 [SpC] : X.mode 7 = .ro := nr rfl
theorem ok_8 : funcOk Tryz.f8 = true := by kernel_rfl
theorem res_8 : Tryz.f8.results.toList = [.tmp 4] := rfl
theorem mode_8 [SpC] : X.mode 8 = .ro := nr rfl
theorem ok_9 : funcOk Tryz.f9 = true := by kernel_rfl
theorem res_9 : Tryz.f9.results.toList = [.tmp 10] := rfl
theorem mode_9 [SpC] : X.mode 9 = .ro := nr rfl
theorem ok_10 : funcOk Tryz.f10 = true := by kernel_rfl
theorem res_10 : Tryz.f10.results.toList = [.tmp 4] := rfl
theorem mode_10 [SpC] : X.mode 10 = .ro := nr rfl
theorem ok_11 : funcOk Tryz.f11 = true := by kernel_rfl
theorem res_11 : Tryz.f11.results.toList = [.cell 4 30] := rfl
theorem mode_11 [SpC] : X.mode 11 = .ro := nr rfl
theorem ok_12 : funcOk Tryz.f12 = true := by kernel_rfl
theorem res_12 : Tryz.f12.results.toList = [.tmp 4] := rfl
theorem mode_12 [SpC] : X.mode 12 = .ro := nr rfl
theorem ok_13 : funcOk Tryz.f13 = true := by kernel_rfl
theorem res_13 : Tryz.f13.results.toList = [.tmp 4] := rfl
theorem mode_13 [SpC] : X.mode 13 = .ro := nr rfl
theorem ok_14 : funcOk Tryz.f14 = true := by kernel_rfl
theorem res_14 : Tryz.f14.results.toList = [.cell 2 35] := rfl
theorem mode_14 [SpC] : X.mode 14 = .ro := nr rfl
theorem ok_15 : funcOk Tryz.f15 = true := by kernel_rfl
theorem res_15 : Tryz.f15.results.toList = [.cell 10 37] := rfl
theorem mode_15 [SpC] : X.mode 15 = .ro := nr rfl
theorem ok_16 : funcOk Tryz.f16 = true := by kernel_rfl
theorem res_16 : Tryz.f16.results.toList = [.cell 10 35] := rfl
theorem mode_16 [SpC] : X.mode 16 = .ro := nr rfl
theorem ok_17 : funcOk Tryz.f17 = true := by kernel_rfl
theorem res_17 : Tryz.f17.results.toList = [.tmp 0] := rfl
theorem mode_17 [SpC] : X.mode 17 = .ro := nr rfl
theorem ok_18 : funcOk Tryz.f18 = true := by kernel_rfl
theorem res_18 : Tryz.f18.results.toList = [.tmp 2] := rfl
theorem mode_18 [SpC] : X.mode 18 = .ro := nr rfl
theorem ok_19 : funcOk Tryz.f19 = true := by kernel_rfl
theorem res_19 : Tryz.f19.results.toList = [.tmp 4] := rfl
theorem mode_19 [SpC] : X.mode 19 = .ro := nr rfl
theorem ok_20 : funcOk Tryz.f20 = true := by kernel_rfl
theorem res_20 : Tryz.f20.results.toList = [.cell 2 37] := rfl
theorem mode_20 [SpC] : X.mode 20 = .ro := nr rfl
theorem ok_21 : funcOk Tryz.f21 = true := by kernel_rfl
theorem res_21 : Tryz.f21.results.toList = [.tmp 4] := rfl
theorem mode_21 [SpC] : X.mode 21 = .ro := nr rfl
theorem ok_22 : funcOk Tryz.f22 = true := by kernel_rfl
theorem res_22 : Tryz.f22.results.toList = [.cell 4 37] := rfl
theorem mode_22 [SpC] : X.mode 22 = .ro := nr rfl
theorem ok_23 : funcOk Tryz.f23 = true := by kernel_rfl
theorem res_23 : Tryz.f23.results.toList = [.cell 4 35] := rfl
theorem mode_23 [SpC] : X.mode 23 = .ro := nr rfl
theorem ok_24 : funcOk Tryz.f24 = true := by kernel_rfl
theorem res_24 : Tryz.f24.results.toList = [.tmp 4] := rfl
theorem mode_24 [SpC] : X.mode 24 = .ro := nr rfl
theorem ok_25 : funcOk Tryz.f25 = true := by kernel_rfl
theorem res_25 : Tryz.f25.results.toList = [.tmp 4] := rfl
theorem mode_25 [SpC] : X.mode 25 = .ro := nr rfl
theorem ok_26 : funcOk Tryz.f26 = true := by kernel_rfl
theorem res_26 : Tryz.f26.results.toList = [.tmp 2] := rfl
theorem mode_26 [SpC] : X.mode 26 = .ro := nr rfl
theorem ok_27 : funcOk Tryz.f27 = true := by kernel_rfl
theorem res_27 : Tryz.f27.results.toList = [.tmp 4] := rfl
theorem mode_27 [SpC] : X.mode 27 = .ro := nr rfl
theorem ok_28 : funcOk Tryz.f28 = true := by kernel_rfl
theorem res_28 : Tryz.f28.results.toList = [.cell 4 28] := rfl
theorem mode_28 [SpC] : X.mode 28 = .ro := nr rfl
theorem ok_29 : funcOk Tryz.f29 = true := by kernel_rfl
theorem res_29 : Tryz.f29.results.toList = [.cell 8 30] := rfl
theorem mode_29 [SpC] : X.mode 29 = .ro := nr rfl
theorem ok_30 : funcOk Tryz.f30 = true := by kernel_rfl
theorem res_30 : Tryz.f30.results.toList = [.cell 4 28] := rfl
theorem mode_30 [SpC] : X.mode 30 = .ro := nr rfl
theorem ok_31 : funcOk Tryz.f31 = true := by kernel_rfl
theorem res_31 : Tryz.f31.results.toList = [.cell 4 28] := rfl
theorem mode_31 [SpC] : X.mode 31 = .ro := nr rfl
theorem ok_32 : funcOk Tryz.f32 = true := by kernel_rfl
theorem res_32 : Tryz.f32.results.toList = [.tmp 4] := rfl
theorem mode_32 [SpC] : X.mode 32 = .ro := nr rfl
theorem ok_33 : funcOk Tryz.f33 = true := by kernel_rfl
theorem res_33 : Tryz.f33.results.toList = [.tmp 4] := rfl
theorem mode_33 [SpC] : X.mode 33 = .ro := nr rfl
theorem ok_34 : funcOk Tryz.f34 = true := by kernel_rfl
theorem res_34 : Tryz.f34.results.toList = [.tmp 4] := rfl
theorem mode_34 [SpC] : X.mode 34 = .ro := nr rfl
theorem ok_35 : funcOk Tryz.f35 = true := by kernel_rfl
theorem res_35 : Tryz.f35.results.toList = [.tmp 2] := rfl
theorem mode_35 [SpC] : X.mode 35 = .ro := nr rfl
theorem ok_36 : funcOk Tryz.f36 = true := by kernel_rfl
theorem res_36 : Tryz.f36.results.toList = [.tmp 2] := rfl
theorem mode_36 [SpC] : X.mode 36 = .ro := nr rfl
theorem ok_37 : funcOk Tryz.f37 = true := by kernel_rfl
theorem res_37 : Tryz.f37.results.toList = [.tmp 2] := rfl
theorem mode_37 [SpC] : X.mode 37 = .spec (SpC.spec 37) := nr rfl
theorem ok_38 : funcOk Tryz.f38 = true := by kernel_rfl
theorem res_38 : Tryz.f38.results.toList = [.tmp 2] := rfl
theorem mode_38 [SpC] : X.mode 38 = .ro := nr rfl
theorem ok_39 : funcOk Tryz.f39 = true := by kernel_rfl
theorem res_39 : Tryz.f39.results.toList = [.tmp 2] := rfl
theorem mode_39 [SpC] : X.mode 39 = .ro := nr rfl
theorem ok_40 : funcOk Tryz.f40 = true := by kernel_rfl
theorem res_40 : Tryz.f40.results.toList = [.cell 4 28] := rfl
theorem mode_40 [SpC] : X.mode 40 = .ro := nr rfl
theorem ok_41 : funcOk Tryz.f41 = true := by kernel_rfl
theorem res_41 : Tryz.f41.results.toList = [.tmp 4] := rfl
theorem mode_41 [SpC] : X.mode 41 = .ro := nr rfl
theorem ok_42 : funcOk Tryz.f42 = true := by kernel_rfl
theorem res_42 : Tryz.f42.results.toList = [.tmp 4] := rfl
theorem mode_42 [SpC] : X.mode 42 = .ro := nr rfl
theorem ok_43 : funcOk Tryz.f43 = true := by kernel_rfl
theorem res_43 : Tryz.f43.results.toList = [.tmp 6] := rfl
theorem mode_43 [SpC] : X.mode 43 = .ro := nr rfl
theorem ok_44 : funcOk Tryz.f44 = true := by kernel_rfl
theorem res_44 : Tryz.f44.results.toList = [.cell 2 28] := rfl
theorem mode_44 [SpC] : X.mode 44 = .ro := nr rfl
theorem ok_45 : funcOk Tryz.f45 = true := by kernel_rfl
theorem res_45 : Tryz.f45.results.toList = [.tmp 4] := rfl
theorem mode_45 [SpC] : X.mode 45 = .ro := nr rfl
theorem ok_46 : funcOk Tryz.f46 = true := by kernel_rfl
theorem res_46 : Tryz.f46.results.toList = [.cell 4 59] := rfl
theorem mode_46 [SpC] : X.mode 46 = .ro := nr rfl
theorem ok_47 : funcOk Tryz.f47 = true := by kernel_rfl
theorem res_47 : Tryz.f47.results.toList = [.tmp 5] := rfl
theorem mode_47 [SpC] : X.mode 47 = .ro := nr rfl
theorem ok_48 : funcOk Tryz.f48 = true := by kernel_rfl
theorem res_48 : Tryz.f48.results.toList = [.tmp 4] := rfl
theorem mode_48 [SpC] : X.mode 48 = .ro := nr rfl
theorem ok_49 : funcOk Tryz.f49 = true := by kernel_rfl
theorem res_49 : Tryz.f49.results.toList = [.cell 4 59] := rfl
theorem mode_49 [SpC] : X.mode 49 = .ro := nr rfl
theorem ok_50 : funcOk Tryz.f50 = true := by kernel_rfl
theorem res_50 : Tryz.f50.results.toList = [.tmp 5] := rfl
theorem mode_50 [SpC] : X.mode 50 = .ro := nr rfl
theorem ok_51 : funcOk Tryz.f51 = true := by kernel_rfl
theorem res_51 : Tryz.f51.results.toList = [.cell 8 28, .cell 9 28] := rfl
theorem mode_51 [SpC] : X.mode 51 = .ro := nr rfl
theorem ok_52 : funcOk Tryz.f52 = true := by kernel_rfl
theorem res_52 : Tryz.f52.results.toList = [.cell 4 28] := rfl
theorem mode_52 [SpC] : X.mode 52 = .ro := nr rfl
theorem ok_53 : funcOk Tryz.f53 = true := by kernel_rfl
theorem res_53 : Tryz.f53.results.toList = [.cell 4 28] := rfl
theorem mode_53 [SpC] : X.mode 53 = .ro := nr rfl
theorem ok_54 : funcOk Tryz.f54 = true := by kernel_rfl
theorem res_54 : Tryz.f54.results.toList = [.cell 8 28, .cell 9 28] := rfl
theorem mode_54 [SpC] : X.mode 54 = .ro := nr rfl
theorem ok_55 : funcOk Tryz.f55 = true := by kernel_rfl
theorem res_55 : Tryz.f55.results.toList = [.cell 2 28] := rfl
theorem mode_55 [SpC] : X.mode 55 = .ro := nr rfl
theorem ok_56 : funcOk Tryz.f56 = true := by kernel_rfl
theorem res_56 : Tryz.f56.results.toList = [.cell 4 30] := rfl
theorem mode_56 [SpC] : X.mode 56 = .ro := nr rfl
theorem ok_57 : funcOk Tryz.f57 = true := by kernel_rfl
theorem res_57 : Tryz.f57.results.toList = [.tmp 4] := rfl
theorem mode_57 [SpC] : X.mode 57 = .ro := nr rfl
theorem ok_58 : funcOk Tryz.f58 = true := by kernel_rfl
theorem res_58 : Tryz.f58.results.toList = [.tmp 4] := rfl
theorem mode_58 [SpC] : X.mode 58 = .ro := nr rfl
theorem ok_59 : funcOk Tryz.f59 = true := by kernel_rfl
theorem res_59 : Tryz.f59.results.toList = [.tmp 4] := rfl
theorem mode_59 [SpC] : X.mode 59 = .ro := nr rfl
theorem ok_60 : funcOk Tryz.f60 = true := by kernel_rfl
theorem res_60 : Tryz.f60.results.toList = [.cell 4 28, .cell 5 28] := rfl
theorem mode_60 [SpC] : X.mode 60 = .ro := nr rfl
theorem ok_61 : funcOk Tryz.f61 = true := by kernel_rfl
theorem res_61 : Tryz.f61.results.toList = [.cell 4 28] := rfl
theorem mode_61 [SpC] : X.mode 61 = .ro := nr rfl
theorem ok_62 : funcOk Tryz.f62 = true := by kernel_rfl
theorem res_62 : Tryz.f62.results.toList = [.cell 4 28] := rfl
theorem mode_62 [SpC] : X.mode 62 = .ro := nr rfl
theorem ok_63 : funcOk Tryz.f63 = true := by kernel_rfl
theorem res_63 : Tryz.f63.results.toList = [.cell 4 28] := rfl
theorem mode_63 [SpC] : X.mode 63 = .ro := nr rfl
theorem ok_64 : funcOk Tryz.f64 = true := by kernel_rfl
theorem res_64 : Tryz.f64.results.toList = [.cell 2 26] := rfl
theorem mode_64 [SpC] : X.mode 64 = .ro := nr rfl
theorem ok_65 : funcOk Tryz.f65 = true := by kernel_rfl
theorem res_65 : Tryz.f65.results.toList = [.cell 8 28] := rfl
theorem mode_65 [SpC] : X.mode 65 = .ro := nr rfl
theorem ok_66 : funcOk Tryz.f66 = true := by kernel_rfl
theorem res_66 : Tryz.f66.results.toList = [.cell 4 26] := rfl
theorem mode_66 [SpC] : X.mode 66 = .ro := nr rfl
theorem ok_67 : funcOk Tryz.f67 = true := by kernel_rfl
theorem res_67 : Tryz.f67.results.toList = [.cell 2 26] := rfl
theorem mode_67 [SpC] : X.mode 67 = .ro := nr rfl
theorem ok_68 : funcOk Tryz.f68 = true := by kernel_rfl
theorem res_68 : Tryz.f68.results.toList = [.cell 4 26] := rfl
theorem mode_68 [SpC] : X.mode 68 = .ro := nr rfl
theorem ok_69 : funcOk Tryz.f69 = true := by kernel_rfl
theorem res_69 : Tryz.f69.results.toList = [] := rfl
theorem mode_69 [SpC] : X.mode 69 = .inl := nr rfl
theorem ok_70 : funcOk Tryz.f70 = true := by kernel_rfl
theorem res_70 : Tryz.f70.results.toList = [.tmp 5] := rfl
theorem mode_70 [SpC] : X.mode 70 = .ro := nr rfl
theorem ok_71 : funcOk Tryz.f71 = true := by kernel_rfl
theorem res_71 : Tryz.f71.results.toList = [] := rfl
theorem mode_71 [SpC] : X.mode 71 = .inl := nr rfl
theorem ok_72 : funcOk Tryz.f72 = true := by kernel_rfl
theorem res_72 : Tryz.f72.results.toList = [.tmp 4] := rfl
theorem mode_72 [SpC] : X.mode 72 = .ro := nr rfl
theorem ok_73 : funcOk Tryz.f73 = true := by kernel_rfl
theorem res_73 : Tryz.f73.results.toList = [.tmp 2] := rfl
theorem mode_73 [SpC] : X.mode 73 = .ro := nr rfl
theorem ok_74 : funcOk Tryz.f74 = true := by kernel_rfl
theorem res_74 : Tryz.f74.results.toList = [.tmp 2] := rfl
theorem mode_74 [SpC] : X.mode 74 = .ro := nr rfl
theorem ok_75 : funcOk Tryz.f75 = true := by kernel_rfl
theorem res_75 : Tryz.f75.results.toList = [.tmp 4] := rfl
theorem mode_75 [SpC] : X.mode 75 = .ro := nr rfl
theorem ok_76 : funcOk Tryz.f76 = true := by kernel_rfl
theorem res_76 : Tryz.f76.results.toList = [.cell 4 105, .tmp 5] := rfl
theorem mode_76 [SpC] : X.mode 76 = .ro := nr rfl
theorem ok_77 : funcOk Tryz.f77 = true := by kernel_rfl
theorem res_77 : Tryz.f77.results.toList = [.cell 4 59] := rfl
theorem mode_77 [SpC] : X.mode 77 = .ro := nr rfl
theorem ok_78 : funcOk Tryz.f78 = true := by kernel_rfl
theorem res_78 : Tryz.f78.results.toList = [.tmp 6] := rfl
theorem mode_78 [SpC] : X.mode 78 = .ro := nr rfl
theorem ok_79 : funcOk Tryz.f79 = true := by kernel_rfl
theorem res_79 : Tryz.f79.results.toList = [.cell 2 28] := rfl
theorem mode_79 [SpC] : X.mode 79 = .ro := nr rfl
theorem ok_80 : funcOk Tryz.f80 = true := by kernel_rfl
theorem res_80 : Tryz.f80.results.toList = [.tmp 4] := rfl
theorem mode_80 [SpC] : X.mode 80 = .ro := nr rfl
theorem ok_81 : funcOk Tryz.f81 = true := by kernel_rfl
theorem res_81 : Tryz.f81.results.toList = [.tmp 3] := rfl
theorem mode_81 [SpC] : X.mode 81 = .ro := nr rfl
theorem ok_82 : funcOk Tryz.f82 = true := by kernel_rfl
theorem res_82 : Tryz.f82.results.toList = [.tmp 2] := rfl
theorem mode_82 [SpC] : X.mode 82 = .ro := nr rfl
theorem ok_83 : funcOk Tryz.f83 = true := by kernel_rfl
theorem res_83 : Tryz.f83.results.toList = [.cell 4 28] := rfl
theorem mode_83 [SpC] : X.mode 83 = .ro := nr rfl
theorem ok_84 : funcOk Tryz.f84 = true := by kernel_rfl
theorem res_84 : Tryz.f84.results.toList = [] := rfl
theorem mode_84 [SpC] : X.mode 84 = .inl := nr rfl
theorem ok_85 : funcOk Tryz.f85 = true := by kernel_rfl
theorem res_85 : Tryz.f85.results.toList = [.tmp 3] := rfl
theorem mode_85 [SpC] : X.mode 85 = .ro := nr rfl
theorem ok_86 : funcOk Tryz.f86 = true := by kernel_rfl
theorem res_86 : Tryz.f86.results.toList = [.tmp 4] := rfl
theorem mode_86 [SpC] : X.mode 86 = .ro := nr rfl
theorem ok_87 : funcOk Tryz.f87 = true := by kernel_rfl
theorem res_87 : Tryz.f87.results.toList = [.cell 2 105] := rfl
theorem mode_87 [SpC] : X.mode 87 = .ro := nr rfl
theorem ok_88 : funcOk Tryz.f88 = true := by kernel_rfl
theorem res_88 : Tryz.f88.results.toList = [.tmp 4] := rfl
theorem mode_88 [SpC] : X.mode 88 = .ro := nr rfl
theorem ok_89 : funcOk Tryz.f89 = true := by kernel_rfl
theorem res_89 : Tryz.f89.results.toList = [.tmp 2] := rfl
theorem mode_89 [SpC] : X.mode 89 = .ro := nr rfl
theorem ok_90 : funcOk Tryz.f90 = true := by kernel_rfl
theorem res_90 : Tryz.f90.results.toList = [.cell 8 28] := rfl
theorem mode_90 [SpC] : X.mode 90 = .ro := nr rfl
theorem ok_91 : funcOk Tryz.f91 = true := by kernel_rfl
theorem res_91 : Tryz.f91.results.toList = [.cell 2 28] := rfl
theorem mode_91 [SpC] : X.mode 91 = .ro := nr rfl
theorem ok_92 : funcOk Tryz.f92 = true := by kernel_rfl
theorem res_92 : Tryz.f92.results.toList = [.cell 4 28] := rfl
theorem mode_92 [SpC] : X.mode 92 = .ro := nr rfl
theorem ok_93 : funcOk Tryz.f93 = true := by kernel_rfl
theorem res_93 : Tryz.f93.results.toList = [.cell 4 26] := rfl
theorem mode_93 [SpC] : X.mode 93 = .ro := nr rfl
theorem ok_94 : funcOk Tryz.f94 = true := by kernel_rfl
theorem res_94 : Tryz.f94.results.toList = [.cell 2 26] := rfl
theorem mode_94 [SpC] : X.mode 94 = .ro := nr rfl
theorem ok_95 : funcOk Tryz.f95 = true := by kernel_rfl
theorem res_95 : Tryz.f95.results.toList = [.cell 4 28] := rfl
theorem mode_95 [SpC] : X.mode 95 = .ro := nr rfl
theorem ok_96 : funcOk Tryz.f96 = true := by kernel_rfl
theorem res_96 : Tryz.f96.results.toList = [.cell 4 26] := rfl
theorem mode_96 [SpC] : X.mode 96 = .ro := nr rfl
theorem ok_97 : funcOk Tryz.f97 = true := by kernel_rfl
theorem res_97 : Tryz.f97.results.toList = [.cell 2 26] := rfl
theorem mode_97 [SpC] : X.mode 97 = .ro := nr rfl
theorem ok_98 : funcOk Tryz.f98 = true := by kernel_rfl
theorem res_98 : Tryz.f98.results.toList = [.tmp 2] := rfl
theorem mode_98 [SpC] : X.mode 98 = .ro := nr rfl
theorem ok_99 : funcOk Tryz.f99 = true := by kernel_rfl
theorem res_99 : Tryz.f99.results.toList = [.cell 4 28] := rfl
theorem mode_99 [SpC] : X.mode 99 = .ro := nr rfl
theorem ok_100 : funcOk Tryz.f100 = true := by kernel_rfl
theorem res_100 : Tryz.f100.results.toList = [.tmp 4] := rfl
theorem mode_100 [SpC] : X.mode 100 = .ro := nr rfl
theorem ok_101 : funcOk Tryz.f101 = true := by kernel_rfl
theorem res_101 : Tryz.f101.results.toList = [.tmp 4] := rfl
theorem mode_101 [SpC] : X.mode 101 = .ro := nr rfl
theorem ok_102 : funcOk Tryz.f102 = true := by kernel_rfl
theorem res_102 : Tryz.f102.results.toList = [.cell 4 26] := rfl
theorem mode_102 [SpC] : X.mode 102 = .ro := nr rfl
theorem ok_103 : funcOk Tryz.f103 = true := by kernel_rfl
theorem res_103 : Tryz.f103.results.toList = [.cell 4 26, .cell 5 26] := rfl
theorem mode_103 [SpC] : X.mode 103 = .ro := nr rfl
theorem ok_104 : funcOk Tryz.f104 = true := by kernel_rfl
theorem res_104 : Tryz.f104.results.toList = [.cell 2 26] := rfl
theorem mode_104 [SpC] : X.mode 104 = .ro := nr rfl
theorem ok_105 : funcOk Tryz.f105 = true := by kernel_rfl
theorem res_105 : Tryz.f105.results.toList = [.tmp 2] := rfl
theorem mode_105 [SpC] : X.mode 105 = .ro := nr rfl
theorem ok_106 : funcOk Tryz.f106 = true := by kernel_rfl
theorem res_106 : Tryz.f106.results.toList = [.cell 4 26] := rfl
theorem mode_106 [SpC] : X.mode 106 = .ro := nr rfl
theorem ok_107 : funcOk Tryz.f107 = true := by kernel_rfl
theorem res_107 : Tryz.f107.results.toList = [.tmp 4] := rfl
theorem mode_107 [SpC] : X.mode 107 = .ro := nr rfl
theorem ok_108 : funcOk Tryz.f108 = true := by kernel_rfl
theorem res_108 : Tryz.f108.results.toList = [.tmp 4] := rfl
theorem mode_108 [SpC] : X.mode 108 = .ro := nr rfl
theorem ok_109 : funcOk Tryz.f109 = true := by kernel_rfl
theorem res_109 : Tryz.f109.results.toList = [.tmp 4] := rfl
theorem mode_109 [SpC] : X.mode 109 = .ro := nr rfl
theorem ok_110 : funcOk Tryz.f110 = true := by kernel_rfl
theorem res_110 : Tryz.f110.results.toList = [] := rfl
theorem mode_110 [SpC] : X.mode 110 = .inl := nr rfl
theorem ok_111 : funcOk Tryz.f111 = true := by kernel_rfl
theorem res_111 : Tryz.f111.results.toList = [.tmp 2] := rfl
theorem mode_111 [SpC] : X.mode 111 = .ro := nr rfl
theorem ok_112 : funcOk Tryz.f112 = true := by kernel_rfl
theorem res_112 : Tryz.f112.results.toList = [] := rfl
theorem mode_112 [SpC] : X.mode 112 = .inl := nr rfl
theorem ok_113 : funcOk Tryz.f113 = true := by kernel_rfl
theorem res_113 : Tryz.f113.results.toList = [.tmp 4] := rfl
theorem mode_113 [SpC] : X.mode 113 = .ro := nr rfl
theorem ok_114 : funcOk Tryz.f114 = true := by kernel_rfl
theorem res_114 : Tryz.f114.results.toList = [.cell 2 26, .tmp 3] := rfl
theorem mode_114 [SpC] : X.mode 114 = .ro := nr rfl
theorem ok_115 : funcOk Tryz.f115 = true := by kernel_rfl
theorem res_115 : Tryz.f115.results.toList = [.tmp 2, .tmp 3] := rfl
theorem mode_115 [SpC] : X.mode 115 = .ro := nr rfl
theorem ok_116 : funcOk Tryz.f116 = true := by kernel_rfl
theorem res_116 : Tryz.f116.results.toList = [.tmp 4] := rfl
theorem mode_116 [SpC] : X.mode 116 = .ro := nr rfl
theorem ok_117 : funcOk Tryz.f117 = true := by kernel_rfl
theorem res_117 : Tryz.f117.results.toList = [.tmp 4] := rfl
theorem mode_117 [SpC] : X.mode 117 = .ro := nr rfl
theorem ok_118 : funcOk Tryz.f118 = true := by kernel_rfl
theorem res_118 : Tryz.f118.results.toList = [.tmp 2] := rfl
theorem mode_118 [SpC] : X.mode 118 = .ro := nr rfl
theorem ok_119 : funcOk Tryz.f119 = true := by kernel_rfl
theorem res_119 : Tryz.f119.results.toList = [.cell 4 28] := rfl
theorem mode_119 [SpC] : X.mode 119 = .ro := nr rfl
theorem ok_120 : funcOk Tryz.f120 = true := by kernel_rfl
theorem res_120 : Tryz.f120.results.toList = [.cell 4 28] := rfl
theorem mode_120 [SpC] : X.mode 120 = .ro := nr rfl
theorem ok_121 : funcOk Tryz.f121 = true := by kernel_rfl
theorem res_121 : Tryz.f121.results.toList = [.tmp 4] := rfl
theorem mode_121 [SpC] : X.mode 121 = .ro := nr rfl
theorem ok_122 : funcOk Tryz.f122 = true := by kernel_rfl
theorem res_122 : Tryz.f122.results.toList = [.tmp 5] := rfl
theorem mode_122 [SpC] : X.mode 122 = .ro := nr rfl
theorem ok_123 : funcOk Tryz.f123 = true := by kernel_rfl
theorem res_123 : Tryz.f123.results.toList = [.cell 4 28] := rfl
theorem mode_123 [SpC] : X.mode 123 = .ro := nr rfl
theorem ok_124 : funcOk Tryz.f124 = true := by kernel_rfl
theorem res_124 : Tryz.f124.results.toList = [.cell 2 26] := rfl
theorem mode_124 [SpC] : X.mode 124 = .ro := nr rfl
theorem ok_125 : funcOk Tryz.f125 = true := by kernel_rfl
theorem res_125 : Tryz.f125.results.toList = [.cell 4 28] := rfl
theorem mode_125 [SpC] : X.mode 125 = .ro := nr rfl
theorem ok_126 : funcOk Tryz.f126 = true := by kernel_rfl
theorem res_126 : Tryz.f126.results.toList = [.cell 4 26] := rfl
theorem mode_126 [SpC] : X.mode 126 = .ro := nr rfl
theorem ok_127 : funcOk Tryz.f127 = true := by kernel_rfl
theorem res_127 : Tryz.f127.results.toList = [.tmp 4] := rfl
theorem mode_127 [SpC] : X.mode 127 = .ro := nr rfl
theorem ok_128 : funcOk Tryz.f128 = true := by kernel_rfl
theorem res_128 : Tryz.f128.results.toList = [.tmp 4] := rfl
theorem mode_128 [SpC] : X.mode 128 = .ro := nr rfl
theorem ok_129 : funcOk Tryz.f129 = true := by kernel_rfl
theorem res_129 : Tryz.f129.results.toList = [.tmp 4] := rfl
theorem mode_129 [SpC] : X.mode 129 = .ro := nr rfl
theorem ok_130 : funcOk Tryz.f130 = true := by kernel_rfl
theorem res_130 : Tryz.f130.results.toList = [.cell 0 26] := rfl
theorem mode_130 [SpC] : X.mode 130 = .ro := nr rfl
theorem ok_131 : funcOk Tryz.f131 = true := by kernel_rfl
theorem res_131 : Tryz.f131.results.toList = [.cell 4 26] := rfl
theorem mode_131 [SpC] : X.mode 131 = .ro := nr rfl
theorem ok_132 : funcOk Tryz.f132 = true := by kernel_rfl
theorem res_132 : Tryz.f132.results.toList = [.tmp 2] := rfl
theorem mode_132 [SpC] : X.mode 132 = .ro := nr rfl
theorem ok_133 : funcOk Tryz.f133 = true := by kernel_rfl
theorem res_133 : Tryz.f133.results.toList = [.cell 4 26, .cell 5 26] := rfl
theorem mode_133 [SpC] : X.mode 133 = .ro := nr rfl
theorem ok_134 : funcOk Tryz.f134 = true := by kernel_rfl
theorem res_134 : Tryz.f134.results.toList = [.cell 4 26] := rfl
theorem mode_134 [SpC] : X.mode 134 = .ro := nr rfl
theorem ok_135 : funcOk Tryz.f135 = true := by kernel_rfl
theorem res_135 : Tryz.f135.results.toList = [.tmp 2] := rfl
theorem mode_135 [SpC] : X.mode 135 = .ro := nr rfl
theorem ok_136 : funcOk Tryz.f136 = true := by kernel_rfl
theorem res_136 : Tryz.f136.results.toList = [.tmp 2] := rfl
theorem mode_136 [SpC] : X.mode 136 = .ro := nr rfl
theorem ok_137 : funcOk Tryz.f137 = true := by kernel_rfl
theorem res_137 : Tryz.f137.results.toList = [.tmp 4, .tmp 5] := rfl
theorem mode_137 [SpC] : X.mode 137 = .ro := nr rfl
theorem ok_138 : funcOk Tryz.f138 = true := by kernel_rfl
theorem res_138 : Tryz.f138.results.toList = [.tmp 4] := rfl
theorem mode_138 [SpC] : X.mode 138 = .ro := nr rfl
theorem ok_139 : funcOk Tryz.f139 = true := by kernel_rfl
theorem res_139 : Tryz.f139.results.toList = [] := rfl
theorem mode_139 [SpC] : X.mode 139 = .inl := nr rfl
theorem ok_140 : funcOk Tryz.f140 = true := by kernel_rfl
theorem res_140 : Tryz.f140.results.toList = [] := rfl
theorem mode_140 [SpC] : X.mode 140 = .inl := nr rfl
theorem ok_141 : funcOk Tryz.f141 = true := by kernel_rfl
theorem res_141 : Tryz.f141.results.toList = [] := rfl
theorem mode_141 [SpC] : X.mode 141 = .inl := nr rfl
theorem ok_142 : funcOk Tryz.f142 = true := by kernel_rfl
theorem res_142 : Tryz.f142.results.toList = [.tmp 8, .tmp 9] := rfl
theorem mode_142 [SpC] : X.mode 142 = .inl := nr rfl
theorem ok_143 : funcOk Tryz.f143 = true := by kernel_rfl
theorem res_143 : Tryz.f143.results.toList = [] := rfl
theorem mode_143 [SpC] : X.mode 143 = .inl := nr rfl
theorem ok_144 : funcOk Tryz.f144 = true := by kernel_rfl
theorem res_144 : Tryz.f144.results.toList = [.tmp 8] := rfl
theorem mode_144 [SpC] : X.mode 144 = .inl := nr rfl
theorem ok_145 : funcOk Tryz.f145 = true := by kernel_rfl
theorem res_145 : Tryz.f145.results.toList = [.tmp 10] := rfl
theorem mode_145 [SpC] : X.mode 145 = .inl := nr rfl
theorem ok_146 : funcOk Tryz.f146 = true := by kernel_rfl
theorem res_146 : Tryz.f146.results.toList = [.tmp 10, .tmp 11] := rfl
theorem mode_146 [SpC] : X.mode 146 = .inl := nr rfl
theorem ok_147 : funcOk Tryz.f147 = true := by kernel_rfl
theorem res_147 : Tryz.f147.results.toList = [.tmp 2] := rfl
theorem mode_147 [SpC] : X.mode 147 = .ro := nr rfl
theorem ok_148 : funcOk Tryz.f148 = true := by kernel_rfl
theorem res_148 : Tryz.f148.results.toList = [.tmp 2] := rfl
theorem mode_148 [SpC] : X.mode 148 = .ro := nr rfl
theorem ok_149 : funcOk Tryz.f149 = true := by kernel_rfl
theorem res_149 : Tryz.f149.results.toList = [] := rfl
theorem mode_149 [SpC] : X.mode 149 = .inl := nr rfl
theorem ok_150 : funcOk Tryz.f150 = true := by kernel_rfl
theorem res_150 : Tryz.f150.results.toList = [] := rfl
theorem mode_150 [SpC] : X.mode 150 = .inl := nr rfl
theorem ok_151 : funcOk Tryz.f151 = true := by kernel_rfl
theorem res_151 : Tryz.f151.results.toList = [] := rfl
theorem mode_151 [SpC] : X.mode 151 = .inl := nr rfl
theorem ok_152 : funcOk Tryz.f152 = true := by kernel_rfl
theorem res_152 : Tryz.f152.results.toList = [.tmp 8, .tmp 9] := rfl
theorem mode_152 [SpC] : X.mode 152 = .inl := nr rfl
theorem ok_153 : funcOk Tryz.f153 = true := by kernel_rfl
theorem res_153 : Tryz.f153.results.toList = [] := rfl
theorem mode_153 [SpC] : X.mode 153 = .inl := nr rfl
theorem ok_154 : funcOk Tryz.f154 = true := by kernel_rfl
theorem res_154 : Tryz.f154.results.toList = [.tmp 8] := rfl
theorem mode_154 [SpC] : X.mode 154 = .inl := nr rfl
theorem ok_155 : funcOk Tryz.f155 = true := by kernel_rfl
theorem res_155 : Tryz.f155.results.toList = [.tmp 10] := rfl
theorem mode_155 [SpC] : X.mode 155 = .inl := nr rfl
theorem ok_156 : funcOk Tryz.f156 = true := by kernel_rfl
theorem res_156 : Tryz.f156.results.toList = [.tmp 10, .tmp 11] := rfl
theorem mode_156 [SpC] : X.mode 156 = .inl := nr rfl
theorem ok_157 : funcOk Tryz.f157 = true := by kernel_rfl
theorem res_157 : Tryz.f157.results.toList = [.tmp 2, .tmp 3] := rfl
theorem mode_157 [SpC] : X.mode 157 = .ro := nr rfl
theorem ok_158 : funcOk Tryz.f158 = true := by kernel_rfl
theorem res_158 : Tryz.f158.results.toList = [.cell 4 26, .cell 5 26] := rfl
theorem mode_158 [SpC] : X.mode 158 = .ro := nr rfl
theorem ok_159 : funcOk Tryz.f159 = true := by kernel_rfl
theorem res_159 : Tryz.f159.results.toList = [.tmp 4] := rfl
theorem mode_159 [SpC] : X.mode 159 = .ro := nr rfl
theorem ok_160 : funcOk Tryz.f160 = true := by kernel_rfl
theorem res_160 : Tryz.f160.results.toList = [] := rfl
theorem mode_160 [SpC] : X.mode 160 = .inl := nr rfl
theorem ok_161 : funcOk Tryz.f161 = true := by kernel_rfl
theorem res_161 : Tryz.f161.results.toList = [.tmp 2] := rfl
theorem mode_161 [SpC] : X.mode 161 = .ro := nr rfl
theorem ok_162 : funcOk Tryz.f162 = true := by kernel_rfl
theorem res_162 : Tryz.f162.results.toList = [.tmp 2] := rfl
theorem mode_162 [SpC] : X.mode 162 = .inl := nr rfl
theorem ok_163 : funcOk Tryz.f163 = true := by kernel_rfl
theorem res_163 : Tryz.f163.results.toList = [.tmp 8] := rfl
theorem mode_163 [SpC] : X.mode 163 = .inl := nr rfl
theorem ok_164 : funcOk Tryz.f164 = true := by kernel_rfl
theorem res_164 : Tryz.f164.results.toList = [.tmp 12] := rfl
theorem mode_164 [SpC] : X.mode 164 = .inl := nr rfl
theorem ok_165 : funcOk Tryz.f165 = true := by kernel_rfl
theorem res_165 : Tryz.f165.results.toList = [] := rfl
theorem mode_165 [SpC] : X.mode 165 = .inl := nr rfl
theorem ok_166 : funcOk Tryz.f166 = true := by kernel_rfl
theorem res_166 : Tryz.f166.results.toList = [.tmp 8] := rfl
theorem mode_166 [SpC] : X.mode 166 = .inl := nr rfl
theorem ok_167 : funcOk Tryz.f167 = true := by kernel_rfl
theorem res_167 : Tryz.f167.results.toList = [.tmp 12] := rfl
theorem mode_167 [SpC] : X.mode 167 = .inl := nr rfl
theorem ok_168 : funcOk Tryz.f168 = true := by kernel_rfl
theorem res_168 : Tryz.f168.results.toList = [.tmp 4, .tmp 5] := rfl
theorem mode_168 [SpC] : X.mode 168 = .ro := nr rfl
theorem ok_169 : funcOk Tryz.f169 = true := by kernel_rfl
theorem res_169 : Tryz.f169.results.toList = [.tmp 4, .tmp 5] := rfl
theorem mode_169 [SpC] : X.mode 169 = .ro := nr rfl
theorem ok_170 : funcOk Tryz.f170 = true := by kernel_rfl
theorem res_170 : Tryz.f170.results.toList = [.tmp 10, .tmp 11] := rfl
theorem mode_170 [SpC] : X.mode 170 = .inl := nr rfl
theorem ok_171 : funcOk Tryz.f171 = true := by kernel_rfl
theorem res_171 : Tryz.f171.results.toList = [.tmp 10, .tmp 11] := rfl
theorem mode_171 [SpC] : X.mode 171 = .inl := nr rfl
theorem ok_172 : funcOk Tryz.f172 = true := by kernel_rfl
theorem res_172 : Tryz.f172.results.toList = [.tmp 4] := rfl
theorem mode_172 [SpC] : X.mode 172 = .top := nr rfl
theorem ok_189 : funcOk Tryz.f189 = true := by kernel_rfl
theorem res_189 : Tryz.f189.results.toList = [.cell 2 28] := rfl
theorem mode_189 [SpC] : X.mode 189 = .ro := nr rfl
theorem ok_190 : funcOk Tryz.f190 = true := by kernel_rfl
theorem res_190 : Tryz.f190.results.toList = [.tmp 2] := rfl
theorem mode_190 [SpC] : X.mode 190 = .ro := nr rfl
theorem ok_191 : funcOk Tryz.f191 = true := by kernel_rfl
theorem res_191 : Tryz.f191.results.toList = [.cell 2 28] := rfl
theorem mode_191 [SpC] : X.mode 191 = .ro := nr rfl
theorem ok_192 : funcOk Tryz.f192 = true := by kernel_rfl
theorem res_192 : Tryz.f192.results.toList = [.tmp 2] := rfl
theorem mode_192 [SpC] : X.mode 192 = .ro := nr rfl
attribute [go_sem] ld_1 st_1 al_1 ld_2 st_2 al_2 ld_3 st_3 al_3 ld_4 st_4 al_4 ld_5 st_5 al_5 ld_9 st_9 al_9 ld_12 st_12 al_12 ld_13 st_13 al_13 fa_13_0 fd_13_0 fa_13_1 fd_13_1 bl_13 ld_21 st_21 al_21 ld_22 st_22 al_22 len_22 cp_22 ix_22 sli_22 bs_22 mk_22 ap_22 ld_23 st_23 al_23 len_23 cp_23 ix_23 sli_23 bs_23 mk_23 ap_23 ld_24 st_24 al_24 ld_25 st_25 al_25 fa_25_0 fd_25_0
attribute [go_sem] fa_25_1 fd_25_1 bl_25 ld_26 st_26 al_26 fa_26_0 fd_26_0 fa_26_1 fd_26_1 bl_26 ld_27 st_27 al_27 fa_27_0 fd_27_0 fa_27_1 fd_27_1 bl_27 ld_28 st_28 al_28 fa_28_0 fd_28_0 fa_28_1 fd_28_1 bl_28 ld_29 st_29 al_29 fa_29_0 fd_29_0 fa_29_1 fd_29_1 bl_29 ld_30 st_30 al_30 fa_30_0 fd_30_0 fa_30_1 fd_30_1 bl_30 ld_31 st_31 al_31 ld_32 st_32 al_32 ld_33 st_33 al_33 ld_34 st_34 al_34 fa_34_0 fd_34_0 fa_34_1 fd_34_1 bl_34
attribute [go_sem] ld_35 st_35 al_35 fa_35_0 fd_35_0 fa_35_1 fd_35_1 bl_35 ld_36 st_36 al_36 ld_37 st_37 al_37 fa_37_0 fd_37_0 fa_37_1 fd_37_1 bl_37 ld_38 st_38 al_38 ld_39 st_39 al_39 ld_40 st_40 al_40 ld_41 st_41 al_41 ld_42 st_42 al_42 len_42 cp_42 ix_42 sli_42 bs_42 mk_42 ap_42 ld_43 st_43 al_43 ld_44 st_44 al_44 ld_45 st_45 al_45 ld_46 st_46 al_46 ld_47 st_47 al_47 ld_48 st_48 al_48 ld_49
attribute [go_sem] st_49 al_49 ld_50 st_50 al_50 len_50 cp_50 ix_50 sli_50 bs_50 mk_50 ap_50 ld_51 st_51 al_51 ld_52 st_52 al_52 ld_53 st_53 al_53 ld_54 st_54 al_54 ld_55 st_55 al_55 ld_56 st_56 al_56 ld_57 st_57 al_57 len_57 cp_57 ix_57 sli_57 bs_57 mk_57 ap_57 ld_58 st_58 al_58 fa_58_0 fd_58_0 fa_58_1 fd_58_1 bl_58 ld_59 st_59 al_59 fa_59_0 fd_59_0 fa_59_1 fd_59_1 bl_59 ld_60 st_60 al_60 ld_61
attribute [go_sem] st_61 al_61 ld_62 st_62 al_62 ld_63 st_63 al_63 ld_64 st_64 al_64 len_64 cp_64 ix_64 sli_64 bs_64 mk_64 ap_64 ld_65 st_65 al_65 ld_66 st_66 al_66 ld_67 st_67 al_67 ld_68 st_68 al_68 ld_69 st_69 al_69 ld_70 st_70 al_70 len_70 cp_70 ix_70 sli_70 bs_70 mk_70 ap_70 ld_71 st_71 al_71 ld_72 st_72 al_72 ld_73 st_73 al_73 ld_74 st_74 al_74 ld_75 st_75 al_75 ld_76 st_76
attribute [go_sem] al_76 len_76 ix_76 bl_76 ld_77 st_77 al_77 ld_78 st_78 al_78 ld_79 st_79 al_79 fa_79_0 fd_79_0 fa_79_1 fd_79_1 bl_79 ld_80 st_80 al_80 fa_80_0 fd_80_0 fa_80_1 fd_80_1 bl_80 ld_81 st_81 al_81 len_81 ix_81 bl_81 ld_82 st_82 al_82 ld_83 st_83 al_83 ld_85 st_85 al_85 ld_86 st_86 al_86 ld_87 st_87 al_87 len_87 ix_87 bl_87 ld_88 st_88 al_88 ld_89 st_89 al_89 len_89 cp_89 ix_89 sli_89
attribute [go_sem] bs_89 mk_89 ap_89 ld_90 st_90 al_90 ld_91 st_91 al_91 ld_92 st_92 al_92 ld_93 st_93 al_93 ld_94 st_94 al_94 ld_95 st_95 al_95 ld_96 st_96 al_96 ld_97 st_97 al_97 ld_98 st_98 al_98 ld_99 st_99 al_99 ld_100 st_100 al_100 ld_101 st_101 al_101 ld_102 st_102 al_102 ld_103 st_103 al_103 ld_104 st_104 al_104 fa_104_0 fd_104_0 fa_104_1 fd_104_1 fa_104_2 fd_104_2 bl_104 ld_105 st_105 al_105 fa_105_0 fd_105_0
attribute [go_sem] fa_105_1 fd_105_1 fa_105_2 fd_105_2 bl_105 ld_107 st_107 al_107 ld_108 st_108 al_108 ld_109 st_109 al_109 ld_110 st_110 al_110 ld_111 st_111 al_111 ld_112 st_112 al_112 fa_112_0 fd_112_0 fa_112_1 fd_112_1 bl_112 ld_113 st_113 al_113 fa_113_0 fd_113_0 fa_113_1 fd_113_1 bl_113 ld_114 st_114 al_114 ld_115 st_115 al_115 ld_116 st_116 al_116 ld_117 st_117 al_117 ld_118 st_118 al_118 ld_119 st_119 al_119 ld_120 st_120 al_120 ld_121 st_121 al_121
attribute [go_sem] ld_122 st_122 al_122 ld_124 st_124 al_124 ld_125 st_125 al_125 ld_126 st_126 al_126 ld_127 st_127 al_127 ld_128 st_128 al_128 ld_129 st_129 al_129 ld_130 st_130 al_130 ld_131 st_131 al_131 ld_132 st_132 al_132 ld_133 st_133 al_133 ld_134 st_134 al_134 ld_136 st_136 al_136 ld_138 st_138 al_138 ld_139 st_139 al_139 ld_140 st_140 al_140 ld_141 st_141 al_141 ld_142 st_142 al_142 ld_143 st_143 al_143 ld_144 st_144 al_144
attribute [go_sem] ld_145 st_145 al_145 ld_146 st_146 al_146 ld_148 st_148 al_148 ld_149 st_149 al_149 ld_150 st_150 al_150 ld_151 st_151 al_151 ld_153 st_153 al_153 ld_154 st_154 al_154 ld_155 st_155 al_155 ld_156 st_156 al_156 ld_157 st_157 al_157 ld_158 st_158 al_158 ld_159 st_159 al_159 ld_160 st_160 al_160 ld_161 st_161 al_161 ld_162 st_162 al_162 ld_163 st_163 al_163 ld_164 st_164 al_164 ld_165 st_165 al_165 ld_166 st_166 al_166
attribute [go_sem] ld_167 st_167 al_167 ld_168 st_168 al_168 ld_169 st_169 al_169 ld_170 st_170 al_170 ld_171 st_171 al_171 ld_172 st_172 al_172 ld_173 st_173 al_173 ld_174 st_174 al_174 ld_175 st_175 al_175 ld_177 st_177 al_177 ld_178 st_178 al_178 ld_180 st_180 al_180 ld_181 st_181 al_181 ld_182 st_182 al_182 ld_188 st_188 al_188 ld_191 st_191 al_191 ld_192 st_192 al_192 cv_2_3 cv_2_5 cv_2_12 cv_2_21 cv_2_132 cv_2_145 cv_2_151 cv_2_158 cv_2_168
attribute [go_sem] cv_3_2 cv_3_5 cv_3_12 cv_3_21 cv_3_132 cv_3_145 cv_3_151 cv_3_158 cv_3_168 cv_5_2 cv_5_3 cv_5_12 cv_5_21 cv_5_132 cv_5_145 cv_5_151 cv_5_158 cv_5_168 cv_12_2 cv_12_3 cv_12_5 cv_12_21 cv_12_132 cv_12_145 cv_12_151 cv_12_158 cv_12_168 cv_21_2 cv_21_3 cv_21_5 cv_21_12 cv_21_132 cv_21_145 cv_21_151 cv_21_158 cv_21_168 cv_132_2 cv_132_3 cv_132_5 cv_132_12 cv_132_21 cv_132_145 cv_132_151 cv_132_158 cv_132_168 cv_145_2 cv_145_3 cv_145_5 cv_145_12 cv_145_21 cv_145_132 cv_145_151 cv_145_158 cv_145_168 cv_151_2 cv_151_3 cv_151_5 cv_151_12 cv_151_21 cv_151_132
attribute [go_sem] cv_151_145 cv_151_158 cv_151_168 cv_158_2 cv_158_3 cv_158_5 cv_158_12 cv_158_21 cv_158_132 cv_158_145 cv_158_151 cv_158_168 cv_168_2 cv_168_3 cv_168_5 cv_168_12 cv_168_21 cv_168_132 cv_168_145 cv_168_151 cv_168_158 be_4 bn_4 be_104 bn_104 be_105 bn_105 mode_3 mode_4 mode_5 mode_6 mode_7 mode_8 mode_9 mode_10 mode_11 mode_12 mode_13 mode_14 mode_15 mode_16 mode_17 mode_18 mode_19 mode_20 mode_21 mode_22 mode_23 mode_24 mode_25 mode_26 mode_27 mode_28 mode_29 mode_30 mode_31 mode_32 mode_33 mode_34 mode_35
attribute [go_sem] mode_36 mode_37 mode_38 mode_39 mode_40 mode_41 mode_42 mode_43 mode_44 mode_45 mode_46 mode_47 mode_48 mode_49 mode_50 mode_51 mode_52 mode_53 mode_54 mode_55 mode_56 mode_57 mode_58 mode_59 mode_60 mode_61 mode_62 mode_63 mode_64 mode_65 mode_66 mode_67 mode_68 mode_69 mode_70 mode_71 mode_72 mode_73 mode_74 mode_75 mode_76 mode_77 mode_78 mode_79 mode_80 mode_81 mode_82 mode_83 mode_84 mode_85 mode_86 mode_87 mode_88 mode_89 mode_90 mode_91 mode_92 mode_93 mode_94 mode_95
attribute [go_sem] mode_96 mode_97 mode_98 mode_99 mode_100 mode_101 mode_102 mode_103 mode_104 mode_105 mode_106 mode_107 mode_108 mode_109 mode_110 mode_111 mode_112 mode_113 mode_114 mode_115 mode_116 mode_117 mode_118 mode_119 mode_120 mode_121 mode_122 mode_123 mode_124 mode_125 mode_126 mode_127 mode_128 mode_129 mode_130 mode_131 mode_132 mode_133 mode_134 mode_135 mode_136 mode_137 mode_138 mode_139 mode_140 mode_141 mode_142 mode_143 mode_144 mode_145 mode_146 mode_147 mode_148 mode_149 mode_150 mode_151 mode_152 mode_153 mode_154 mode_155
attribute [go_sem] mode_156 mode_157 mode_158 mode_159 mode_160 mode_161 mode_162 mode_163 mode_164 mode_165 mode_166 mode_167 mode_168 mode_169 mode_170 mode_171 mode_172 mode_189 mode_190 mode_191 mode_192
end Go.Proofs.YtjccikgdebgebaaGreatDoor.Abs
end
