/-
  The facts of the loaded program that the proofs use: sizes and zero values of its types; its functions are in order. By a program of this work (gen.py). No conditions. Lists of digits to the base 10^9 and their values. No conditions.
-/
import Derived.Test.YtenhjccadhlgoaaGreatQ02
import Derived.Test.YtenhjccadhlgoaaGreatProg
import Derived.KernelRfl
set_option linter.unusedSimpArgs false
set_option linter.unusedVariables false
set_option maxRecDepth 100000
set_option maxHeartbeats 16000000
namespace Go.Proofs.YtenhjccadhlgoaaGreat.Abs
open Go
class SpC where
 spec : Nat → List AV → Option AV
def specL : List Nat := [18]
def topL : List Nat := [251, 33, 120, 29, 16, 37, 41, 100, 103, 227]
def inlL : List Nat := [152, 208, 209, 210, 211, 212, 213, 214, 215, 238, 241, 242, 250, 75, 240, 139, 47, 48, 14, 101, 230, 247, 175, 104, 105, 107, 106, 112, 113, 114]
def weakL : List Nat := [7, 8, 13, 14, 18, 19, 27, 38, 44, 45, 46, 47, 52, 53, 62, 63, 82, 83, 90, 91, 94, 95, 96, 98, 99, 100, 101, 140, 141, 167, 168, 255, 256, 257, 258, 259, 266, 267]
def strongL : List Nat := [63, 95]
noncomputable def X [SpC] : Ctx := { P := Tryz.prog, G := fun g => none, mode := fun f => if specL.contains f then .spec (SpC.spec f) else if topL.contains f then .top else if inlL.contains f then .inl else .ro, weakZ := fun t => weakL.contains t, strongA := fun t => strongL.contains t }
theorem mixed [SpC] : X.P.follows .mixedOrders = true := by kernel_rfl
theorem und_2 [SpC] : X.P.underlying 2 = some (.int .i64) := Tryz.underlying2
theorem size_3 [SpC] : sizeA X 3 = some 1 := by kernel_rfl
theorem shape_3 [SpC] : shapeA X 3 = some (false, 1) := by kernel_rfl
theorem zero_3 [SpC] : zeroA X 3 = some (.int .i64 0) := by kernel_rfl
theorem sb_3 [SpC] : sbA X 3 = some (1, 8) := by kernel_rfl
theorem und_3 [SpC] : X.P.underlying 3 = some (.int .i64) := Tryz.underlying3
theorem size_4 [SpC] : sizeA X 4 = some 1 := by kernel_rfl
theorem shape_4 [SpC] : shapeA X 4 = some (false, 1) := by kernel_rfl
theorem zero_4 [SpC] : zeroA X 4 = some (.bool false) := by kernel_rfl
theorem sb_4 [SpC] : sbA X 4 = some (1, 1) := by kernel_rfl
theorem und_4 [SpC] : X.P.underlying 4 = some (.bool) := Tryz.underlying4
theorem und_5 [SpC] : X.P.underlying 5 = some (.int .u8) := Tryz.underlying5
theorem und_12 [SpC] : X.P.underlying 12 = some (.int .u64) := Tryz.underlying12
noncomputable def flds_13 : Array Field := match Tryz.prog.underlying 13 with | some (.struct f) => f | _ => #[]
theorem und_21 [SpC] : X.P.underlying 21 = some (.int .i32) := Tryz.underlying21
theorem size_22 [SpC] : sizeA X 22 = some 1 := by kernel_rfl
theorem shape_22 [SpC] : shapeA X 22 = some (false, 1) := by kernel_rfl
theorem und_22 [SpC] : X.P.underlying 22 = some (.slice 3) := Tryz.underlying22
theorem size_23 [SpC] : sizeA X 23 = some 1 := by kernel_rfl
theorem shape_23 [SpC] : shapeA X 23 = some (false, 1) := by kernel_rfl
theorem und_23 [SpC] : X.P.underlying 23 = some (.slice 101) := Tryz.underlying23
theorem size_24 [SpC] : sizeA X 24 = some 1 := by kernel_rfl
theorem shape_24 [SpC] : shapeA X 24 = some (false, 1) := by kernel_rfl
theorem und_24 [SpC] : X.P.underlying 24 = some (.slice 63) := Tryz.underlying24
theorem size_25 [SpC] : sizeA X 25 = some 1 := by kernel_rfl
theorem shape_25 [SpC] : shapeA X 25 = some (false, 1) := by kernel_rfl
theorem und_25 [SpC] : X.P.underlying 25 = some (.slice 95) := Tryz.underlying25
theorem size_26 [SpC] : sizeA X 26 = some 1 := by kernel_rfl
theorem shape_26 [SpC] : shapeA X 26 = some (false, 1) := by kernel_rfl
theorem und_26 [SpC] : X.P.underlying 26 = some (.slice 96) := Tryz.underlying26
noncomputable def flds_27 : Array Field := match Tryz.prog.underlying 27 with | some (.struct f) => f | _ => #[]
theorem size_28 [SpC] : sizeA X 28 = some 4 := by kernel_rfl
theorem shape_28 [SpC] : shapeA X 28 = some (true, 4) := by kernel_rfl
theorem zero_28 [SpC] : zeroA X 28 = some (.agg [.ro [] 0 true, .ro [] 0 true, .ro [] 0 true, .ro [] 0 true]) := by kernel_rfl
theorem sb_28 [SpC] : sbA X 28 = some (4, 96) := by kernel_rfl
theorem und_28 [SpC] : X.P.underlying 28 = some (.struct flds_27) := by kernel_rfl
theorem und_31 [SpC] : X.P.underlying 31 = some (.slice 28) := Tryz.underlying31
theorem und_32 [SpC] : X.P.underlying 32 = some (.int .i64) := Tryz.underlying32
theorem size_36 [SpC] : sizeA X 36 = some 1 := by kernel_rfl
theorem shape_36 [SpC] : shapeA X 36 = some (false, 1) := by kernel_rfl
theorem und_36 [SpC] : X.P.underlying 36 = some (.slice 47) := Tryz.underlying36
theorem size_37 [SpC] : sizeA X 37 = some 1 := by kernel_rfl
theorem shape_37 [SpC] : shapeA X 37 = some (false, 1) := by kernel_rfl
theorem und_37 [SpC] : X.P.underlying 37 = some (.slice 4) := Tryz.underlying37
noncomputable def flds_38 : Array Field := match Tryz.prog.underlying 38 with | some (.struct f) => f | _ => #[]
theorem size_39 [SpC] : sizeA X 39 = some 4 := by kernel_rfl
theorem shape_39 [SpC] : shapeA X 39 = some (true, 4) := by kernel_rfl
theorem zero_39 [SpC] : zeroA X 39 = some (.agg [.int .i64 0, .ro [] 0 true, .ro [] 0 true, .ro [] 0 true]) := by kernel_rfl
theorem und_39 [SpC] : X.P.underlying 39 = some (.struct flds_38) := by kernel_rfl
noncomputable def flds_44 : Array Field := match Tryz.prog.underlying 44 with | some (.struct f) => f | _ => #[]
theorem size_45 [SpC] : sizeA X 45 = some 2 := by kernel_rfl
theorem shape_45 [SpC] : shapeA X 45 = some (true, 2) := by kernel_rfl
theorem zero_45 [SpC] : zeroA X 45 = some (.agg [.bool false, .ro [] 0 false]) := by kernel_rfl
theorem und_45 [SpC] : X.P.underlying 45 = some (.struct flds_44) := by kernel_rfl
noncomputable def flds_46 : Array Field := match Tryz.prog.underlying 46 with | some (.struct f) => f | _ => #[]
theorem size_47 [SpC] : sizeA X 47 = some 4 := by kernel_rfl
theorem shape_47 [SpC] : shapeA X 47 = some (true, 4) := by kernel_rfl
theorem zero_47 [SpC] : zeroA X 47 = some (.agg [.bool false, .ro [] 0 false, .bool false, .ro [] 0 false]) := by kernel_rfl
theorem sb_47 [SpC] : sbA X 47 = some (4, 64) := by kernel_rfl
theorem und_47 [SpC] : X.P.underlying 47 = some (.struct flds_46) := by kernel_rfl
noncomputable def flds_52 : Array Field := match Tryz.prog.underlying 52 with | some (.struct f) => f | _ => #[]
theorem size_53 [SpC] : sizeA X 53 = some 8 := by kernel_rfl
theorem shape_53 [SpC] : shapeA X 53 = some (true, 8) := by kernel_rfl
theorem zero_53 [SpC] : zeroA X 53 = some (.agg [.bool false, .ro [] 0 false, .bool false, .ro [] 0 false, .bool false, .ro [] 0 false, .bool false, .ro [] 0 false]) := by kernel_rfl
theorem und_53 [SpC] : X.P.underlying 53 = some (.struct flds_52) := by kernel_rfl
theorem size_60 [SpC] : sizeA X 60 = some 1 := by kernel_rfl
theorem shape_60 [SpC] : shapeA X 60 = some (false, 1) := by kernel_rfl
theorem und_60 [SpC] : X.P.underlying 60 = some (.slice 83) := Tryz.underlying60
theorem size_61 [SpC] : sizeA X 61 = some 1 := by kernel_rfl
theorem shape_61 [SpC] : shapeA X 61 = some (false, 1) := by kernel_rfl
theorem und_61 [SpC] : X.P.underlying 61 = some (.slice 99) := Tryz.underlying61
noncomputable def flds_62 : Array Field := match Tryz.prog.underlying 62 with | some (.struct f) => f | _ => #[]
theorem size_63 [SpC] : sizeA X 63 = some 18 := by kernel_rfl
theorem shape_63 [SpC] : shapeA X 63 = some (true, 18) := by kernel_rfl
theorem zero_63 [SpC] : zeroA X 63 = some (.agg [.ro [] 0 false, .bool false, .ro [] 0 false, .bool false, .ro [] 0 false, .bool false, .ro [] 0 false, .bool false, .ro [] 0 false, .ro [] 0 false, .bool false, .ro [] 0 false, .bool false, .ro [] 0 false, .bool false, .ro [] 0 false, .bool false, .ro [] 0 false]) := by kernel_rfl
theorem sb_63 [SpC] : sbA X 63 = some (18, 304) := by kernel_rfl
theorem und_63 [SpC] : X.P.underlying 63 = some (.struct flds_62) := by kernel_rfl
noncomputable def flds_82 : Array Field := match Tryz.prog.underlying 82 with | some (.struct f) => f | _ => #[]
theorem size_83 [SpC] : sizeA X 83 = some 2 := by kernel_rfl
theorem shape_83 [SpC] : shapeA X 83 = some (true, 2) := by kernel_rfl
theorem zero_83 [SpC] : zeroA X 83 = some (.agg [.int .i64 0, .int .i64 0]) := by kernel_rfl
theorem sb_83 [SpC] : sbA X 83 = some (2, 16) := by kernel_rfl
theorem und_83 [SpC] : X.P.underlying 83 = some (.struct flds_82) := by kernel_rfl
noncomputable def flds_90 : Array Field := match Tryz.prog.underlying 90 with | some (.struct f) => f | _ => #[]
theorem size_91 [SpC] : sizeA X 91 = some 3 := by kernel_rfl
theorem shape_91 [SpC] : shapeA X 91 = some (true, 3) := by kernel_rfl
theorem zero_91 [SpC] : zeroA X 91 = some (.agg [.int .i64 0, .int .i64 0, .int .i64 0]) := by kernel_rfl
theorem und_91 [SpC] : X.P.underlying 91 = some (.struct flds_90) := by kernel_rfl
theorem size_92 [SpC] : sizeA X 92 = some 1 := by kernel_rfl
theorem shape_92 [SpC] : shapeA X 92 = some (false, 1) := by kernel_rfl
theorem und_92 [SpC] : X.P.underlying 92 = some (.slice 91) := Tryz.underlying92
noncomputable def flds_94 : Array Field := match Tryz.prog.underlying 94 with | some (.struct f) => f | _ => #[]
theorem size_95 [SpC] : sizeA X 95 = some 23 := by kernel_rfl
theorem shape_95 [SpC] : shapeA X 95 = some (true, 23) := by kernel_rfl
theorem zero_95 [SpC] : zeroA X 95 = some (.agg [.int .i64 0, .int .i64 0, .bool false, .ro [] 0 false, .bool false, .ro [] 0 false, .bool false, .ro [] 0 false, .bool false, .ro [] 0 false, .bool false, .ro [] 0 false, .bool false, .ro [] 0 false, .bool false, .ro [] 0 false, .bool false, .ro [] 0 false, .ro [] 0 false, .bool false, .ro [] 0 false, .bool false, .ro [] 0 false]) := by kernel_rfl
theorem sb_95 [SpC] : sbA X 95 = some (23, 360) := by kernel_rfl
theorem und_95 [SpC] : X.P.underlying 95 = some (.struct flds_94) := by kernel_rfl
theorem size_96 [SpC] : sizeA X 96 = some 2 := by kernel_rfl
theorem shape_96 [SpC] : shapeA X 96 = some (true, 2) := by kernel_rfl
theorem zero_96 [SpC] : zeroA X 96 = some (.agg [.int .i64 0, .int .i64 0]) := by kernel_rfl
theorem sb_96 [SpC] : sbA X 96 = some (2, 16) := by kernel_rfl
theorem und_96 [SpC] : X.P.underlying 96 = some (.array 2 3) := Tryz.underlying96
noncomputable def flds_98 : Array Field := match Tryz.prog.underlying 98 with | some (.struct f) => f | _ => #[]
theorem size_99 [SpC] : sizeA X 99 = some 13 := by kernel_rfl
theorem shape_99 [SpC] : shapeA X 99 = some (true, 13) := by kernel_rfl
theorem zero_99 [SpC] : zeroA X 99 = some (.agg [.int .i64 0, .bool false, .ro [] 0 false, .bool false, .ro [] 0 false, .bool false, .ro [] 0 false, .bool false, .ro [] 0 false, .bool false, .ro [] 0 false, .bool false, .ro [] 0 false]) := by kernel_rfl
theorem sb_99 [SpC] : sbA X 99 = some (13, 200) := by kernel_rfl
theorem und_99 [SpC] : X.P.underlying 99 = some (.struct flds_98) := by kernel_rfl
noncomputable def flds_100 : Array Field := match Tryz.prog.underlying 100 with | some (.struct f) => f | _ => #[]
theorem size_101 [SpC] : sizeA X 101 = some 17 := by kernel_rfl
theorem shape_101 [SpC] : shapeA X 101 = some (true, 17) := by kernel_rfl
theorem zero_101 [SpC] : zeroA X 101 = some (.agg [.bool false, .ro [] 0 false, .bool false, .ro [] 0 false, .bool false, .ro [] 0 false, .bool false, .ro [] 0 false, .bool false, .bool false, .ro [] 0 false, .bool false, .ro [] 0 false, .bool false, .ro [] 0 false, .bool false, .ro [] 0 false]) := by kernel_rfl
theorem sb_101 [SpC] : sbA X 101 = some (17, 264) := by kernel_rfl
theorem und_101 [SpC] : X.P.underlying 101 = some (.struct flds_100) := by kernel_rfl
theorem size_115 [SpC] : sizeA X 115 = some 1 := by kernel_rfl
theorem shape_115 [SpC] : shapeA X 115 = some (false, 1) := by kernel_rfl
theorem zero_115 [SpC] : zeroA X 115 = some (.ro [] 0 true) := by kernel_rfl
theorem und_115 [SpC] : X.P.underlying 115 = some (.slice 168) := Tryz.underlying115
theorem und_119 [SpC] : X.P.underlying 119 = some (.map 96 4) := Tryz.underlying119
noncomputable def flds_167 : Array Field := match Tryz.prog.underlying 167 with | some (.struct f) => f | _ => #[]
theorem size_168 [SpC] : sizeA X 168 = some 4 := by kernel_rfl
theorem shape_168 [SpC] : shapeA X 168 = some (true, 4) := by kernel_rfl
theorem zero_168 [SpC] : zeroA X 168 = some (.agg [.int .i64 0, .int .i64 0, .int .i64 0, .int .i64 0]) := by kernel_rfl
theorem sb_168 [SpC] : sbA X 168 = some (4, 32) := by kernel_rfl
theorem und_168 [SpC] : X.P.underlying 168 = some (.struct flds_167) := by kernel_rfl
theorem und_181 [SpC] : X.P.underlying 181 = some (.int .u64) := Tryz.underlying181
theorem und_189 [SpC] : X.P.underlying 189 = some (.int .u64) := Tryz.underlying189
theorem und_216 [SpC] : X.P.underlying 216 = some (.int .i64) := Tryz.underlying216
theorem und_223 [SpC] : X.P.underlying 223 = some (.int .u32) := Tryz.underlying223
theorem und_240 [SpC] : X.P.underlying 240 = some (.int .u64) := Tryz.underlying240
theorem ld_3 [SpC] (h : Heap) (p : AV) : aLoad X h 3 p = ld1 (cellsAt h p) := ld_leaf shape_3 h p
theorem st_3 [SpC] (h : Heap) (p v : AV) : aStore X h 3 p v = stS 1 h p v := st_type size_3 h p v
theorem ld_4 [SpC] (h : Heap) (p : AV) : aLoad X h 4 p = ld1 (cellsAt h p) := ld_leaf shape_4 h p
theorem st_4 [SpC] (h : Heap) (p v : AV) : aStore X h 4 p v = stS 1 h p v := st_type size_4 h p v
theorem ld_22 [SpC] (h : Heap) (p : AV) : aLoad X h 22 p = ld1 (cellsAt h p) := ld_leaf shape_22 h p
theorem len_22 [SpC] (x : AV) : lenA X 22 x = lenS x := len_slice und_22 x
theorem cp_22 [SpC] (h : Heap) (t' : Nat) (d x : AV) : aCopy X h #[22, t'] d x = nx (srcCells h 1 x) fun y => cpD 1 h y.1 y.2.1 y.2.2 d := cp_slice und_22 size_3 h t' d x
theorem ix_22 [SpC] (x : AV) (k : IntKind) (n : Int) : aIndexAddr X 22 x (.int k n) = ixS 1 x n := ix_slice und_22 size_3 x k n
theorem sli_22 [SpC] (x : AV) (lo hi mx : Option AV) : aSlice X 22 x lo hi mx = sliS 1 x lo hi mx := sli_slice und_22 size_3 x lo hi mx
theorem bs_22 [SpC] (id len : Nat) (hn : len * 1 ≤ 2 ^ 24) (ps : List (Nat × AV)) : aBuildSlice X id 22 len ps = bsS id len 1 [.int .i64 0] ps := bs_slice und_22 size_3 zero_3 rfl rfl rfl id len hn ps
theorem mk_22 [SpC] (id : Nat) (l c : AV) : aMakeSlice X id 22 l c = mkS id 1 8 [.int .i64 0] l c := mk_slice und_22 sb_3 zero_3 rfl rfl rfl id l c
theorem ap_22 [SpC] (h : Heap) (id : Nat) (a x : AV) : aAppend X h id #[22, 22] a x = apS 1 8 h id a x := ap_slice und_22 und_22 rfl sb_3 zero_3 rfl rfl rfl h id a x
theorem ld_23 [SpC] (h : Heap) (p : AV) : aLoad X h 23 p = ld1 (cellsAt h p) := ld_leaf shape_23 h p
theorem st_23 [SpC] (h : Heap) (p v : AV) : aStore X h 23 p v = stS 1 h p v := st_type size_23 h p v
theorem len_23 [SpC] (x : AV) : lenA X 23 x = lenS x := len_slice und_23 x
theorem ix_23 [SpC] (x : AV) (k : IntKind) (n : Int) : aIndexAddr X 23 x (.int k n) = ixS 17 x n := ix_slice und_23 size_101 x k n
theorem bs_23 [SpC] (id len : Nat) (hn : len * 17 ≤ 2 ^ 24) (ps : List (Nat × AV)) : aBuildSlice X id 23 len ps = bsS id len 17 [.bool false, .ro [] 0 false, .bool false, .ro [] 0 false, .bool false, .ro [] 0 false, .bool false, .ro [] 0 false, .bool false, .bool false, .ro [] 0 false, .bool false, .ro [] 0 false, .bool false, .ro [] 0 false, .bool false, .ro [] 0 false] ps := bs_slice und_23 size_101 zero_101 rfl rfl rfl id len hn ps
theorem ap_23 [SpC] (h : Heap) (id : Nat) (a x : AV) : aAppend X h id #[23, 23] a x = apS 17 264 h id a x := ap_slice und_23 und_23 rfl sb_101 zero_101 rfl rfl rfl h id a x
theorem ld_24 [SpC] (h : Heap) (p : AV) : aLoad X h 24 p = ld1 (cellsAt h p) := ld_leaf shape_24 h p
theorem st_24 [SpC] (h : Heap) (p v : AV) : aStore X h 24 p v = stS 1 h p v := st_type size_24 h p v
theorem len_24 [SpC] (x : AV) : lenA X 24 x = lenS x := len_slice und_24 x
theorem ix_24 [SpC] (x : AV) (k : IntKind) (n : Int) : aIndexAddr X 24 x (.int k n) = ixS 18 x n := ix_slice und_24 size_63 x k n
theorem bs_24 [SpC] (id len : Nat) (hn : len * 18 ≤ 2 ^ 24) (ps : List (Nat × AV)) : aBuildSlice X id 24 len ps = bsS id len 18 [.ro [] 0 false, .bool false, .ro [] 0 false, .bool false, .ro [] 0 false, .bool false, .ro [] 0 false, .bool false, .ro [] 0 false, .ro [] 0 false, .bool false, .ro [] 0 false, .bool false, .ro [] 0 false, .bool false, .ro [] 0 false, .bool false, .ro [] 0 false] ps := bs_slice und_24 size_63 zero_63 rfl rfl rfl id len hn ps
theorem ap_24 [SpC] (h : Heap) (id : Nat) (a x : AV) : aAppend X h id #[24, 24] a x = apS 18 304 h id a x := ap_slice und_24 und_24 rfl sb_63 zero_63 rfl rfl rfl h id a x
theorem ld_25 [SpC] (h : Heap) (p : AV) : aLoad X h 25 p = ld1 (cellsAt h p) := ld_leaf shape_25 h p
theorem st_25 [SpC] (h : Heap) (p v : AV) : aStore X h 25 p v = stS 1 h p v := st_type size_25 h p v
theorem len_25 [SpC] (x : AV) : lenA X 25 x = lenS x := len_slice und_25 x
theorem ix_25 [SpC] (x : AV) (k : IntKind) (n : Int) : aIndexAddr X 25 x (.int k n) = ixS 23 x n := ix_slice und_25 size_95 x k n
theorem bs_25 [SpC] (id len : Nat) (hn : len * 23 ≤ 2 ^ 24) (ps : List (Nat × AV)) : aBuildSlice X id 25 len ps = bsS id len 23 [.int .i64 0, .int .i64 0, .bool false, .ro [] 0 false, .bool false, .ro [] 0 false, .bool false, .ro [] 0 false, .bool false, .ro [] 0 false, .bool false, .ro [] 0 false, .bool false, .ro [] 0 false, .bool false, .ro [] 0 false, .bool false, .ro [] 0 false, .ro [] 0 false, .bool false, .ro [] 0 false, .bool false, .ro [] 0 false] ps := bs_slice und_25 size_95 zero_95 rfl rfl rfl id len hn ps
theorem ap_25 [SpC] (h : Heap) (id : Nat) (a x : AV) : aAppend X h id #[25, 25] a x = apS 23 360 h id a x := ap_slice und_25 und_25 rfl sb_95 zero_95 rfl rfl rfl h id a x
theorem ld_26 [SpC] (h : Heap) (p : AV) : aLoad X h 26 p = ld1 (cellsAt h p) := ld_leaf shape_26 h p
theorem st_26 [SpC] (h : Heap) (p v : AV) : aStore X h 26 p v = stS 1 h p v := st_type size_26 h p v
theorem len_26 [SpC] (x : AV) : lenA X 26 x = lenS x := len_slice und_26 x
theorem ix_26 [SpC] (x : AV) (k : IntKind) (n : Int) : aIndexAddr X 26 x (.int k n) = ixS 2 x n := ix_slice und_26 size_96 x k n
theorem bs_26 [SpC] (id len : Nat) (hn : len * 2 ≤ 2 ^ 24) (ps : List (Nat × AV)) : aBuildSlice X id 26 len ps = bsS id len 2 [.int .i64 0, .int .i64 0] ps := bs_slice und_26 size_96 zero_96 rfl rfl rfl id len hn ps
theorem ap_26 [SpC] (h : Heap) (id : Nat) (a x : AV) : aAppend X h id #[26, 26] a x = apS 2 16 h id a x := ap_slice und_26 und_26 rfl sb_96 zero_96 rfl rfl rfl h id a x
theorem ld_28 [SpC] (h : Heap) (p : AV) : aLoad X h 28 p = ldn 4 (cellsAt h p) := ld_agg shape_28 h p
theorem st_28 [SpC] (h : Heap) (p v : AV) : aStore X h 28 p v = stS 4 h p v := st_type size_28 h p v
theorem al_28 [SpC] (id : Nat) : aAlloc X id 28 = some (.loc ⟨.ptr id 0, [], [(id, some (.cells [.ro [] 0 true, .ro [] 0 true, .ro [] 0 true, .ro [] 0 true] false false))]⟩) := al_type (zeroN_of rfl zero_28) rfl rfl id
theorem fa_28_0 [SpC] (p : AV) : aFieldAddr X 28 p 0 = faS 0 p := fa_fieldN und_28 (by kernel_rfl) size_23 p
theorem fa_28_1 [SpC] (p : AV) : aFieldAddr X 28 p 1 = faS 1 p := fa_fieldN und_28 (by kernel_rfl) size_24 p
theorem fa_28_2 [SpC] (p : AV) : aFieldAddr X 28 p 2 = faS 2 p := fa_fieldN und_28 (by kernel_rfl) size_25 p
theorem fa_28_3 [SpC] (p : AV) : aFieldAddr X 28 p 3 = faS 3 p := fa_fieldN und_28 (by kernel_rfl) size_26 p
theorem pl_28 [SpC] : fieldPlaces X flds_27.toList = some [(0, 1), (1, 1), (2, 1), (3, 1)] := by kernel_rfl
theorem bl_28 [SpC] (ps : List (Nat × AV)) : aBuild X 28 ps = blS (plOf [(0, 1), (1, 1), (2, 1), (3, 1)]) [.ro [] 0 true, .ro [] 0 true, .ro [] 0 true, .ro [] 0 true] ps := bl_struct zero_28 rfl rfl und_28 pl_28 ps
theorem len_31 [SpC] (x : AV) : lenA X 31 x = lenS x := len_slice und_31 x
theorem ix_31 [SpC] (x : AV) (k : IntKind) (n : Int) : aIndexAddr X 31 x (.int k n) = ixS 4 x n := ix_slice und_31 size_28 x k n
theorem bs_31 [SpC] (id len : Nat) (hn : len * 4 ≤ 2 ^ 24) (ps : List (Nat × AV)) : aBuildSlice X id 31 len ps = bsS id len 4 [.ro [] 0 true, .ro [] 0 true, .ro [] 0 true, .ro [] 0 true] ps := bs_slice und_31 size_28 zero_28 rfl rfl rfl id len hn ps
theorem ap_31 [SpC] (h : Heap) (id : Nat) (a x : AV) : aAppend X h id #[31, 31] a x = apS 4 96 h id a x := ap_slice und_31 und_31 rfl sb_28 zero_28 rfl rfl rfl h id a x
theorem ld_36 [SpC] (h : Heap) (p : AV) : aLoad X h 36 p = ld1 (cellsAt h p) := ld_leaf shape_36 h p
theorem st_36 [SpC] (h : Heap) (p v : AV) : aStore X h 36 p v = stS 1 h p v := st_type size_36 h p v
theorem len_36 [SpC] (x : AV) : lenA X 36 x = lenS x := len_slice und_36 x
theorem ix_36 [SpC] (x : AV) (k : IntKind) (n : Int) : aIndexAddr X 36 x (.int k n) = ixS 4 x n := ix_slice und_36 size_47 x k n
theorem bs_36 [SpC] (id len : Nat) (hn : len * 4 ≤ 2 ^ 24) (ps : List (Nat × AV)) : aBuildSlice X id 36 len ps = bsS id len 4 [.bool false, .ro [] 0 false, .bool false, .ro [] 0 false] ps := bs_slice und_36 size_47 zero_47 rfl rfl rfl id len hn ps
theorem mk_36 [SpC] (id : Nat) (l c : AV) : aMakeSlice X id 36 l c = mkS id 4 64 [.bool false, .ro [] 0 false, .bool false, .ro [] 0 false] l c := mk_slice und_36 sb_47 zero_47 rfl rfl rfl id l c
theorem ap_36 [SpC] (h : Heap) (id : Nat) (a x : AV) : aAppend X h id #[36, 36] a x = apS 4 64 h id a x := ap_slice und_36 und_36 rfl sb_47 zero_47 rfl rfl rfl h id a x
theorem ld_37 [SpC] (h : Heap) (p : AV) : aLoad X h 37 p = ld1 (cellsAt h p) := ld_leaf shape_37 h p
theorem st_37 [SpC] (h : Heap) (p v : AV) : aStore X h 37 p v = stS 1 h p v := st_type size_37 h p v
theorem len_37 [SpC] (x : AV) : lenA X 37 x = lenS x := len_slice und_37 x
theorem cp_37 [SpC] (h : Heap) (t' : Nat) (d x : AV) : aCopy X h #[37, t'] d x = nx (srcCells h 1 x) fun y => cpD 1 h y.1 y.2.1 y.2.2 d := cp_slice und_37 size_4 h t' d x
theorem ix_37 [SpC] (x : AV) (k : IntKind) (n : Int) : aIndexAddr X 37 x (.int k n) = ixS 1 x n := ix_slice und_37 size_4 x k n
theorem sli_37 [SpC] (x : AV) (lo hi mx : Option AV) : aSlice X 37 x lo hi mx = sliS 1 x lo hi mx := sli_slice und_37 size_4 x lo hi mx
theorem bs_37 [SpC] (id len : Nat) (hn : len * 1 ≤ 2 ^ 24) (ps : List (Nat × AV)) : aBuildSlice X id 37 len ps = bsS id len 1 [.bool false] ps := bs_slice und_37 size_4 zero_4 rfl rfl rfl id len hn ps
theorem mk_37 [SpC] (id : Nat) (l c : AV) : aMakeSlice X id 37 l c = mkS id 1 1 [.bool false] l c := mk_slice und_37 sb_4 zero_4 rfl rfl rfl id l c
theorem ap_37 [SpC] (h : Heap) (id : Nat) (a x : AV) : aAppend X h id #[37, 37] a x = apS 1 1 h id a x := ap_slice und_37 und_37 rfl sb_4 zero_4 rfl rfl rfl h id a x
theorem ld_39 [SpC] (h : Heap) (p : AV) : aLoad X h 39 p = ldn 4 (cellsAt h p) := ld_agg shape_39 h p
theorem st_39 [SpC] (h : Heap) (p v : AV) : aStore X h 39 p v = stS 4 h p v := st_type size_39 h p v
theorem al_39 [SpC] (id : Nat) : aAlloc X id 39 = some (.loc ⟨.ptr id 0, [], [(id, some (.cells [.int .i64 0, .ro [] 0 true, .ro [] 0 true, .ro [] 0 true] false false))]⟩) := al_type (zeroN_of rfl zero_39) rfl rfl id
theorem fa_39_0 [SpC] (p : AV) : aFieldAddr X 39 p 0 = faS 0 p := fa_fieldN und_39 (by kernel_rfl) size_3 p
theorem fa_39_1 [SpC] (p : AV) : aFieldAddr X 39 p 1 = faS 1 p := fa_fieldN und_39 (by kernel_rfl) size_36 p
theorem fa_39_2 [SpC] (p : AV) : aFieldAddr X 39 p 2 = faS 2 p := fa_fieldN und_39 (by kernel_rfl) size_36 p
theorem fa_39_3 [SpC] (p : AV) : aFieldAddr X 39 p 3 = faS 3 p := fa_fieldN und_39 (by kernel_rfl) size_37 p
theorem pl_39 [SpC] : fieldPlaces X flds_38.toList = some [(0, 1), (1, 1), (2, 1), (3, 1)] := by kernel_rfl
theorem bl_39 [SpC] (ps : List (Nat × AV)) : aBuild X 39 ps = blS (plOf [(0, 1), (1, 1), (2, 1), (3, 1)]) [.int .i64 0, .ro [] 0 true, .ro [] 0 true, .ro [] 0 true] ps := bl_struct zero_39 rfl rfl und_39 pl_39 ps
theorem ld_45 [SpC] (h : Heap) (p : AV) : aLoad X h 45 p = ldn 2 (cellsAt h p) := ld_agg shape_45 h p
theorem st_45 [SpC] (h : Heap) (p v : AV) : aStore X h 45 p v = stS 2 h p v := st_type size_45 h p v
theorem al_45 [SpC] (id : Nat) : aAlloc X id 45 = some (.loc ⟨.ptr id 0, [], [(id, some (.cells [.bool false, .ro [] 0 false] false false))]⟩) := al_type (zeroN_of rfl zero_45) rfl rfl id
theorem fa_45_0 [SpC] (p : AV) : aFieldAddr X 45 p 0 = faS 0 p := fa_fieldN und_45 (by kernel_rfl) size_4 p
theorem fa_45_1 [SpC] (p : AV) : aFieldAddr X 45 p 1 = faS 1 p := fa_fieldN und_45 (by kernel_rfl) size_22 p
theorem pl_45 [SpC] : fieldPlaces X flds_44.toList = some [(0, 1), (1, 1)] := by kernel_rfl
theorem bl_45 [SpC] (ps : List (Nat × AV)) : aBuild X 45 ps = blS (plOf [(0, 1), (1, 1)]) [.bool false, .ro [] 0 false] ps := bl_struct zero_45 rfl rfl und_45 pl_45 ps
theorem ld_47 [SpC] (h : Heap) (p : AV) : aLoad X h 47 p = ldn 4 (cellsAt h p) := ld_agg shape_47 h p
theorem st_47 [SpC] (h : Heap) (p v : AV) : aStore X h 47 p v = stS 4 h p v := st_type size_47 h p v
theorem al_47 [SpC] (id : Nat) : aAlloc X id 47 = some (.loc ⟨.ptr id 0, [], [(id, some (.cells [.bool false, .ro [] 0 false, .bool false, .ro [] 0 false] false false))]⟩) := al_type (zeroN_of rfl zero_47) rfl rfl id
theorem fa_47_0 [SpC] (p : AV) : aFieldAddr X 47 p 0 = faS 0 p := fa_fieldN und_47 (by kernel_rfl) size_45 p
theorem fa_47_1 [SpC] (p : AV) : aFieldAddr X 47 p 1 = faS 2 p := fa_fieldN und_47 (by kernel_rfl) size_45 p
theorem pl_47 [SpC] : fieldPlaces X flds_46.toList = some [(0, 2), (2, 2)] := by kernel_rfl
theorem bl_47 [SpC] (ps : List (Nat × AV)) : aBuild X 47 ps = blS (plOf [(0, 2), (2, 2)]) [.bool false, .ro [] 0 false, .bool false, .ro [] 0 false] ps := bl_struct zero_47 rfl rfl und_47 pl_47 ps
theorem ld_53 [SpC] (h : Heap) (p : AV) : aLoad X h 53 p = ldn 8 (cellsAt h p) := ld_agg shape_53 h p
theorem st_53 [SpC] (h : Heap) (p v : AV) : aStore X h 53 p v = stS 8 h p v := st_type size_53 h p v
theorem al_53 [SpC] (id : Nat) : aAlloc X id 53 = some (.loc ⟨.ptr id 0, [], [(id, some (.cells [.bool false, .ro [] 0 false, .bool false, .ro [] 0 false, .bool false, .ro [] 0 false, .bool false, .ro [] 0 false] false false))]⟩) := al_type (zeroN_of rfl zero_53) rfl rfl id
theorem fa_53_0 [SpC] (p : AV) : aFieldAddr X 53 p 0 = faS 0 p := fa_fieldN und_53 (by kernel_rfl) size_47 p
theorem fa_53_1 [SpC] (p : AV) : aFieldAddr X 53 p 1 = faS 4 p := fa_fieldN und_53 (by kernel_rfl) size_47 p
theorem pl_53 [SpC] : fieldPlaces X flds_52.toList = some [(0, 4), (4, 4)] := by kernel_rfl
theorem bl_53 [SpC] (ps : List (Nat × AV)) : aBuild X 53 ps = blS (plOf [(0, 4), (4, 4)]) [.bool false, .ro [] 0 false, .bool false, .ro [] 0 false, .bool false, .ro [] 0 false, .bool false, .ro [] 0 false] ps := bl_struct zero_53 rfl rfl und_53 pl_53 ps
theorem ld_60 [SpC] (h : Heap) (p : AV) : aLoad X h 60 p = ld1 (cellsAt h p) := ld_leaf shape_60 h p
theorem st_60 [SpC] (h : Heap) (p v : AV) : aStore X h 60 p v = stS 1 h p v := st_type size_60 h p v
theorem len_60 [SpC] (x : AV) : lenA X 60 x = lenS x := len_slice und_60 x
theorem ix_60 [SpC] (x : AV) (k : IntKind) (n : Int) : aIndexAddr X 60 x (.int k n) = ixS 2 x n := ix_slice und_60 size_83 x k n
theorem sli_60 [SpC] (x : AV) (lo hi mx : Option AV) : aSlice X 60 x lo hi mx = sliS 2 x lo hi mx := sli_slice und_60 size_83 x lo hi mx
theorem bs_60 [SpC] (id len : Nat) (hn : len * 2 ≤ 2 ^ 24) (ps : List (Nat × AV)) : aBuildSlice X id 60 len ps = bsS id len 2 [.int .i64 0, .int .i64 0] ps := bs_slice und_60 size_83 zero_83 rfl rfl rfl id len hn ps
theorem ap_60 [SpC] (h : Heap) (id : Nat) (a x : AV) : aAppend X h id #[60, 60] a x = apS 2 16 h id a x := ap_slice und_60 und_60 rfl sb_83 zero_83 rfl rfl rfl h id a x
theorem ld_61 [SpC] (h : Heap) (p : AV) : aLoad X h 61 p = ld1 (cellsAt h p) := ld_leaf shape_61 h p
theorem st_61 [SpC] (h : Heap) (p v : AV) : aStore X h 61 p v = stS 1 h p v := st_type size_61 h p v
theorem len_61 [SpC] (x : AV) : lenA X 61 x = lenS x := len_slice und_61 x
theorem ix_61 [SpC] (x : AV) (k : IntKind) (n : Int) : aIndexAddr X 61 x (.int k n) = ixS 13 x n := ix_slice und_61 size_99 x k n
theorem bs_61 [SpC] (id len : Nat) (hn : len * 13 ≤ 2 ^ 24) (ps : List (Nat × AV)) : aBuildSlice X id 61 len ps = bsS id len 13 [.int .i64 0, .bool false, .ro [] 0 false, .bool false, .ro [] 0 false, .bool false, .ro [] 0 false, .bool false, .ro [] 0 false, .bool false, .ro [] 0 false, .bool false, .ro [] 0 false] ps := bs_slice und_61 size_99 zero_99 rfl rfl rfl id len hn ps
theorem ap_61 [SpC] (h : Heap) (id : Nat) (a x : AV) : aAppend X h id #[61, 61] a x = apS 13 200 h id a x := ap_slice und_61 und_61 rfl sb_99 zero_99 rfl rfl rfl h id a x
theorem ld_63 [SpC] (h : Heap) (p : AV) : aLoad X h 63 p = ldn 18 (cellsAt h p) := ld_agg shape_63 h p
theorem st_63 [SpC] (h : Heap) (p v : AV) : aStore X h 63 p v = stS 18 h p v := st_type size_63 h p v
theorem zeroN_63 [SpC] : zeroN X 63 = some (.agg [.ro [] 0 true, .bool false, .ro [] 0 true, .bool false, .ro [] 0 true, .bool false, .ro [] 0 true, .bool false, .ro [] 0 true, .ro [] 0 true, .bool false, .ro [] 0 true, .bool false, .ro [] 0 true, .bool false, .ro [] 0 true, .bool false, .ro [] 0 true]) := by kernel_rfl
theorem al_63 [SpC] (id : Nat) : aAlloc X id 63 = some (.loc ⟨.ptr id 0, [], [(id, some (.cells [.ro [] 0 true, .bool false, .ro [] 0 true, .bool false, .ro [] 0 true, .bool false, .ro [] 0 true, .bool false, .ro [] 0 true, .ro [] 0 true, .bool false, .ro [] 0 true, .bool false, .ro [] 0 true, .bool false, .ro [] 0 true, .bool false, .ro [] 0 true] false false))]⟩) := al_type zeroN_63 rfl rfl id
theorem fa_63_0 [SpC] (p : AV) : aFieldAddr X 63 p 0 = faS 0 p := fa_fieldN und_63 (by kernel_rfl) size_60 p
theorem fa_63_1 [SpC] (p : AV) : aFieldAddr X 63 p 1 = faS 1 p := fa_fieldN und_63 (by kernel_rfl) size_53 p
theorem fa_63_2 [SpC] (p : AV) : aFieldAddr X 63 p 2 = faS 9 p := fa_fieldN und_63 (by kernel_rfl) size_61 p
theorem fa_63_3 [SpC] (p : AV) : aFieldAddr X 63 p 3 = faS 10 p := fa_fieldN und_63 (by kernel_rfl) size_47 p
theorem fa_63_4 [SpC] (p : AV) : aFieldAddr X 63 p 4 = faS 14 p := fa_fieldN und_63 (by kernel_rfl) size_47 p
theorem pl_63 [SpC] : fieldPlaces X flds_62.toList = some [(0, 1), (1, 8), (9, 1), (10, 4), (14, 4)] := by kernel_rfl
theorem bl_63 [SpC] (ps : List (Nat × AV)) : aBuild X 63 ps = blS (plOf [(0, 1), (1, 8), (9, 1), (10, 4), (14, 4)]) [.ro [] 0 false, .bool false, .ro [] 0 false, .bool false, .ro [] 0 false, .bool false, .ro [] 0 false, .bool false, .ro [] 0 false, .ro [] 0 false, .bool false, .ro [] 0 false, .bool false, .ro [] 0 false, .bool false, .ro [] 0 false, .bool false, .ro [] 0 false] ps := bl_struct zero_63 rfl rfl und_63 pl_63 ps
theorem ld_83 [SpC] (h : Heap) (p : AV) : aLoad X h 83 p = ldn 2 (cellsAt h p) := ld_agg shape_83 h p
theorem st_83 [SpC] (h : Heap) (p v : AV) : aStore X h 83 p v = stS 2 h p v := st_type size_83 h p v
theorem al_83 [SpC] (id : Nat) : aAlloc X id 83 = some (.loc ⟨.ptr id 0, [], [(id, some (.cells [.int .i64 0, .int .i64 0] false false))]⟩) := al_type (zeroN_of rfl zero_83) rfl rfl id
theorem fa_83_0 [SpC] (p : AV) : aFieldAddr X 83 p 0 = faS 0 p := fa_fieldN und_83 (by kernel_rfl) size_3 p
theorem fa_83_1 [SpC] (p : AV) : aFieldAddr X 83 p 1 = faS 1 p := fa_fieldN und_83 (by kernel_rfl) size_3 p
theorem pl_83 [SpC] : fieldPlaces X flds_82.toList = some [(0, 1), (1, 1)] := by kernel_rfl
theorem bl_83 [SpC] (ps : List (Nat × AV)) : aBuild X 83 ps = blS (plOf [(0, 1), (1, 1)]) [.int .i64 0, .int .i64 0] ps := bl_struct zero_83 rfl rfl und_83 pl_83 ps
theorem ld_91 [SpC] (h : Heap) (p : AV) : aLoad X h 91 p = ldn 3 (cellsAt h p) := ld_agg shape_91 h p
theorem st_91 [SpC] (h : Heap) (p v : AV) : aStore X h 91 p v = stS 3 h p v := st_type size_91 h p v
theorem al_91 [SpC] (id : Nat) : aAlloc X id 91 = some (.loc ⟨.ptr id 0, [], [(id, some (.cells [.int .i64 0, .int .i64 0, .int .i64 0] false false))]⟩) := al_type (zeroN_of rfl zero_91) rfl rfl id
theorem fa_91_0 [SpC] (p : AV) : aFieldAddr X 91 p 0 = faS 0 p := fa_fieldN und_91 (by kernel_rfl) size_3 p
theorem fa_91_1 [SpC] (p : AV) : aFieldAddr X 91 p 1 = faS 1 p := fa_fieldN und_91 (by kernel_rfl) size_3 p
theorem fa_91_2 [SpC] (p : AV) : aFieldAddr X 91 p 2 = faS 2 p := fa_fieldN und_91 (by kernel_rfl) size_3 p
theorem pl_91 [SpC] : fieldPlaces X flds_90.toList = some [(0, 1), (1, 1), (2, 1)] := by kernel_rfl
theorem bl_91 [SpC] (ps : List (Nat × AV)) : aBuild X 91 ps = blS (plOf [(0, 1), (1, 1), (2, 1)]) [.int .i64 0, .int .i64 0, .int .i64 0] ps := bl_struct zero_91 rfl rfl und_91 pl_91 ps
theorem ld_92 [SpC] (h : Heap) (p : AV) : aLoad X h 92 p = ld1 (cellsAt h p) := ld_leaf shape_92 h p
theorem len_92 [SpC] (x : AV) : lenA X 92 x = lenS x := len_slice und_92 x
theorem ix_92 [SpC] (x : AV) (k : IntKind) (n : Int) : aIndexAddr X 92 x (.int k n) = ixS 3 x n := ix_slice und_92 size_91 x k n
theorem sli_92 [SpC] (x : AV) (lo hi mx : Option AV) : aSlice X 92 x lo hi mx = sliS 3 x lo hi mx := sli_slice und_92 size_91 x lo hi mx
theorem bs_92 [SpC] (id len : Nat) (hn : len * 3 ≤ 2 ^ 24) (ps : List (Nat × AV)) : aBuildSlice X id 92 len ps = bsS id len 3 [.int .i64 0, .int .i64 0, .int .i64 0] ps := bs_slice und_92 size_91 zero_91 rfl rfl rfl id len hn ps
theorem ld_95 [SpC] (h : Heap) (p : AV) : aLoad X h 95 p = ldn 23 (cellsAt h p) := ld_agg shape_95 h p
theorem st_95 [SpC] (h : Heap) (p v : AV) : aStore X h 95 p v = stS 23 h p v := st_type size_95 h p v
theorem zeroN_95 [SpC] : zeroN X 95 = some (.agg [.int .i64 0, .int .i64 0, .bool false, .ro [] 0 true, .bool false, .ro [] 0 true, .bool false, .ro [] 0 true, .bool false, .ro [] 0 true, .bool false, .ro [] 0 true, .bool false, .ro [] 0 true, .bool false, .ro [] 0 true, .bool false, .ro [] 0 true, .ro [] 0 true, .bool false, .ro [] 0 true, .bool false, .ro [] 0 true]) := by kernel_rfl
theorem al_95 [SpC] (id : Nat) : aAlloc X id 95 = some (.loc ⟨.ptr id 0, [], [(id, some (.cells [.int .i64 0, .int .i64 0, .bool false, .ro [] 0 true, .bool false, .ro [] 0 true, .bool false, .ro [] 0 true, .bool false, .ro [] 0 true, .bool false, .ro [] 0 true, .bool false, .ro [] 0 true, .bool false, .ro [] 0 true, .bool false, .ro [] 0 true, .ro [] 0 true, .bool false, .ro [] 0 true, .bool false, .ro [] 0 true] false false))]⟩) := al_type zeroN_95 rfl rfl id
theorem fa_95_0 [SpC] (p : AV) : aFieldAddr X 95 p 0 = faS 0 p := fa_fieldN und_95 (by kernel_rfl) size_3 p
theorem fa_95_1 [SpC] (p : AV) : aFieldAddr X 95 p 1 = faS 1 p := fa_fieldN und_95 (by kernel_rfl) size_3 p
theorem fa_95_2 [SpC] (p : AV) : aFieldAddr X 95 p 2 = faS 2 p := fa_fieldN und_95 (by kernel_rfl) size_53 p
theorem fa_95_3 [SpC] (p : AV) : aFieldAddr X 95 p 3 = faS 10 p := fa_fieldN und_95 (by kernel_rfl) size_53 p
theorem fa_95_4 [SpC] (p : AV) : aFieldAddr X 95 p 4 = faS 18 p := fa_fieldN und_95 (by kernel_rfl) size_92 p
theorem fa_95_5 [SpC] (p : AV) : aFieldAddr X 95 p 5 = faS 19 p := fa_fieldN und_95 (by kernel_rfl) size_47 p
theorem pl_95 [SpC] : fieldPlaces X flds_94.toList = some [(0, 1), (1, 1), (2, 8), (10, 8), (18, 1), (19, 4)] := by kernel_rfl
theorem bl_95 [SpC] (ps : List (Nat × AV)) : aBuild X 95 ps = blS (plOf [(0, 1), (1, 1), (2, 8), (10, 8), (18, 1), (19, 4)]) [.int .i64 0, .int .i64 0, .bool false, .ro [] 0 false, .bool false, .ro [] 0 false, .bool false, .ro [] 0 false, .bool false, .ro [] 0 false, .bool false, .ro [] 0 false, .bool false, .ro [] 0 false, .bool false, .ro [] 0 false, .bool false, .ro [] 0 false, .ro [] 0 false, .bool false, .ro [] 0 false, .bool false, .ro [] 0 false] ps := bl_struct zero_95 rfl rfl und_95 pl_95 ps
theorem ld_96 [SpC] (h : Heap) (p : AV) : aLoad X h 96 p = ldn 2 (cellsAt h p) := ld_agg shape_96 h p
theorem st_96 [SpC] (h : Heap) (p v : AV) : aStore X h 96 p v = stS 2 h p v := st_type size_96 h p v
theorem al_96 [SpC] (id : Nat) : aAlloc X id 96 = some (.loc ⟨.ptr id 0, [], [(id, some (.cells [.int .i64 0, .int .i64 0] false false))]⟩) := al_type (zeroN_of rfl zero_96) rfl rfl id
theorem ix_96 [SpC] (x : AV) (k : IntKind) (n : Int) : aIndexAddr X 96 x (.int k n) = ixA 2 1 x n := ix_array und_96 size_3 x k n
theorem slp_96 [SpC] (h : Heap) (b off : Nat) (lo hi : Option AV) : aSliceP X h 96 b off lo hi none = slP 2 1 h b off lo hi := slp_array und_96 size_3 h b off lo hi
theorem sla_96 [SpC] (cs : List AV) (lo hi : Option AV) : aSlice X 96 (.rptr cs) lo hi none = slR 2 1 cs lo hi := sla_array und_96 size_3 cs lo hi
theorem bl_96 [SpC] (ps : List (Nat × AV)) : aBuild X 96 ps = blS (plEv 1) [.int .i64 0, .int .i64 0] ps := bl_array zero_96 rfl rfl und_96 size_3 ps
theorem ld_99 [SpC] (h : Heap) (p : AV) : aLoad X h 99 p = ldn 13 (cellsAt h p) := ld_agg shape_99 h p
theorem st_99 [SpC] (h : Heap) (p v : AV) : aStore X h 99 p v = stS 13 h p v := st_type size_99 h p v
theorem al_99 [SpC] (id : Nat) : aAlloc X id 99 = some (.loc ⟨.ptr id 0, [], [(id, some (.cells [.int .i64 0, .bool false, .ro [] 0 false, .bool false, .ro [] 0 false, .bool false, .ro [] 0 false, .bool false, .ro [] 0 false, .bool false, .ro [] 0 false, .bool false, .ro [] 0 false] false false))]⟩) := al_type (zeroN_of rfl zero_99) rfl rfl id
theorem fa_99_0 [SpC] (p : AV) : aFieldAddr X 99 p 0 = faS 0 p := fa_fieldN und_99 (by kernel_rfl) size_3 p
theorem fa_99_1 [SpC] (p : AV) : aFieldAddr X 99 p 1 = faS 1 p := fa_fieldN und_99 (by kernel_rfl) size_47 p
theorem fa_99_2 [SpC] (p : AV) : aFieldAddr X 99 p 2 = faS 5 p := fa_fieldN und_99 (by kernel_rfl) size_47 p
theorem fa_99_3 [SpC] (p : AV) : aFieldAddr X 99 p 3 = faS 9 p := fa_fieldN und_99 (by kernel_rfl) size_47 p
theorem pl_99 [SpC] : fieldPlaces X flds_98.toList = some [(0, 1), (1, 4), (5, 4), (9, 4)] := by kernel_rfl
theorem bl_99 [SpC] (ps : List (Nat × AV)) : aBuild X 99 ps = blS (plOf [(0, 1), (1, 4), (5, 4), (9, 4)]) [.int .i64 0, .bool false, .ro [] 0 false, .bool false, .ro [] 0 false, .bool false, .ro [] 0 false, .bool false, .ro [] 0 false, .bool false, .ro [] 0 false, .bool false, .ro [] 0 false] ps := bl_struct zero_99 rfl rfl und_99 pl_99 ps
theorem ld_101 [SpC] (h : Heap) (p : AV) : aLoad X h 101 p = ldn 17 (cellsAt h p) := ld_agg shape_101 h p
theorem st_101 [SpC] (h : Heap) (p v : AV) : aStore X h 101 p v = stS 17 h p v := st_type size_101 h p v
theorem al_101 [SpC] (id : Nat) : aAlloc X id 101 = some (.loc ⟨.ptr id 0, [], [(id, some (.cells [.bool false, .ro [] 0 false, .bool false, .ro [] 0 false, .bool false, .ro [] 0 false, .bool false, .ro [] 0 false, .bool false, .bool false, .ro [] 0 false, .bool false, .ro [] 0 false, .bool false, .ro [] 0 false, .bool false, .ro [] 0 false] false false))]⟩) := al_type (zeroN_of rfl zero_101) rfl rfl id
theorem fa_101_0 [SpC] (p : AV) : aFieldAddr X 101 p 0 = faS 0 p := fa_fieldN und_101 (by kernel_rfl) size_47 p
theorem fa_101_1 [SpC] (p : AV) : aFieldAddr X 101 p 1 = faS 4 p := fa_fieldN und_101 (by kernel_rfl) size_47 p
theorem fa_101_2 [SpC] (p : AV) : aFieldAddr X 101 p 2 = faS 8 p := fa_fieldN und_101 (by kernel_rfl) size_4 p
theorem fa_101_3 [SpC] (p : AV) : aFieldAddr X 101 p 3 = faS 9 p := fa_fieldN und_101 (by kernel_rfl) size_47 p
theorem fa_101_4 [SpC] (p : AV) : aFieldAddr X 101 p 4 = faS 13 p := fa_fieldN und_101 (by kernel_rfl) size_47 p
theorem pl_101 [SpC] : fieldPlaces X flds_100.toList = some [(0, 4), (4, 4), (8, 1), (9, 4), (13, 4)] := by kernel_rfl
theorem bl_101 [SpC] (ps : List (Nat × AV)) : aBuild X 101 ps = blS (plOf [(0, 4), (4, 4), (8, 1), (9, 4), (13, 4)]) [.bool false, .ro [] 0 false, .bool false, .ro [] 0 false, .bool false, .ro [] 0 false, .bool false, .ro [] 0 false, .bool false, .bool false, .ro [] 0 false, .bool false, .ro [] 0 false, .bool false, .ro [] 0 false, .bool false, .ro [] 0 false] ps := bl_struct zero_101 rfl rfl und_101 pl_101 ps
theorem ld_115 [SpC] (h : Heap) (p : AV) : aLoad X h 115 p = ld1 (cellsAt h p) := ld_leaf shape_115 h p
theorem st_115 [SpC] (h : Heap) (p v : AV) : aStore X h 115 p v = stS 1 h p v := st_type size_115 h p v
theorem al_115 [SpC] (id : Nat) : aAlloc X id 115 = some (.loc ⟨.ptr id 0, [], [(id, some (.cells [.ro [] 0 true] false false))]⟩) := al_type (zeroN_of rfl zero_115) rfl rfl id
theorem len_115 [SpC] (x : AV) : lenA X 115 x = lenS x := len_slice und_115 x
theorem ix_115 [SpC] (x : AV) (k : IntKind) (n : Int) : aIndexAddr X 115 x (.int k n) = ixS 4 x n := ix_slice und_115 size_168 x k n
theorem bs_115 [SpC] (id len : Nat) (hn : len * 4 ≤ 2 ^ 24) (ps : List (Nat × AV)) : aBuildSlice X id 115 len ps = bsS id len 4 [.int .i64 0, .int .i64 0, .int .i64 0, .int .i64 0] ps := bs_slice und_115 size_168 zero_168 rfl rfl rfl id len hn ps
theorem ap_115 [SpC] (h : Heap) (id : Nat) (a x : AV) : aAppend X h id #[115, 115] a x = apS 4 32 h id a x := ap_slice und_115 und_115 rfl sb_168 zero_168 rfl rfl rfl h id a x
theorem ld_168 [SpC] (h : Heap) (p : AV) : aLoad X h 168 p = ldn 4 (cellsAt h p) := ld_agg shape_168 h p
theorem fa_168_0 [SpC] (p : AV) : aFieldAddr X 168 p 0 = faS 0 p := fa_fieldN und_168 (by kernel_rfl) size_91 p
theorem fa_168_1 [SpC] (p : AV) : aFieldAddr X 168 p 1 = faS 3 p := fa_fieldN und_168 (by kernel_rfl) size_3 p
theorem pl_168 [SpC] : fieldPlaces X flds_167.toList = some [(0, 3), (3, 1)] := by kernel_rfl
theorem bl_168 [SpC] (ps : List (Nat × AV)) : aBuild X 168 ps = blS (plOf [(0, 3), (3, 1)]) [.int .i64 0, .int .i64 0, .int .i64 0, .int .i64 0] ps := bl_struct zero_168 rfl rfl und_168 pl_168 ps
theorem cv_2_3 [SpC] (h : Heap) (k : IntKind) (n : Int) : aConv X h 2 3 (.int k n) = some (.loc ⟨.int .i64 (IntKind.wrap .i64 n), [], []⟩) := conv_int X und_2 und_3 h k n
theorem cv_2_5 [SpC] (h : Heap) (k : IntKind) (n : Int) : aConv X h 2 5 (.int k n) = some (.loc ⟨.int .u8 (IntKind.wrap .u8 n), [], []⟩) := conv_int X und_2 und_5 h k n
theorem cv_2_12 [SpC] (h : Heap) (k : IntKind) (n : Int) : aConv X h 2 12 (.int k n) = some (.loc ⟨.int .u64 (IntKind.wrap .u64 n), [], []⟩) := conv_int X und_2 und_12 h k n
theorem cv_2_21 [SpC] (h : Heap) (k : IntKind) (n : Int) : aConv X h 2 21 (.int k n) = some (.loc ⟨.int .i32 (IntKind.wrap .i32 n), [], []⟩) := conv_int X und_2 und_21 h k n
theorem cv_2_32 [SpC] (h : Heap) (k : IntKind) (n : Int) : aConv X h 2 32 (.int k n) = some (.loc ⟨.int .i64 (IntKind.wrap .i64 n), [], []⟩) := conv_int X und_2 und_32 h k n
theorem cv_2_181 [SpC] (h : Heap) (k : IntKind) (n : Int) : aConv X h 2 181 (.int k n) = some (.loc ⟨.int .u64 (IntKind.wrap .u64 n), [], []⟩) := conv_int X und_2 und_181 h k n
theorem cv_2_189 [SpC] (h : Heap) (k : IntKind) (n : Int) : aConv X h 2 189 (.int k n) = some (.loc ⟨.int .u64 (IntKind.wrap .u64 n), [], []⟩) := conv_int X und_2 und_189 h k n
theorem cv_2_216 [SpC] (h : Heap) (k : IntKind) (n : Int) : aConv X h 2 216 (.int k n) = some (.loc ⟨.int .i64 (IntKind.wrap .i64 n), [], []⟩) := conv_int X und_2 und_216 h k n
theorem cv_2_223 [SpC] (h : Heap) (k : IntKind) (n : Int) : aConv X h 2 223 (.int k n) = some (.loc ⟨.int .u32 (IntKind.wrap .u32 n), [], []⟩) := conv_int X und_2 und_223 h k n
theorem cv_2_240 [SpC] (h : Heap) (k : IntKind) (n : Int) : aConv X h 2 240 (.int k n) = some (.loc ⟨.int .u64 (IntKind.wrap .u64 n), [], []⟩) := conv_int X und_2 und_240 h k n
theorem cv_3_2 [SpC] (h : Heap) (k : IntKind) (n : Int) : aConv X h 3 2 (.int k n) = some (.loc ⟨.int .i64 (IntKind.wrap .i64 n), [], []⟩) := conv_int X und_3 und_2 h k n
theorem cv_3_5 [SpC] (h : Heap) (k : IntKind) (n : Int) : aConv X h 3 5 (.int k n) = some (.loc ⟨.int .u8 (IntKind.wrap .u8 n), [], []⟩) := conv_int X und_3 und_5 h k n
theorem cv_3_12 [SpC] (h : Heap) (k : IntKind) (n : Int) : aConv X h 3 12 (.int k n) = some (.loc ⟨.int .u64 (IntKind.wrap .u64 n), [], []⟩) := conv_int X und_3 und_12 h k n
theorem cv_3_21 [SpC] (h : Heap) (k : IntKind) (n : Int) : aConv X h 3 21 (.int k n) = some (.loc ⟨.int .i32 (IntKind.wrap .i32 n), [], []⟩) := conv_int X und_3 und_21 h k n
theorem cv_3_32 [SpC] (h : Heap) (k : IntKind) (n : Int) : aConv X h 3 32 (.int k n) = some (.loc ⟨.int .i64 (IntKind.wrap .i64 n), [], []⟩) := conv_int X und_3 und_32 h k n
theorem cv_3_181 [SpC] (h : Heap) (k : IntKind) (n : Int) : aConv X h 3 181 (.int k n) = some (.loc ⟨.int .u64 (IntKind.wrap .u64 n), [], []⟩) := conv_int X und_3 und_181 h k n
theorem cv_3_189 [SpC] (h : Heap) (k : IntKind) (n : Int) : aConv X h 3 189 (.int k n) = some (.loc ⟨.int .u64 (IntKind.wrap .u64 n), [], []⟩) := conv_int X und_3 und_189 h k n
theorem cv_3_216 [SpC] (h : Heap) (k : IntKind) (n : Int) : aConv X h 3 216 (.int k n) = some (.loc ⟨.int .i64 (IntKind.wrap .i64 n), [], []⟩) := conv_int X und_3 und_216 h k n
theorem cv_3_223 [SpC] (h : Heap) (k : IntKind) (n : Int) : aConv X h 3 223 (.int k n) = some (.loc ⟨.int .u32 (IntKind.wrap .u32 n), [], []⟩) := conv_int X und_3 und_223 h k n
theorem cv_3_240 [SpC] (h : Heap) (k : IntKind) (n : Int) : aConv X h 3 240 (.int k n) = some (.loc ⟨.int .u64 (IntKind.wrap .u64 n), [], []⟩) := conv_int X und_3 und_240 h k n
theorem cv_5_2 [SpC] (h : Heap) (k : IntKind) (n : Int) : aConv X h 5 2 (.int k n) = some (.loc ⟨.int .i64 (IntKind.wrap .i64 n), [], []⟩) := conv_int X und_5 und_2 h k n
theorem cv_5_3 [SpC] (h : Heap) (k : IntKind) (n : Int) : aConv X h 5 3 (.int k n) = some (.loc ⟨.int .i64 (IntKind.wrap .i64 n), [], []⟩) := conv_int X und_5 und_3 h k n
theorem cv_5_12 [SpC] (h : Heap) (k : IntKind) (n : Int) : aConv X h 5 12 (.int k n) = some (.loc ⟨.int .u64 (IntKind.wrap .u64 n), [], []⟩) := conv_int X und_5 und_12 h k n
theorem cv_5_21 [SpC] (h : Heap) (k : IntKind) (n : Int) : aConv X h 5 21 (.int k n) = some (.loc ⟨.int .i32 (IntKind.wrap .i32 n), [], []⟩) := conv_int X und_5 und_21 h k n
theorem cv_5_32 [SpC] (h : Heap) (k : IntKind) (n : Int) : aConv X h 5 32 (.int k n) = some (.loc ⟨.int .i64 (IntKind.wrap .i64 n), [], []⟩) := conv_int X und_5 und_32 h k n
theorem cv_5_181 [SpC] (h : Heap) (k : IntKind) (n : Int) : aConv X h 5 181 (.int k n) = some (.loc ⟨.int .u64 (IntKind.wrap .u64 n), [], []⟩) := conv_int X und_5 und_181 h k n
theorem cv_5_189 [SpC] (h : Heap) (k : IntKind) (n : Int) : aConv X h 5 189 (.int k n) = some (.loc ⟨.int .u64 (IntKind.wrap .u64 n), [], []⟩) := conv_int X und_5 und_189 h k n
theorem cv_5_216 [SpC] (h : Heap) (k : IntKind) (n : Int) : aConv X h 5 216 (.int k n) = some (.loc ⟨.int .i64 (IntKind.wrap .i64 n), [], []⟩) := conv_int X und_5 und_216 h k n
theorem cv_5_223 [SpC] (h : Heap) (k : IntKind) (n : Int) : aConv X h 5 223 (.int k n) = some (.loc ⟨.int .u32 (IntKind.wrap .u32 n), [], []⟩) := conv_int X und_5 und_223 h k n
theorem cv_5_240 [SpC] (h : Heap) (k : IntKind) (n : Int) : aConv X h 5 240 (.int k n) = some (.loc ⟨.int .u64 (IntKind.wrap .u64 n), [], []⟩) := conv_int X und_5 und_240 h k n
theorem cv_12_2 [SpC] (h : Heap) (k : IntKind) (n : Int) : aConv X h 12 2 (.int k n) = some (.loc ⟨.int .i64 (IntKind.wrap .i64 n), [], []⟩) := conv_int X und_12 und_2 h k n
theorem cv_12_3 [SpC] (h : Heap) (k : IntKind) (n : Int) : aConv X h 12 3 (.int k n) = some (.loc ⟨.int .i64 (IntKind.wrap .i64 n), [], []⟩) := conv_int X und_12 und_3 h k n
theorem cv_12_5 [SpC] (h : Heap) (k : IntKind) (n : Int) : aConv X h 12 5 (.int k n) = some (.loc ⟨.int .u8 (IntKind.wrap .u8 n), [], []⟩) := conv_int X und_12 und_5 h k n
theorem cv_12_21 [SpC] (h : Heap) (k : IntKind) (n : Int) : aConv X h 12 21 (.int k n) = some (.loc ⟨.int .i32 (IntKind.wrap .i32 n), [], []⟩) := conv_int X und_12 und_21 h k n
theorem cv_12_32 [SpC] (h : Heap) (k : IntKind) (n : Int) : aConv X h 12 32 (.int k n) = some (.loc ⟨.int .i64 (IntKind.wrap .i64 n), [], []⟩) := conv_int X und_12 und_32 h k n
theorem cv_12_181 [SpC] (h : Heap) (k : IntKind) (n : Int) : aConv X h 12 181 (.int k n) = some (.loc ⟨.int .u64 (IntKind.wrap .u64 n), [], []⟩) := conv_int X und_12 und_181 h k n
theorem cv_12_189 [SpC] (h : Heap) (k : IntKind) (n : Int) : aConv X h 12 189 (.int k n) = some (.loc ⟨.int .u64 (IntKind.wrap .u64 n), [], []⟩) := conv_int X und_12 und_189 h k n
theorem cv_12_216 [SpC] (h : Heap) (k : IntKind) (n : Int) : aConv X h 12 216 (.int k n) = some (.loc ⟨.int .i64 (IntKind.wrap .i64 n), [], []⟩) := conv_int X und_12 und_216 h k n
theorem cv_12_223 [SpC] (h : Heap) (k : IntKind) (n : Int) : aConv X h 12 223 (.int k n) = some (.loc ⟨.int .u32 (IntKind.wrap .u32 n), [], []⟩) := conv_int X und_12 und_223 h k n
theorem cv_12_240 [SpC] (h : Heap) (k : IntKind) (n : Int) : aConv X h 12 240 (.int k n) = some (.loc ⟨.int .u64 (IntKind.wrap .u64 n), [], []⟩) := conv_int X und_12 und_240 h k n
theorem cv_21_2 [SpC] (h : Heap) (k : IntKind) (n : Int) : aConv X h 21 2 (.int k n) = some (.loc ⟨.int .i64 (IntKind.wrap .i64 n), [], []⟩) := conv_int X und_21 und_2 h k n
theorem cv_21_3 [SpC] (h : Heap) (k : IntKind) (n : Int) : aConv X h 21 3 (.int k n) = some (.loc ⟨.int .i64 (IntKind.wrap .i64 n), [], []⟩) := conv_int X und_21 und_3 h k n
theorem cv_21_5 [SpC] (h : Heap) (k : IntKind) (n : Int) : aConv X h 21 5 (.int k n) = some (.loc ⟨.int .u8 (IntKind.wrap .u8 n), [], []⟩) := conv_int X und_21 und_5 h k n
theorem cv_21_12 [SpC] (h : Heap) (k : IntKind) (n : Int) : aConv X h 21 12 (.int k n) = some (.loc ⟨.int .u64 (IntKind.wrap .u64 n), [], []⟩) := conv_int X und_21 und_12 h k n
theorem cv_21_32 [SpC] (h : Heap) (k : IntKind) (n : Int) : aConv X h 21 32 (.int k n) = some (.loc ⟨.int .i64 (IntKind.wrap .i64 n), [], []⟩) := conv_int X und_21 und_32 h k n
theorem cv_21_181 [SpC] (h : Heap) (k : IntKind) (n : Int) : aConv X h 21 181 (.int k n) = some (.loc ⟨.int .u64 (IntKind.wrap .u64 n), [], []⟩) := conv_int X und_21 und_181 h k n
theorem cv_21_189 [SpC] (h : Heap) (k : IntKind) (n : Int) : aConv X h 21 189 (.int k n) = some (.loc ⟨.int .u64 (IntKind.wrap .u64 n), [], []⟩) := conv_int X und_21 und_189 h k n
theorem cv_21_216 [SpC] (h : Heap) (k : IntKind) (n : Int) : aConv X h 21 216 (.int k n) = some (.loc ⟨.int .i64 (IntKind.wrap .i64 n), [], []⟩) := conv_int X und_21 und_216 h k n
theorem cv_21_223 [SpC] (h : Heap) (k : IntKind) (n : Int) : aConv X h 21 223 (.int k n) = some (.loc ⟨.int .u32 (IntKind.wrap .u32 n), [], []⟩) := conv_int X und_21 und_223 h k n
theorem cv_21_240 [SpC] (h : Heap) (k : IntKind) (n : Int) : aConv X h 21 240 (.int k n) = some (.loc ⟨.int .u64 (IntKind.wrap .u64 n), [], []⟩) := conv_int X und_21 und_240 h k n
theorem cv_32_2 [SpC] (h : Heap) (k : IntKind) (n : Int) : aConv X h 32 2 (.int k n) = some (.loc ⟨.int .i64 (IntKind.wrap .i64 n), [], []⟩) := conv_int X und_32 und_2 h k n
theorem cv_32_3 [SpC] (h : Heap) (k : IntKind) (n : Int) : aConv X h 32 3 (.int k n) = some (.loc ⟨.int .i64 (IntKind.wrap .i64 n), [], []⟩) := conv_int X und_32 und_3 h k n
theorem cv_32_5 [SpC] (h : Heap) (k : IntKind) (n : Int) : aConv X h 32 5 (.int k n) = some (.loc ⟨.int .u8 (IntKind.wrap .u8 n), [], []⟩) := conv_int X und_32 und_5 h k n
theorem cv_32_12 [SpC] (h : Heap) (k : IntKind) (n : Int) : aConv X h 32 12 (.int k n) = some (.loc ⟨.int .u64 (IntKind.wrap .u64 n), [], []⟩) := conv_int X und_32 und_12 h k n
theorem cv_32_21 [SpC] (h : Heap) (k : IntKind) (n : Int) : aConv X h 32 21 (.int k n) = some (.loc ⟨.int .i32 (IntKind.wrap .i32 n), [], []⟩) := conv_int X und_32 und_21 h k n
theorem cv_32_181 [SpC] (h : Heap) (k : IntKind) (n : Int) : aConv X h 32 181 (.int k n) = some (.loc ⟨.int .u64 (IntKind.wrap .u64 n), [], []⟩) := conv_int X und_32 und_181 h k n
theorem cv_32_189 [SpC] (h : Heap) (k : IntKind) (n : Int) : aConv X h 32 189 (.int k n) = some (.loc ⟨.int .u64 (IntKind.wrap .u64 n), [], []⟩) := conv_int X und_32 und_189 h k n
theorem cv_32_216 [SpC] (h : Heap) (k : IntKind) (n : Int) : aConv X h 32 216 (.int k n) = some (.loc ⟨.int .i64 (IntKind.wrap .i64 n), [], []⟩) := conv_int X und_32 und_216 h k n
theorem cv_32_223 [SpC] (h : Heap) (k : IntKind) (n : Int) : aConv X h 32 223 (.int k n) = some (.loc ⟨.int .u32 (IntKind.wrap .u32 n), [], []⟩) := conv_int X und_32 und_223 h k n
theorem cv_32_240 [SpC] (h : Heap) (k : IntKind) (n : Int) : aConv X h 32 240 (.int k n) = some (.loc ⟨.int .u64 (IntKind.wrap .u64 n), [], []⟩) := conv_int X und_32 und_240 h k n
theorem cv_181_2 [SpC] (h : Heap) (k : IntKind) (n : Int) : aConv X h 181 2 (.int k n) = some (.loc ⟨.int .i64 (IntKind.wrap .i64 n), [], []⟩) := conv_int X und_181 und_2 h k n
theorem cv_181_3 [SpC] (h : Heap) (k : IntKind) (n : Int) : aConv X h 181 3 (.int k n) = some (.loc ⟨.int .i64 (IntKind.wrap .i64 n), [], []⟩) := conv_int X und_181 und_3 h k n
theorem cv_181_5 [SpC] (h : Heap) (k : IntKind) (n : Int) : aConv X h 181 5 (.int k n) = some (.loc ⟨.int .u8 (IntKind.wrap .u8 n), [], []⟩) := conv_int X und_181 und_5 h k n
theorem cv_181_12 [SpC] (h : Heap) (k : IntKind) (n : Int) : aConv X h 181 12 (.int k n) = some (.loc ⟨.int .u64 (IntKind.wrap .u64 n), [], []⟩) := conv_int X und_181 und_12 h k n
theorem cv_181_21 [SpC] (h : Heap) (k : IntKind) (n : Int) : aConv X h 181 21 (.int k n) = some (.loc ⟨.int .i32 (IntKind.wrap .i32 n), [], []⟩) := conv_int X und_181 und_21 h k n
theorem cv_181_32 [SpC] (h : Heap) (k : IntKind) (n : Int) : aConv X h 181 32 (.int k n) = some (.loc ⟨.int .i64 (IntKind.wrap .i64 n), [], []⟩) := conv_int X und_181 und_32 h k n
theorem cv_181_189 [SpC] (h : Heap) (k : IntKind) (n : Int) : aConv X h 181 189 (.int k n) = some (.loc ⟨.int .u64 (IntKind.wrap .u64 n), [], []⟩) := conv_int X und_181 und_189 h k n
theorem cv_181_216 [SpC] (h : Heap) (k : IntKind) (n : Int) : aConv X h 181 216 (.int k n) = some (.loc ⟨.int .i64 (IntKind.wrap .i64 n), [], []⟩) := conv_int X und_181 und_216 h k n
theorem cv_181_223 [SpC] (h : Heap) (k : IntKind) (n : Int) : aConv X h 181 223 (.int k n) = some (.loc ⟨.int .u32 (IntKind.wrap .u32 n), [], []⟩) := conv_int X und_181 und_223 h k n
theorem cv_181_240 [SpC] (h : Heap) (k : IntKind) (n : Int) : aConv X h 181 240 (.int k n) = some (.loc ⟨.int .u64 (IntKind.wrap .u64 n), [], []⟩) := conv_int X und_181 und_240 h k n
theorem cv_189_2 [SpC] (h : Heap) (k : IntKind) (n : Int) : aConv X h 189 2 (.int k n) = some (.loc ⟨.int .i64 (IntKind.wrap .i64 n), [], []⟩) := conv_int X und_189 und_2 h k n
theorem cv_189_3 [SpC] (h : Heap) (k : IntKind) (n : Int) : aConv X h 189 3 (.int k n) = some (.loc ⟨.int .i64 (IntKind.wrap .i64 n), [], []⟩) := conv_int X und_189 und_3 h k n
theorem cv_189_5 [SpC] (h : Heap) (k : IntKind) (n : Int) : aConv X h 189 5 (.int k n) = some (.loc ⟨.int .u8 (IntKind.wrap .u8 n), [], []⟩) := conv_int X und_189 und_5 h k n
theorem cv_189_12 [SpC] (h : Heap) (k : IntKind) (n : Int) : aConv X h 189 12 (.int k n) = some (.loc ⟨.int .u64 (IntKind.wrap .u64 n), [], []⟩) := conv_int X und_189 und_12 h k n
theorem cv_189_21 [SpC] (h : Heap) (k : IntKind) (n : Int) : aConv X h 189 21 (.int k n) = some (.loc ⟨.int .i32 (IntKind.wrap .i32 n), [], []⟩) := conv_int X und_189 und_21 h k n
theorem cv_189_32 [SpC] (h : Heap) (k : IntKind) (n : Int) : aConv X h 189 32 (.int k n) = some (.loc ⟨.int .i64 (IntKind.wrap .i64 n), [], []⟩) := conv_int X und_189 und_32 h k n
theorem cv_189_181 [SpC] (h : Heap) (k : IntKind) (n : Int) : aConv X h 189 181 (.int k n) = some (.loc ⟨.int .u64 (IntKind.wrap .u64 n), [], []⟩) := conv_int X und_189 und_181 h k n
theorem cv_189_216 [SpC] (h : Heap) (k : IntKind) (n : Int) : aConv X h 189 216 (.int k n) = some (.loc ⟨.int .i64 (IntKind.wrap .i64 n), [], []⟩) := conv_int X und_189 und_216 h k n
theorem cv_189_223 [SpC] (h : Heap) (k : IntKind) (n : Int) : aConv X h 189 223 (.int k n) = some (.loc ⟨.int .u32 (IntKind.wrap .u32 n), [], []⟩) := conv_int X und_189 und_223 h k n
theorem cv_189_240 [SpC] (h : Heap) (k : IntKind) (n : Int) : aConv X h 189 240 (.int k n) = some (.loc ⟨.int .u64 (IntKind.wrap .u64 n), [], []⟩) := conv_int X und_189 und_240 h k n
theorem cv_216_2 [SpC] (h : Heap) (k : IntKind) (n : Int) : aConv X h 216 2 (.int k n) = some (.loc ⟨.int .i64 (IntKind.wrap .i64 n), [], []⟩) := conv_int X und_216 und_2 h k n
theorem cv_216_3 [SpC] (h : Heap) (k : IntKind) (n : Int) : aConv X h 216 3 (.int k n) = some (.loc ⟨.int .i64 (IntKind.wrap .i64 n), [], []⟩) := conv_int X und_216 und_3 h k n
theorem cv_216_5 [SpC] (h : Heap) (k : IntKind) (n : Int) : aConv X h 216 5 (.int k n) = some (.loc ⟨.int .u8 (IntKind.wrap .u8 n), [], []⟩) := conv_int X und_216 und_5 h k n
theorem cv_216_12 [SpC] (h : Heap) (k : IntKind) (n : Int) : aConv X h 216 12 (.int k n) = some (.loc ⟨.int .u64 (IntKind.wrap .u64 n), [], []⟩) := conv_int X und_216 und_12 h k n
theorem cv_216_21 [SpC] (h : Heap) (k : IntKind) (n : Int) : aConv X h 216 21 (.int k n) = some (.loc ⟨.int .i32 (IntKind.wrap .i32 n), [], []⟩) := conv_int X und_216 und_21 h k n
theorem cv_216_32 [SpC] (h : Heap) (k : IntKind) (n : Int) : aConv X h 216 32 (.int k n) = some (.loc ⟨.int .i64 (IntKind.wrap .i64 n), [], []⟩) := conv_int X und_216 und_32 h k n
theorem cv_216_181 [SpC] (h : Heap) (k : IntKind) (n : Int) : aConv X h 216 181 (.int k n) = some (.loc ⟨.int .u64 (IntKind.wrap .u64 n), [], []⟩) := conv_int X und_216 und_181 h k n
theorem cv_216_189 [SpC] (h : Heap) (k : IntKind) (n : Int) : aConv X h 216 189 (.int k n) = some (.loc ⟨.int .u64 (IntKind.wrap .u64 n), [], []⟩) := conv_int X und_216 und_189 h k n
theorem cv_216_223 [SpC] (h : Heap) (k : IntKind) (n : Int) : aConv X h 216 223 (.int k n) = some (.loc ⟨.int .u32 (IntKind.wrap .u32 n), [], []⟩) := conv_int X und_216 und_223 h k n
theorem cv_216_240 [SpC] (h : Heap) (k : IntKind) (n : Int) : aConv X h 216 240 (.int k n) = some (.loc ⟨.int .u64 (IntKind.wrap .u64 n), [], []⟩) := conv_int X und_216 und_240 h k n
theorem cv_223_2 [SpC] (h : Heap) (k : IntKind) (n : Int) : aConv X h 223 2 (.int k n) = some (.loc ⟨.int .i64 (IntKind.wrap .i64 n), [], []⟩) := conv_int X und_223 und_2 h k n
theorem cv_223_3 [SpC] (h : Heap) (k : IntKind) (n : Int) : aConv X h 223 3 (.int k n) = some (.loc ⟨.int .i64 (IntKind.wrap .i64 n), [], []⟩) := conv_int X und_223 und_3 h k n
theorem cv_223_5 [SpC] (h : Heap) (k : IntKind) (n : Int) : aConv X h 223 5 (.int k n) = some (.loc ⟨.int .u8 (IntKind.wrap .u8 n), [], []⟩) := conv_int X und_223 und_5 h k n
theorem cv_223_12 [SpC] (h : Heap) (k : IntKind) (n : Int) : aConv X h 223 12 (.int k n) = some (.loc ⟨.int .u64 (IntKind.wrap .u64 n), [], []⟩) := conv_int X und_223 und_12 h k n
theorem cv_223_21 [SpC] (h : Heap) (k : IntKind) (n : Int) : aConv X h 223 21 (.int k n) = some (.loc ⟨.int .i32 (IntKind.wrap .i32 n), [], []⟩) := conv_int X und_223 und_21 h k n
theorem cv_223_32 [SpC] (h : Heap) (k : IntKind) (n : Int) : aConv X h 223 32 (.int k n) = some (.loc ⟨.int .i64 (IntKind.wrap .i64 n), [], []⟩) := conv_int X und_223 und_32 h k n
theorem cv_223_181 [SpC] (h : Heap) (k : IntKind) (n : Int) : aConv X h 223 181 (.int k n) = some (.loc ⟨.int .u64 (IntKind.wrap .u64 n), [], []⟩) := conv_int X und_223 und_181 h k n
theorem cv_223_189 [SpC] (h : Heap) (k : IntKind) (n : Int) : aConv X h 223 189 (.int k n) = some (.loc ⟨.int .u64 (IntKind.wrap .u64 n), [], []⟩) := conv_int X und_223 und_189 h k n
theorem cv_223_216 [SpC] (h : Heap) (k : IntKind) (n : Int) : aConv X h 223 216 (.int k n) = some (.loc ⟨.int .i64 (IntKind.wrap .i64 n), [], []⟩) := conv_int X und_223 und_216 h k n
theorem cv_223_240 [SpC] (h : Heap) (k : IntKind) (n : Int) : aConv X h 223 240 (.int k n) = some (.loc ⟨.int .u64 (IntKind.wrap .u64 n), [], []⟩) := conv_int X und_223 und_240 h k n
theorem cv_240_2 [SpC] (h : Heap) (k : IntKind) (n : Int) : aConv X h 240 2 (.int k n) = some (.loc ⟨.int .i64 (IntKind.wrap .i64 n), [], []⟩) := conv_int X und_240 und_2 h k n
theorem cv_240_3 [SpC] (h : Heap) (k : IntKind) (n : Int) : aConv X h 240 3 (.int k n) = some (.loc ⟨.int .i64 (IntKind.wrap .i64 n), [], []⟩) := conv_int X und_240 und_3 h k n
theorem cv_240_5 [SpC] (h : Heap) (k : IntKind) (n : Int) : aConv X h 240 5 (.int k n) = some (.loc ⟨.int .u8 (IntKind.wrap .u8 n), [], []⟩) := conv_int X und_240 und_5 h k n
theorem cv_240_12 [SpC] (h : Heap) (k : IntKind) (n : Int) : aConv X h 240 12 (.int k n) = some (.loc ⟨.int .u64 (IntKind.wrap .u64 n), [], []⟩) := conv_int X und_240 und_12 h k n
theorem cv_240_21 [SpC] (h : Heap) (k : IntKind) (n : Int) : aConv X h 240 21 (.int k n) = some (.loc ⟨.int .i32 (IntKind.wrap .i32 n), [], []⟩) := conv_int X und_240 und_21 h k n
theorem cv_240_32 [SpC] (h : Heap) (k : IntKind) (n : Int) : aConv X h 240 32 (.int k n) = some (.loc ⟨.int .i64 (IntKind.wrap .i64 n), [], []⟩) := conv_int X und_240 und_32 h k n
theorem cv_240_181 [SpC] (h : Heap) (k : IntKind) (n : Int) : aConv X h 240 181 (.int k n) = some (.loc ⟨.int .u64 (IntKind.wrap .u64 n), [], []⟩) := conv_int X und_240 und_181 h k n
theorem cv_240_189 [SpC] (h : Heap) (k : IntKind) (n : Int) : aConv X h 240 189 (.int k n) = some (.loc ⟨.int .u64 (IntKind.wrap .u64 n), [], []⟩) := conv_int X und_240 und_189 h k n
theorem cv_240_216 [SpC] (h : Heap) (k : IntKind) (n : Int) : aConv X h 240 216 (.int k n) = some (.loc ⟨.int .i64 (IntKind.wrap .i64 n), [], []⟩) := conv_int X und_240 und_216 h k n
theorem cv_240_223 [SpC] (h : Heap) (k : IntKind) (n : Int) : aConv X h 240 223 (.int k n) = some (.loc ⟨.int .u32 (IntKind.wrap .u32 n), [], []⟩) := conv_int X und_240 und_223 h k n
theorem be_4 [SpC] (a b : Bool) : binA X .eql 4 (.bool a) (.bool b) = some (.bool (a == b)) := bin_beql X und_4 a b
theorem bn_4 [SpC] (a b : Bool) : binA X .neq 4 (.bool a) (.bool b) = some (.bool (!(a == b))) := bin_bneq X und_4 a b
theorem i3_91 [SpC] : ints3 X.P 91 .i64 = true := by kernel_rfl
theorem be_91 [SpC] (a b c a' b' c' : Int) : binA X .eql 91 (.agg [.int .i64 a, .int .i64 b, .int .i64 c]) (.agg [.int .i64 a', .int .i64 b', .int .i64 c']) = some (.bool ((decide (a = a') && (decide (b = b') && decide (c = c'))))) := bin_eq3 X i3_91 a b c a' b' c'
theorem ok_3 : funcOk Tryz.f3 = true := by kernel_rfl
theorem res_3 : Tryz.f3.results.toList = [.tmp 8] := rfl
theorem mode_3 [SpC] : X.mode 3 = .ro := nr rfl
theorem ok_8 : funcOk Tryz.f8 = true := by kernel_rfl
theorem res_8 : Tryz.f8.results.toList = [.cell 2 28] := rfl
theorem mode_8 [SpC] : X.mode 8 = .ro := nr rfl
theorem ok_9 : funcOk Tryz.f9 = true := by kernel_rfl
theorem res_9 : Tryz.f9.results.toList = [.cell 8 28] := rfl
theorem mode_9 [SpC] : X.mode 9 = .ro := nr rfl
theorem ok_10 : funcOk Tryz.f10 = true := by kernel_rfl
theorem res_10 : Tryz.f10.results.toList = [.tmp 2] := rfl
theorem mode_10 [SpC] : X.mode 10 = .ro := nr rfl
theorem ok_11 : funcOk Tryz.f11 = true := by kernel_rfl
theorem res_11 : Tryz.f11.results.toList = [.tmp 2] := rfl
theorem mode_11 [SpC] : X.mode 11 = .ro := nr rfl
theorem ok_12 : funcOk Tryz.f12 = true := by kernel_rfl
theorem res_12 : Tryz.f12.results.toList = [.tmp 0] := rfl
theorem mode_12 [SpC] : X.mode 12 = .ro := nr rfl
theorem ok_14 : funcOk Tryz.f14 = true := by kernel_rfl
theorem res_14 : Tryz.f14.results.toList = [.cell 2 39] := rfl
theorem mode_14 [SpC] : X.mode 14 = .inl := nr rfl
theorem ok_15 : funcOk Tryz.f15 = true := by kernel_rfl
theorem res_15 : Tryz.f15.results.toList = [.tmp 4] := rfl
theorem mode_15 [SpC] : X.mode 15 = .ro := nr rfl
theorem ok_16 : funcOk Tryz.f16 = true := by kernel_rfl
theorem res_16 : Tryz.f16.results.toList = [.tmp 4] := rfl
theorem mode_16 [SpC] : X.mode 16 = .top := nr rfl
theorem ok_17 : funcOk Tryz.f17 = true := by kernel_rfl
theorem res_17 : Tryz.f17.results.toList = [.tmp 4] := rfl
theorem mode_17 [SpC] : X.mode 17 = .ro := nr rfl
theorem ok_18 : funcOk Tryz.f18 = true := by kernel_rfl
theorem mode_18 [SpC] : X.mode 18 = .spec (SpC.spec 18) := nr rfl
theorem ok_19 : funcOk Tryz.f19 = true := by kernel_rfl
theorem res_19 : Tryz.f19.results.toList = [.cell 4 47] := rfl
theorem mode_19 [SpC] : X.mode 19 = .ro := nr rfl
theorem ok_22 : funcOk Tryz.f22 = true := by kernel_rfl
theorem res_22 : Tryz.f22.results.toList = [.cell 6 53] := rfl
theorem mode_22 [SpC] : X.mode 22 = .ro := nr rfl
theorem ok_24 : funcOk Tryz.f24 = true := by kernel_rfl
theorem res_24 : Tryz.f24.results.toList = [.tmp 6] := rfl
theorem mode_24 [SpC] : X.mode 24 = .ro := nr rfl
theorem ok_25 : funcOk Tryz.f25 = true := by kernel_rfl
theorem res_25 : Tryz.f25.results.toList = [.tmp 4] := rfl
theorem mode_25 [SpC] : X.mode 25 = .ro := nr rfl
theorem ok_36 : funcOk Tryz.f36 = true := by kernel_rfl
theorem res_36 : Tryz.f36.results.toList = [.cell 2 39] := rfl
theorem mode_36 [SpC] : X.mode 36 = .ro := nr rfl
theorem ok_44 : funcOk Tryz.f44 = true := by kernel_rfl
theorem res_44 : Tryz.f44.results.toList = [.cell 4 47] := rfl
theorem mode_44 [SpC] : X.mode 44 = .ro := nr rfl
theorem ok_45 : funcOk Tryz.f45 = true := by kernel_rfl
theorem res_45 : Tryz.f45.results.toList = [.tmp 6] := rfl
theorem mode_45 [SpC] : X.mode 45 = .ro := nr rfl
theorem ok_46 : funcOk Tryz.f46 = true := by kernel_rfl
theorem res_46 : Tryz.f46.results.toList = [.tmp 2, .tmp 3] := rfl
theorem mode_46 [SpC] : X.mode 46 = .ro := nr rfl
theorem ok_47 : funcOk Tryz.f47 = true := by kernel_rfl
theorem res_47 : Tryz.f47.results.toList = [.cell 12 28] := rfl
theorem mode_47 [SpC] : X.mode 47 = .inl := nr rfl
theorem ok_48 : funcOk Tryz.f48 = true := by kernel_rfl
theorem res_48 : Tryz.f48.results.toList = [.cell 4 28] := rfl
theorem mode_48 [SpC] : X.mode 48 = .inl := nr rfl
theorem ok_49 : funcOk Tryz.f49 = true := by kernel_rfl
theorem res_49 : Tryz.f49.results.toList = [.cell 4 47] := rfl
theorem mode_49 [SpC] : X.mode 49 = .ro := nr rfl
theorem ok_50 : funcOk Tryz.f50 = true := by kernel_rfl
theorem res_50 : Tryz.f50.results.toList = [.cell 2 47] := rfl
theorem mode_50 [SpC] : X.mode 50 = .ro := nr rfl
theorem ok_51 : funcOk Tryz.f51 = true := by kernel_rfl
theorem res_51 : Tryz.f51.results.toList = [.tmp 8] := rfl
theorem mode_51 [SpC] : X.mode 51 = .ro := nr rfl
theorem ok_52 : funcOk Tryz.f52 = true := by kernel_rfl
theorem res_52 : Tryz.f52.results.toList = [.tmp 4] := rfl
theorem mode_52 [SpC] : X.mode 52 = .ro := nr rfl
theorem ok_53 : funcOk Tryz.f53 = true := by kernel_rfl
theorem res_53 : Tryz.f53.results.toList = [.tmp 2] := rfl
theorem mode_53 [SpC] : X.mode 53 = .ro := nr rfl
theorem ok_54 : funcOk Tryz.f54 = true := by kernel_rfl
theorem res_54 : Tryz.f54.results.toList = [.tmp 2] := rfl
theorem mode_54 [SpC] : X.mode 54 = .ro := nr rfl
theorem ok_55 : funcOk Tryz.f55 = true := by kernel_rfl
theorem res_55 : Tryz.f55.results.toList = [.tmp 2] := rfl
theorem mode_55 [SpC] : X.mode 55 = .ro := nr rfl
theorem ok_56 : funcOk Tryz.f56 = true := by kernel_rfl
theorem res_56 : Tryz.f56.results.toList = [.tmp 4] := rfl
theorem mode_56 [SpC] : X.mode 56 = .ro := nr rfl
theorem ok_57 : funcOk Tryz.f57 = true := by kernel_rfl
theorem res_57 : Tryz.f57.results.toList = [.tmp 2] := rfl
theorem mode_57 [SpC] : X.mode 57 = .ro := nr rfl
theorem ok_58 : funcOk Tryz.f58 = true := by kernel_rfl
theorem res_58 : Tryz.f58.results.toList = [.tmp 2] := rfl
theorem mode_58 [SpC] : X.mode 58 = .ro := nr rfl
theorem ok_59 : funcOk Tryz.f59 = true := by kernel_rfl
theorem res_59 : Tryz.f59.results.toList = [.tmp 3] := rfl
theorem mode_59 [SpC] : X.mode 59 = .ro := nr rfl
theorem ok_60 : funcOk Tryz.f60 = true := by kernel_rfl
theorem res_60 : Tryz.f60.results.toList = [.tmp 4] := rfl
theorem mode_60 [SpC] : X.mode 60 = .ro := nr rfl
theorem ok_61 : funcOk Tryz.f61 = true := by kernel_rfl
theorem res_61 : Tryz.f61.results.toList = [.tmp 4] := rfl
theorem mode_61 [SpC] : X.mode 61 = .ro := nr rfl
theorem ok_62 : funcOk Tryz.f62 = true := by kernel_rfl
theorem res_62 : Tryz.f62.results.toList = [.tmp 3] := rfl
theorem mode_62 [SpC] : X.mode 62 = .ro := nr rfl
theorem ok_63 : funcOk Tryz.f63 = true := by kernel_rfl
theorem res_63 : Tryz.f63.results.toList = [.tmp 4] := rfl
theorem mode_63 [SpC] : X.mode 63 = .ro := nr rfl
theorem ok_64 : funcOk Tryz.f64 = true := by kernel_rfl
theorem res_64 : Tryz.f64.results.toList = [.tmp 4] := rfl
theorem mode_64 [SpC] : X.mode 64 = .ro := nr rfl
theorem ok_65 : funcOk Tryz.f65 = true := by kernel_rfl
theorem res_65 : Tryz.f65.results.toList = [.tmp 2] := rfl
theorem mode_65 [SpC] : X.mode 65 = .ro := nr rfl
theorem ok_66 : funcOk Tryz.f66 = true := by kernel_rfl
theorem res_66 : Tryz.f66.results.toList = [.tmp 4] := rfl
theorem mode_66 [SpC] : X.mode 66 = .ro := nr rfl
theorem ok_67 : funcOk Tryz.f67 = true := by kernel_rfl
theorem res_67 : Tryz.f67.results.toList = [.tmp 4] := rfl
theorem mode_67 [SpC] : X.mode 67 = .ro := nr rfl
theorem ok_68 : funcOk Tryz.f68 = true := by kernel_rfl
theorem res_68 : Tryz.f68.results.toList = [.cell 2 47] := rfl
theorem mode_68 [SpC] : X.mode 68 = .ro := nr rfl
theorem ok_69 : funcOk Tryz.f69 = true := by kernel_rfl
theorem res_69 : Tryz.f69.results.toList = [.tmp 2] := rfl
theorem mode_69 [SpC] : X.mode 69 = .ro := nr rfl
theorem ok_70 : funcOk Tryz.f70 = true := by kernel_rfl
theorem res_70 : Tryz.f70.results.toList = [.tmp 4] := rfl
theorem mode_70 [SpC] : X.mode 70 = .ro := nr rfl
theorem ok_71 : funcOk Tryz.f71 = true := by kernel_rfl
theorem res_71 : Tryz.f71.results.toList = [.tmp 4] := rfl
theorem mode_71 [SpC] : X.mode 71 = .ro := nr rfl
theorem ok_72 : funcOk Tryz.f72 = true := by kernel_rfl
theorem res_72 : Tryz.f72.results.toList = [.cell 4 53] := rfl
theorem mode_72 [SpC] : X.mode 72 = .ro := nr rfl
theorem ok_73 : funcOk Tryz.f73 = true := by kernel_rfl
theorem res_73 : Tryz.f73.results.toList = [.tmp 4] := rfl
theorem mode_73 [SpC] : X.mode 73 = .ro := nr rfl
theorem ok_74 : funcOk Tryz.f74 = true := by kernel_rfl
theorem res_74 : Tryz.f74.results.toList = [.tmp 6] := rfl
theorem mode_74 [SpC] : X.mode 74 = .ro := nr rfl
theorem ok_75 : funcOk Tryz.f75 = true := by kernel_rfl
theorem ok_76 : funcOk Tryz.f76 = true := by kernel_rfl
theorem res_76 : Tryz.f76.results.toList = [.tmp 4] := rfl
theorem mode_76 [SpC] : X.mode 76 = .ro := nr rfl
theorem ok_77 : funcOk Tryz.f77 = true := by kernel_rfl
theorem res_77 : Tryz.f77.results.toList = [.cell 4 45] := rfl
theorem mode_77 [SpC] : X.mode 77 = .ro := nr rfl
theorem ok_78 : funcOk Tryz.f78 = true := by kernel_rfl
theorem res_78 : Tryz.f78.results.toList = [.cell 2 45] := rfl
theorem mode_78 [SpC] : X.mode 78 = .ro := nr rfl
theorem ok_79 : funcOk Tryz.f79 = true := by kernel_rfl
theorem res_79 : Tryz.f79.results.toList = [.cell 4 47] := rfl
theorem mode_79 [SpC] : X.mode 79 = .ro := nr rfl
theorem ok_80 : funcOk Tryz.f80 = true := by kernel_rfl
theorem res_80 : Tryz.f80.results.toList = [.cell 4 45] := rfl
theorem mode_80 [SpC] : X.mode 80 = .ro := nr rfl
theorem ok_81 : funcOk Tryz.f81 = true := by kernel_rfl
theorem res_81 : Tryz.f81.results.toList = [.cell 6 47, .cell 7 47, .cell 8 47] := rfl
theorem mode_81 [SpC] : X.mode 81 = .ro := nr rfl
theorem ok_85 : funcOk Tryz.f85 = true := by kernel_rfl
theorem res_85 : Tryz.f85.results.toList = [.cell 4 53] := rfl
theorem mode_85 [SpC] : X.mode 85 = .ro := nr rfl
theorem ok_86 : funcOk Tryz.f86 = true := by kernel_rfl
theorem res_86 : Tryz.f86.results.toList = [.tmp 4] := rfl
theorem mode_86 [SpC] : X.mode 86 = .ro := nr rfl
theorem ok_88 : funcOk Tryz.f88 = true := by kernel_rfl
theorem res_88 : Tryz.f88.results.toList = [.tmp 4] := rfl
theorem mode_88 [SpC] : X.mode 88 = .ro := nr rfl
theorem ok_89 : funcOk Tryz.f89 = true := by kernel_rfl
theorem res_89 : Tryz.f89.results.toList = [.tmp 2] := rfl
theorem mode_89 [SpC] : X.mode 89 = .ro := nr rfl
theorem ok_90 : funcOk Tryz.f90 = true := by kernel_rfl
theorem res_90 : Tryz.f90.results.toList = [.tmp 2] := rfl
theorem mode_90 [SpC] : X.mode 90 = .ro := nr rfl
theorem ok_93 : funcOk Tryz.f93 = true := by kernel_rfl
theorem res_93 : Tryz.f93.results.toList = [.tmp 4] := rfl
theorem mode_93 [SpC] : X.mode 93 = .ro := nr rfl
theorem ok_99 : funcOk Tryz.f99 = true := by kernel_rfl
theorem res_99 : Tryz.f99.results.toList = [.tmp 4] := rfl
theorem mode_99 [SpC] : X.mode 99 = .ro := nr rfl
theorem ok_115 : funcOk Tryz.f115 = true := by kernel_rfl
theorem res_115 : Tryz.f115.results.toList = [.cell 4 47] := rfl
theorem mode_115 [SpC] : X.mode 115 = .ro := nr rfl
theorem ok_116 : funcOk Tryz.f116 = true := by kernel_rfl
theorem res_116 : Tryz.f116.results.toList = [.cell 2 45] := rfl
theorem mode_116 [SpC] : X.mode 116 = .ro := nr rfl
theorem ok_117 : funcOk Tryz.f117 = true := by kernel_rfl
theorem res_117 : Tryz.f117.results.toList = [.cell 4 45] := rfl
theorem mode_117 [SpC] : X.mode 117 = .ro := nr rfl
theorem ok_118 : funcOk Tryz.f118 = true := by kernel_rfl
theorem res_118 : Tryz.f118.results.toList = [.cell 2 45] := rfl
theorem mode_118 [SpC] : X.mode 118 = .ro := nr rfl
theorem ok_119 : funcOk Tryz.f119 = true := by kernel_rfl
theorem res_119 : Tryz.f119.results.toList = [.cell 4 45] := rfl
theorem mode_119 [SpC] : X.mode 119 = .ro := nr rfl
theorem ok_120 : funcOk Tryz.f120 = true := by kernel_rfl
theorem res_120 : Tryz.f120.results.toList = [.tmp 6] := rfl
theorem mode_120 [SpC] : X.mode 120 = .top := nr rfl
theorem ok_121 : funcOk Tryz.f121 = true := by kernel_rfl
theorem res_121 : Tryz.f121.results.toList = [.tmp 4] := rfl
theorem mode_121 [SpC] : X.mode 121 = .ro := nr rfl
theorem ok_122 : funcOk Tryz.f122 = true := by kernel_rfl
theorem res_122 : Tryz.f122.results.toList = [.tmp 4] := rfl
theorem mode_122 [SpC] : X.mode 122 = .ro := nr rfl
theorem ok_123 : funcOk Tryz.f123 = true := by kernel_rfl
theorem res_123 : Tryz.f123.results.toList = [.tmp 2] := rfl
theorem mode_123 [SpC] : X.mode 123 = .ro := nr rfl
theorem ok_124 : funcOk Tryz.f124 = true := by kernel_rfl
theorem res_124 : Tryz.f124.results.toList = [.tmp 2] := rfl
theorem mode_124 [SpC] : X.mode 124 = .ro := nr rfl
theorem ok_125 : funcOk Tryz.f125 = true := by kernel_rfl
theorem res_125 : Tryz.f125.results.toList = [.tmp 4] := rfl
theorem mode_125 [SpC] : X.mode 125 = .ro := nr rfl
theorem ok_126 : funcOk Tryz.f126 = true := by kernel_rfl
theorem res_126 : Tryz.f126.results.toList = [.tmp 2] := rfl
theorem mode_126 [SpC] : X.mode 126 = .ro := nr rfl
theorem ok_127 : funcOk Tryz.f127 = true := by kernel_rfl
theorem res_127 : Tryz.f127.results.toList = [.tmp 4] := rfl
theorem mode_127 [SpC] : X.mode 127 = .ro := nr rfl
theorem ok_128 : funcOk Tryz.f128 = true := by kernel_rfl
theorem res_128 : Tryz.f128.results.toList = [.tmp 4] := rfl
theorem mode_128 [SpC] : X.mode 128 = .ro := nr rfl
theorem ok_129 : funcOk Tryz.f129 = true := by kernel_rfl
theorem res_129 : Tryz.f129.results.toList = [.tmp 2] := rfl
theorem mode_129 [SpC] : X.mode 129 = .ro := nr rfl
theorem ok_130 : funcOk Tryz.f130 = true := by kernel_rfl
theorem res_130 : Tryz.f130.results.toList = [.tmp 4] := rfl
theorem mode_130 [SpC] : X.mode 130 = .ro := nr rfl
theorem ok_131 : funcOk Tryz.f131 = true := by kernel_rfl
theorem res_131 : Tryz.f131.results.toList = [.tmp 4] := rfl
theorem mode_131 [SpC] : X.mode 131 = .ro := nr rfl
theorem ok_132 : funcOk Tryz.f132 = true := by kernel_rfl
theorem res_132 : Tryz.f132.results.toList = [.tmp 2] := rfl
theorem mode_132 [SpC] : X.mode 132 = .ro := nr rfl
theorem ok_133 : funcOk Tryz.f133 = true := by kernel_rfl
theorem res_133 : Tryz.f133.results.toList = [.tmp 4] := rfl
theorem mode_133 [SpC] : X.mode 133 = .ro := nr rfl
theorem ok_134 : funcOk Tryz.f134 = true := by kernel_rfl
theorem res_134 : Tryz.f134.results.toList = [.tmp 2] := rfl
theorem mode_134 [SpC] : X.mode 134 = .ro := nr rfl
theorem ok_135 : funcOk Tryz.f135 = true := by kernel_rfl
theorem res_135 : Tryz.f135.results.toList = [.tmp 2] := rfl
theorem mode_135 [SpC] : X.mode 135 = .ro := nr rfl
theorem ok_136 : funcOk Tryz.f136 = true := by kernel_rfl
theorem res_136 : Tryz.f136.results.toList = [.tmp 4] := rfl
theorem mode_136 [SpC] : X.mode 136 = .ro := nr rfl
theorem ok_137 : funcOk Tryz.f137 = true := by kernel_rfl
theorem res_137 : Tryz.f137.results.toList = [.tmp 3] := rfl
theorem mode_137 [SpC] : X.mode 137 = .ro := nr rfl
theorem ok_138 : funcOk Tryz.f138 = true := by kernel_rfl
theorem res_138 : Tryz.f138.results.toList = [.cell 4 47] := rfl
theorem mode_138 [SpC] : X.mode 138 = .ro := nr rfl
theorem ok_139 : funcOk Tryz.f139 = true := by kernel_rfl
theorem res_139 : Tryz.f139.results.toList = [] := rfl
theorem mode_139 [SpC] : X.mode 139 = .inl := nr rfl
theorem ok_140 : funcOk Tryz.f140 = true := by kernel_rfl
theorem res_140 : Tryz.f140.results.toList = [.tmp 3] := rfl
theorem mode_140 [SpC] : X.mode 140 = .ro := nr rfl
theorem ok_141 : funcOk Tryz.f141 = true := by kernel_rfl
theorem res_141 : Tryz.f141.results.toList = [.tmp 4] := rfl
theorem mode_141 [SpC] : X.mode 141 = .ro := nr rfl
theorem ok_142 : funcOk Tryz.f142 = true := by kernel_rfl
theorem res_142 : Tryz.f142.results.toList = [.cell 2 91] := rfl
theorem mode_142 [SpC] : X.mode 142 = .ro := nr rfl
theorem ok_143 : funcOk Tryz.f143 = true := by kernel_rfl
theorem res_143 : Tryz.f143.results.toList = [.cell 4 91, .tmp 5] := rfl
theorem mode_143 [SpC] : X.mode 143 = .ro := nr rfl
theorem ok_144 : funcOk Tryz.f144 = true := by kernel_rfl
theorem res_144 : Tryz.f144.results.toList = [.cell 4 83] := rfl
theorem mode_144 [SpC] : X.mode 144 = .ro := nr rfl
theorem ok_145 : funcOk Tryz.f145 = true := by kernel_rfl
theorem res_145 : Tryz.f145.results.toList = [.cell 4 47] := rfl
theorem mode_145 [SpC] : X.mode 145 = .ro := nr rfl
theorem ok_146 : funcOk Tryz.f146 = true := by kernel_rfl
theorem res_146 : Tryz.f146.results.toList = [.tmp 4] := rfl
theorem mode_146 [SpC] : X.mode 146 = .ro := nr rfl
theorem ok_147 : funcOk Tryz.f147 = true := by kernel_rfl
theorem res_147 : Tryz.f147.results.toList = [.cell 2 45] := rfl
theorem mode_147 [SpC] : X.mode 147 = .ro := nr rfl
theorem ok_148 : funcOk Tryz.f148 = true := by kernel_rfl
theorem res_148 : Tryz.f148.results.toList = [.tmp 4] := rfl
theorem mode_148 [SpC] : X.mode 148 = .ro := nr rfl
theorem ok_149 : funcOk Tryz.f149 = true := by kernel_rfl
theorem res_149 : Tryz.f149.results.toList = [.tmp 4] := rfl
theorem mode_149 [SpC] : X.mode 149 = .ro := nr rfl
theorem ok_150 : funcOk Tryz.f150 = true := by kernel_rfl
theorem res_150 : Tryz.f150.results.toList = [.cell 4 47] := rfl
theorem mode_150 [SpC] : X.mode 150 = .ro := nr rfl
theorem ok_151 : funcOk Tryz.f151 = true := by kernel_rfl
theorem res_151 : Tryz.f151.results.toList = [.cell 4 47] := rfl
theorem mode_151 [SpC] : X.mode 151 = .ro := nr rfl
theorem ok_154 : funcOk Tryz.f154 = true := by kernel_rfl
theorem res_154 : Tryz.f154.results.toList = [.cell 4 45] := rfl
theorem mode_154 [SpC] : X.mode 154 = .ro := nr rfl
theorem ok_155 : funcOk Tryz.f155 = true := by kernel_rfl
theorem res_155 : Tryz.f155.results.toList = [.tmp 4] := rfl
theorem mode_155 [SpC] : X.mode 155 = .ro := nr rfl
theorem ok_156 : funcOk Tryz.f156 = true := by kernel_rfl
theorem res_156 : Tryz.f156.results.toList = [.tmp 4] := rfl
theorem mode_156 [SpC] : X.mode 156 = .ro := nr rfl
theorem ok_157 : funcOk Tryz.f157 = true := by kernel_rfl
theorem res_157 : Tryz.f157.results.toList = [.tmp 4] := rfl
theorem mode_157 [SpC] : X.mode 157 = .ro := nr rfl
theorem ok_158 : funcOk Tryz.f158 = true := by kernel_rfl
theorem res_158 : Tryz.f158.results.toList = [.cell 0 45] := rfl
theorem mode_158 [SpC] : X.mode 158 = .ro := nr rfl
theorem ok_159 : funcOk Tryz.f159 = true := by kernel_rfl
theorem res_159 : Tryz.f159.results.toList = [.cell 4 45] := rfl
theorem mode_159 [SpC] : X.mode 159 = .ro := nr rfl
theorem ok_160 : funcOk Tryz.f160 = true := by kernel_rfl
theorem res_160 : Tryz.f160.results.toList = [.tmp 2] := rfl
theorem mode_160 [SpC] : X.mode 160 = .ro := nr rfl
theorem ok_161 : funcOk Tryz.f161 = true := by kernel_rfl
theorem res_161 : Tryz.f161.results.toList = [.cell 4 45, .cell 5 45] := rfl
theorem mode_161 [SpC] : X.mode 161 = .ro := nr rfl
theorem ok_162 : funcOk Tryz.f162 = true := by kernel_rfl
theorem res_162 : Tryz.f162.results.toList = [.cell 4 47] := rfl
theorem mode_162 [SpC] : X.mode 162 = .ro := nr rfl
theorem ok_163 : funcOk Tryz.f163 = true := by kernel_rfl
theorem res_163 : Tryz.f163.results.toList = [.cell 4 45] := rfl
theorem mode_163 [SpC] : X.mode 163 = .ro := nr rfl
theorem ok_164 : funcOk Tryz.f164 = true := by kernel_rfl
theorem res_164 : Tryz.f164.results.toList = [.tmp 2] := rfl
theorem mode_164 [SpC] : X.mode 164 = .ro := nr rfl
theorem ok_165 : funcOk Tryz.f165 = true := by kernel_rfl
theorem res_165 : Tryz.f165.results.toList = [.tmp 2] := rfl
theorem mode_165 [SpC] : X.mode 165 = .ro := nr rfl
theorem ok_167 : funcOk Tryz.f167 = true := by kernel_rfl
theorem res_167 : Tryz.f167.results.toList = [.cell 4 91, .tmp 5] := rfl
theorem mode_167 [SpC] : X.mode 167 = .ro := nr rfl
theorem ok_168 : funcOk Tryz.f168 = true := by kernel_rfl
theorem res_168 : Tryz.f168.results.toList = [.cell 4 83] := rfl
theorem mode_168 [SpC] : X.mode 168 = .ro := nr rfl
theorem ok_171 : funcOk Tryz.f171 = true := by kernel_rfl
theorem res_171 : Tryz.f171.results.toList = [.tmp 4] := rfl
theorem mode_171 [SpC] : X.mode 171 = .ro := nr rfl
theorem ok_172 : funcOk Tryz.f172 = true := by kernel_rfl
theorem res_172 : Tryz.f172.results.toList = [.tmp 4, .tmp 5] := rfl
theorem mode_172 [SpC] : X.mode 172 = .ro := nr rfl
theorem ok_180 : funcOk Tryz.f180 = true := by kernel_rfl
theorem res_180 : Tryz.f180.results.toList = [.cell 4 45] := rfl
theorem mode_180 [SpC] : X.mode 180 = .ro := nr rfl
theorem ok_181 : funcOk Tryz.f181 = true := by kernel_rfl
theorem res_181 : Tryz.f181.results.toList = [.cell 4 45, .cell 5 45] := rfl
theorem mode_181 [SpC] : X.mode 181 = .ro := nr rfl
theorem ok_182 : funcOk Tryz.f182 = true := by kernel_rfl
theorem res_182 : Tryz.f182.results.toList = [.cell 2 45] := rfl
theorem mode_182 [SpC] : X.mode 182 = .ro := nr rfl
theorem ok_183 : funcOk Tryz.f183 = true := by kernel_rfl
theorem res_183 : Tryz.f183.results.toList = [.tmp 2] := rfl
theorem mode_183 [SpC] : X.mode 183 = .ro := nr rfl
theorem ok_184 : funcOk Tryz.f184 = true := by kernel_rfl
theorem res_184 : Tryz.f184.results.toList = [.cell 4 45] := rfl
theorem mode_184 [SpC] : X.mode 184 = .ro := nr rfl
theorem ok_185 : funcOk Tryz.f185 = true := by kernel_rfl
theorem res_185 : Tryz.f185.results.toList = [.tmp 4] := rfl
theorem mode_185 [SpC] : X.mode 185 = .ro := nr rfl
theorem ok_186 : funcOk Tryz.f186 = true := by kernel_rfl
theorem res_186 : Tryz.f186.results.toList = [.tmp 4] := rfl
theorem mode_186 [SpC] : X.mode 186 = .ro := nr rfl
theorem ok_187 : funcOk Tryz.f187 = true := by kernel_rfl
theorem res_187 : Tryz.f187.results.toList = [.tmp 4] := rfl
theorem mode_187 [SpC] : X.mode 187 = .ro := nr rfl
theorem ok_188 : funcOk Tryz.f188 = true := by kernel_rfl
theorem res_188 : Tryz.f188.results.toList = [.tmp 4] := rfl
theorem mode_188 [SpC] : X.mode 188 = .ro := nr rfl
theorem ok_189 : funcOk Tryz.f189 = true := by kernel_rfl
theorem res_189 : Tryz.f189.results.toList = [.tmp 2] := rfl
theorem mode_189 [SpC] : X.mode 189 = .ro := nr rfl
theorem ok_190 : funcOk Tryz.f190 = true := by kernel_rfl
theorem res_190 : Tryz.f190.results.toList = [.tmp 2] := rfl
theorem mode_190 [SpC] : X.mode 190 = .ro := nr rfl
theorem ok_191 : funcOk Tryz.f191 = true := by kernel_rfl
theorem res_191 : Tryz.f191.results.toList = [.tmp 4] := rfl
theorem mode_191 [SpC] : X.mode 191 = .ro := nr rfl
theorem ok_192 : funcOk Tryz.f192 = true := by kernel_rfl
theorem res_192 : Tryz.f192.results.toList = [.tmp 6] := rfl
theorem mode_192 [SpC] : X.mode 192 = .ro := nr rfl
theorem ok_193 : funcOk Tryz.f193 = true := by kernel_rfl
theorem res_193 : Tryz.f193.results.toList = [.tmp 4] := rfl
theorem mode_193 [SpC] : X.mode 193 = .ro := nr rfl
theorem ok_194 : funcOk Tryz.f194 = true := by kernel_rfl
theorem res_194 : Tryz.f194.results.toList = [.tmp 4] := rfl
theorem mode_194 [SpC] : X.mode 194 = .ro := nr rfl
theorem ok_195 : funcOk Tryz.f195 = true := by kernel_rfl
theorem res_195 : Tryz.f195.results.toList = [.tmp 2] := rfl
theorem mode_195 [SpC] : X.mode 195 = .ro := nr rfl
theorem ok_196 : funcOk Tryz.f196 = true := by kernel_rfl
theorem res_196 : Tryz.f196.results.toList = [.tmp 6] := rfl
theorem mode_196 [SpC] : X.mode 196 = .ro := nr rfl
theorem ok_197 : funcOk Tryz.f197 = true := by kernel_rfl
theorem res_197 : Tryz.f197.results.toList = [.tmp 4] := rfl
theorem mode_197 [SpC] : X.mode 197 = .ro := nr rfl
theorem ok_198 : funcOk Tryz.f198 = true := by kernel_rfl
theorem res_198 : Tryz.f198.results.toList = [.tmp 2] := rfl
theorem mode_198 [SpC] : X.mode 198 = .ro := nr rfl
theorem ok_199 : funcOk Tryz.f199 = true := by kernel_rfl
theorem res_199 : Tryz.f199.results.toList = [.tmp 4] := rfl
theorem mode_199 [SpC] : X.mode 199 = .ro := nr rfl
theorem ok_200 : funcOk Tryz.f200 = true := by kernel_rfl
theorem res_200 : Tryz.f200.results.toList = [.cell 4 47] := rfl
theorem mode_200 [SpC] : X.mode 200 = .ro := nr rfl
theorem ok_201 : funcOk Tryz.f201 = true := by kernel_rfl
theorem res_201 : Tryz.f201.results.toList = [.tmp 4] := rfl
theorem mode_201 [SpC] : X.mode 201 = .ro := nr rfl
theorem ok_202 : funcOk Tryz.f202 = true := by kernel_rfl
theorem res_202 : Tryz.f202.results.toList = [.cell 4 83] := rfl
theorem mode_202 [SpC] : X.mode 202 = .ro := nr rfl
theorem ok_203 : funcOk Tryz.f203 = true := by kernel_rfl
theorem res_203 : Tryz.f203.results.toList = [.tmp 5] := rfl
theorem mode_203 [SpC] : X.mode 203 = .ro := nr rfl
theorem ok_204 : funcOk Tryz.f204 = true := by kernel_rfl
theorem res_204 : Tryz.f204.results.toList = [.cell 2 45, .tmp 3] := rfl
theorem mode_204 [SpC] : X.mode 204 = .ro := nr rfl
theorem ok_205 : funcOk Tryz.f205 = true := by kernel_rfl
theorem res_205 : Tryz.f205.results.toList = [.tmp 2, .tmp 3] := rfl
theorem mode_205 [SpC] : X.mode 205 = .ro := nr rfl
theorem ok_206 : funcOk Tryz.f206 = true := by kernel_rfl
theorem res_206 : Tryz.f206.results.toList = [.cell 2 47] := rfl
theorem mode_206 [SpC] : X.mode 206 = .ro := nr rfl
theorem ok_207 : funcOk Tryz.f207 = true := by kernel_rfl
theorem res_207 : Tryz.f207.results.toList = [.tmp 4] := rfl
theorem mode_207 [SpC] : X.mode 207 = .ro := nr rfl
theorem ok_218 : funcOk Tryz.f218 = true := by kernel_rfl
theorem res_218 : Tryz.f218.results.toList = [.tmp 2, .tmp 3] := rfl
theorem mode_218 [SpC] : X.mode 218 = .ro := nr rfl
theorem ok_219 : funcOk Tryz.f219 = true := by kernel_rfl
theorem res_219 : Tryz.f219.results.toList = [.cell 4 45, .cell 5 45] := rfl
theorem mode_219 [SpC] : X.mode 219 = .ro := nr rfl
theorem ok_220 : funcOk Tryz.f220 = true := by kernel_rfl
theorem res_220 : Tryz.f220.results.toList = [.cell 2 45] := rfl
theorem mode_220 [SpC] : X.mode 220 = .ro := nr rfl
theorem ok_221 : funcOk Tryz.f221 = true := by kernel_rfl
theorem res_221 : Tryz.f221.results.toList = [.tmp 2] := rfl
theorem mode_221 [SpC] : X.mode 221 = .ro := nr rfl
theorem ok_223 : funcOk Tryz.f223 = true := by kernel_rfl
theorem res_223 : Tryz.f223.results.toList = [.cell 2 45, .tmp 3] := rfl
theorem mode_223 [SpC] : X.mode 223 = .ro := nr rfl
theorem ok_224 : funcOk Tryz.f224 = true := by kernel_rfl
theorem res_224 : Tryz.f224.results.toList = [.tmp 2, .tmp 3] := rfl
theorem mode_224 [SpC] : X.mode 224 = .ro := nr rfl
theorem ok_226 : funcOk Tryz.f226 = true := by kernel_rfl
theorem res_226 : Tryz.f226.results.toList = [.tmp 4, .tmp 5] := rfl
theorem mode_226 [SpC] : X.mode 226 = .ro := nr rfl
theorem ok_231 : funcOk Tryz.f231 = true := by kernel_rfl
theorem res_231 : Tryz.f231.results.toList = [.tmp 2] := rfl
theorem mode_231 [SpC] : X.mode 231 = .ro := nr rfl
theorem ok_232 : funcOk Tryz.f232 = true := by kernel_rfl
theorem res_232 : Tryz.f232.results.toList = [.tmp 4, .tmp 5] := rfl
theorem mode_232 [SpC] : X.mode 232 = .ro := nr rfl
theorem ok_233 : funcOk Tryz.f233 = true := by kernel_rfl
theorem res_233 : Tryz.f233.results.toList = [.tmp 4] := rfl
theorem mode_233 [SpC] : X.mode 233 = .ro := nr rfl
theorem ok_234 : funcOk Tryz.f234 = true := by kernel_rfl
theorem res_234 : Tryz.f234.results.toList = [.tmp 4] := rfl
theorem mode_234 [SpC] : X.mode 234 = .ro := nr rfl
theorem ok_235 : funcOk Tryz.f235 = true := by kernel_rfl
theorem res_235 : Tryz.f235.results.toList = [.tmp 2] := rfl
theorem mode_235 [SpC] : X.mode 235 = .ro := nr rfl
theorem ok_236 : funcOk Tryz.f236 = true := by kernel_rfl
theorem res_236 : Tryz.f236.results.toList = [.tmp 4] := rfl
theorem mode_236 [SpC] : X.mode 236 = .ro := nr rfl
theorem ok_237 : funcOk Tryz.f237 = true := by kernel_rfl
theorem res_237 : Tryz.f237.results.toList = [.cell 4 47] := rfl
theorem mode_237 [SpC] : X.mode 237 = .ro := nr rfl
theorem ok_243 : funcOk Tryz.f243 = true := by kernel_rfl
theorem res_243 : Tryz.f243.results.toList = [.tmp 4, .tmp 5] := rfl
theorem mode_243 [SpC] : X.mode 243 = .ro := nr rfl
theorem ok_244 : funcOk Tryz.f244 = true := by kernel_rfl
theorem res_244 : Tryz.f244.results.toList = [.tmp 4, .tmp 5] := rfl
theorem mode_244 [SpC] : X.mode 244 = .ro := nr rfl
theorem ok_248 : funcOk Tryz.f248 = true := by kernel_rfl
theorem res_248 : Tryz.f248.results.toList = [.tmp 4] := rfl
theorem mode_248 [SpC] : X.mode 248 = .ro := nr rfl
theorem ok_249 : funcOk Tryz.f249 = true := by kernel_rfl
theorem res_249 : Tryz.f249.results.toList = [.tmp 4] := rfl
theorem mode_249 [SpC] : X.mode 249 = .ro := nr rfl
theorem ok_251 : funcOk Tryz.f251 = true := by kernel_rfl
theorem res_251 : Tryz.f251.results.toList = [.tmp 4] := rfl
theorem mode_251 [SpC] : X.mode 251 = .top := nr rfl
attribute [go_sem] ld_3 st_3 ld_4 st_4 ld_22 len_22 cp_22 ix_22 sli_22 bs_22 mk_22 ap_22 ld_23 st_23 len_23 ix_23 bs_23 ap_23 ld_24 st_24 len_24 ix_24 bs_24
attribute [go_sem] ap_24 ld_25 st_25 len_25 ix_25 bs_25 ap_25 ld_26 st_26 len_26 ix_26 bs_26 ap_26 ld_28 st_28 al_28 fa_28_0 fa_28_1 fa_28_2 fa_28_3 bl_28 len_31 ix_31 bs_31
attribute [go_sem] ap_31 ld_36 st_36 len_36 ix_36 bs_36 mk_36 ap_36 ld_37 st_37 len_37 cp_37 ix_37 sli_37 bs_37 mk_37 ap_37 ld_39 st_39 al_39 fa_39_0 fa_39_1 fa_39_2 fa_39_3 bl_39
attribute [go_sem] ld_45 st_45 al_45 fa_45_0 fa_45_1 bl_45 ld_47 st_47 al_47 fa_47_0 fa_47_1 bl_47
attribute [go_sem] ld_53 st_53 al_53 fa_53_0 fa_53_1 bl_53 ld_60 st_60 len_60 ix_60 sli_60 bs_60 ap_60 ld_61 st_61 len_61 ix_61 bs_61 ap_61 ld_63
attribute [go_sem] st_63 al_63 fa_63_0 fa_63_1 fa_63_2 fa_63_3 fa_63_4 bl_63
attribute [go_sem] ld_83 st_83 al_83 fa_83_0 fa_83_1 bl_83
attribute [go_sem] ld_91 st_91 al_91 fa_91_0 fa_91_1 fa_91_2 bl_91 ld_92 len_92 ix_92 sli_92 bs_92 ld_95 st_95 al_95 fa_95_0 fa_95_1 fa_95_2 fa_95_3 fa_95_4 fa_95_5 bl_95 ld_96 st_96
attribute [go_sem] al_96 ix_96 slp_96 sla_96 bl_96 ld_99 st_99 al_99 fa_99_0 fa_99_1 fa_99_2 fa_99_3 bl_99 ld_101 st_101 al_101 fa_101_0 fa_101_1 fa_101_2 fa_101_3 fa_101_4
attribute [go_sem] bl_101 ld_115 st_115 al_115 len_115 ix_115 bs_115 ap_115
attribute [go_sem] ld_168 fa_168_0 fa_168_1 bl_168
attribute [go_sem] cv_2_3 cv_2_5 cv_2_12 cv_2_21 cv_2_32 cv_2_181 cv_2_189 cv_2_216 cv_2_223 cv_2_240 cv_3_2 cv_3_5 cv_3_12 cv_3_21 cv_3_32 cv_3_181 cv_3_189 cv_3_216 cv_3_223 cv_3_240 cv_5_2 cv_5_3 cv_5_12 cv_5_21 cv_5_32 cv_5_181 cv_5_189 cv_5_216 cv_5_223 cv_5_240 cv_12_2 cv_12_3 cv_12_5 cv_12_21
attribute [go_sem] cv_12_32 cv_12_181 cv_12_189 cv_12_216 cv_12_223 cv_12_240 cv_21_2 cv_21_3 cv_21_5 cv_21_12 cv_21_32 cv_21_181 cv_21_189 cv_21_216 cv_21_223 cv_21_240 cv_32_2 cv_32_3 cv_32_5 cv_32_12 cv_32_21 cv_32_181 cv_32_189 cv_32_216 cv_32_223 cv_32_240 cv_181_2 cv_181_3 cv_181_5 cv_181_12 cv_181_21 cv_181_32 cv_181_189 cv_181_216 cv_181_223 cv_181_240 cv_189_2 cv_189_3 cv_189_5 cv_189_12 cv_189_21 cv_189_32 cv_189_181 cv_189_216 cv_189_223 cv_189_240 cv_216_2 cv_216_3 cv_216_5 cv_216_12 cv_216_21 cv_216_32 cv_216_181 cv_216_189 cv_216_223 cv_216_240 cv_223_2 cv_223_3 cv_223_5 cv_223_12
attribute [go_sem] cv_223_21 cv_223_32 cv_223_181 cv_223_189 cv_223_216 cv_223_240 cv_240_2 cv_240_3 cv_240_5 cv_240_12 cv_240_21 cv_240_32 cv_240_181 cv_240_189 cv_240_216 cv_240_223 be_4 bn_4 be_91 mode_3 mode_8 mode_9 mode_10 mode_11 mode_12 mode_14 mode_15 mode_16 mode_17 mode_18 mode_19 mode_22 mode_24 mode_25 mode_36
attribute [go_sem] mode_44 mode_45 mode_46 mode_47 mode_48 mode_49 mode_50 mode_51 mode_52 mode_53 mode_54 mode_55 mode_56 mode_57 mode_58 mode_59 mode_60 mode_61 mode_62 mode_63 mode_64 mode_65 mode_66 mode_67 mode_68 mode_69 mode_70 mode_71 mode_72 mode_73 mode_74 mode_76 mode_77 mode_78 mode_79 mode_80 mode_81 mode_85 mode_86 mode_88 mode_89 mode_90 mode_93
attribute [go_sem] mode_99 mode_115 mode_116 mode_117 mode_118 mode_119 mode_120 mode_121 mode_122 mode_123 mode_124 mode_125 mode_126 mode_127 mode_128 mode_129 mode_130 mode_131 mode_132 mode_133 mode_134 mode_135 mode_136 mode_137 mode_138 mode_139 mode_140 mode_141 mode_142 mode_143 mode_144 mode_145 mode_146 mode_147 mode_148 mode_149 mode_150 mode_151 mode_154 mode_155 mode_156 mode_157 mode_158 mode_159 mode_160 mode_161 mode_162 mode_163 mode_164 mode_165
attribute [go_sem] mode_167 mode_168 mode_171 mode_172 mode_180 mode_181 mode_182 mode_183 mode_184 mode_185 mode_186 mode_187 mode_188 mode_189 mode_190 mode_191 mode_192 mode_193 mode_194 mode_195 mode_196 mode_197 mode_198 mode_199 mode_200 mode_201 mode_202 mode_203 mode_204 mode_205 mode_206 mode_207 mode_218 mode_219 mode_220 mode_221 mode_223 mode_224 mode_226
attribute [go_sem] mode_231 mode_232 mode_233 mode_234 mode_235 mode_236 mode_237 mode_243 mode_244 mode_248 mode_249 mode_251
end Go.Proofs.YtenhjccadhlgoaaGreat.Abs
section
namespace Go.Proofs.YtenhjccadhlgoaaGreat.Abs
abbrev Bz : Int := 1000000000
abbrev Bn : Nat := 1000000000
def val : List Int → Int
 | [] => 0
 | d :: l => d + Bz * val l
def okd (l : List Int) : Prop := ∀ d ∈ l, 0 ≤ d ∧ d < Bz
def digs (n : Nat) : List Int := if h : n = 0 then [] else ((n % Bn : Nat) : Int) :: digs (n / Bn)
termination_by n
decreasing_by exact Nat.div_lt_self (by omega) (by decide)
theorem digs_zero : digs 0 = [] := by unfold digs; rfl
theorem digs_pos (n : Nat) (h : n ≠ 0) : digs n = ((n % Bn : Nat) : Int) :: digs (n / Bn) := by
 conv => lhs; unfold digs
 rw [dif_neg h]
theorem digs_lt (n : Nat) (h0 : n ≠ 0) (h : n < Bn) : digs n = [(n : Int)] := by
 rw [digs_pos n h0, Nat.mod_eq_of_lt h, Nat.div_eq_of_lt h, digs_zero]
theorem digs_two (n : Nat) (h0 : Bn ≤ n) (h : n < Bn * Bn) : digs n = [((n % Bn : Nat) : Int), ((n / Bn : Nat) : Int)] := by
 rw [digs_pos n (by simp [Bn] at h0; omega), digs_lt (n / Bn) (by simp [Bn] at h0 ⊢; omega) (by simp [Bn] at h ⊢; omega)]
theorem digs_three (n : Nat) (h0 : Bn * Bn ≤ n) (h : n < Bn * Bn * Bn) : digs n = [((n % Bn : Nat) : Int), ((n / Bn % Bn : Nat) : Int), ((n / Bn / Bn : Nat) : Int)] := by
 rw [digs_pos n (by simp [Bn] at h0; omega), digs_two (n / Bn) (by simp [Bn] at h0 ⊢; omega) (by simp [Bn] at h ⊢; omega)]
theorem okd_nil : okd [] := by simp [okd]
theorem okd_cons (d : Int) (l : List Int) : okd (d :: l) ↔ (0 ≤ d ∧ d < Bz) ∧ okd l := by simp [okd]
theorem okd_app (l m : List Int) : okd (l ++ m) ↔ okd l ∧ okd m := by
 simp only [okd, List.mem_append]; exact ⟨fun h => ⟨fun d hd => h d (.inl hd), fun d hd => h d (.inr hd)⟩, fun h d hd => hd.elim (h.1 d) (h.2 d)⟩
theorem okd_take {l : List Int} (h : okd l) (n : Nat) : okd (l.take n) := fun d hd => h d (List.mem_of_mem_take hd)
theorem okd_drop {l : List Int} (h : okd l) (n : Nat) : okd (l.drop n) := fun d hd => h d (List.mem_of_mem_drop hd)
theorem okd_getD {l : List Int} (h : okd l) (n : Nat) : 0 ≤ l.getD n 0 ∧ l.getD n 0 < Bz := by
 rw [List.getD_eq_getElem?_getD]
 by_cases hn : n < l.length
 ·rw [List.getElem?_eq_getElem hn]; exact h _ (List.getElem_mem hn)
 ·rw [List.getElem?_eq_none (by omega)]; simp [Bz]
theorem okd_set {l : List Int} (h : okd l) (n : Nat) (d : Int) (hd : 0 ≤ d ∧ d < Bz) : okd (l.set n d) := by
 intro x hx
 rcases List.mem_or_eq_of_mem_set hx with h1 | h1
 ·exact h x h1
 ·exact h1 ▸ hd
theorem okd_rep (n : Nat) : okd (List.replicate n 0) := by intro d hd; rw [List.eq_of_mem_replicate hd]; simp [Bz]
theorem okd_digs (n : Nat) : okd (digs n) := by
 induction n using Nat.strongRecOn with
 | ind n ih =>
  by_cases h : n = 0
  ·rw [h, digs_zero]; exact okd_nil
  ·rw [digs_pos n h, okd_cons]
   exact ⟨by simp only [Bz, Bn]; omega, ih _ (Nat.div_lt_self (by omega) (by decide))⟩
theorem val_nil : val [] = 0 := rfl
theorem val_cons (d : Int) (l : List Int) : val (d :: l) = d + Bz * val l := rfl
theorem val_digs (n : Nat) : val (digs n) = n := by
 induction n using Nat.strongRecOn with
 | ind n ih =>
  by_cases h : n = 0
  ·rw [h, digs_zero]; rfl
  ·rw [digs_pos n h, val, ih _ (Nat.div_lt_self (by omega) (by decide))]
   simp only [Bz, Bn]; omega
theorem val_nonneg {l : List Int} (h : okd l) : 0 ≤ val l := by
 induction l with
 | nil => exact Int.le_refl 0
 | cons d l ih =>
  rw [okd_cons] at h
  have := ih h.2
  rw [val]; simp only [Bz] at *; omega
theorem val_lt {l : List Int} (h : okd l) : val l < Bz ^ l.length := by
 induction l with
 | nil => decide
 | cons d l ih =>
  rw [okd_cons] at h
  have h1 := ih h.2
  rw [val, List.length_cons, Int.pow_succ]
  generalize Bz ^ l.length = p at *
  simp only [Bz] at *; omega
theorem val_app (l m : List Int) : val (l ++ m) = val l + Bz ^ l.length * val m := by
 induction l with
 | nil => simp [val]
 | cons d l ih =>
  rw [List.cons_append, val, ih, val, List.length_cons, Int.pow_succ]
  grind
theorem val_rep (n : Nat) : val (List.replicate n 0) = 0 := by
 induction n with
 | zero => rfl
 | succ n ih => rw [List.replicate_succ, val, ih]; rfl
theorem val_set (l : List Int) (n : Nat) (d : Int) (h : n < l.length) : val (l.set n d) = val l + Bz ^ n * (d - l.getD n 0) := by
 induction l generalizing n with
 | nil => simp at h
 | cons x l ih =>
  cases n with
  | zero => simp [val]; omega
  | succ n =>
   rw [List.set_cons_succ, val, val, ih n (by simpa using h), Int.pow_succ, List.getD_cons_succ]
   grind
theorem val_split (l : List Int) (n : Nat) (h : n < l.length) : val l = val (l.take n) + Bz ^ n * l.getD n 0 + Bz ^ (n + 1) * val (l.drop (n + 1)) := by
 have e : l = l.take n ++ (l.getD n 0 :: l.drop (n + 1)) := by
  have hd : l.getD n 0 = l[n] := by simp [List.getD_eq_getElem?_getD, List.getElem?_eq_getElem h]
  rw [hd, ← List.drop_eq_getElem_cons h, List.take_append_drop]
 conv => lhs; rw [e]
 rw [val_app, val, List.length_take, Nat.min_eq_left (by omega), Int.pow_succ]
 grind
theorem val_take_succ (l : List Int) (n : Nat) (h : n < l.length) : val (l.take (n + 1)) = val (l.take n) + Bz ^ n * l.getD n 0 := by
 have hd : l.getD n 0 = l[n] := by simp [List.getD_eq_getElem?_getD, List.getElem?_eq_getElem h]
 rw [List.take_succ_eq_append_getElem h, val_app, List.length_take, Nat.min_eq_left (by omega), hd]; simp [val]
theorem val_drop (l : List Int) (n : Nat) (h : n < l.length) : val (l.drop n) = l.getD n 0 + Bz * val (l.drop (n + 1)) := by
 have hd : l.getD n 0 = l[n] := by simp [List.getD_eq_getElem?_getD, List.getElem?_eq_getElem h]
 rw [List.drop_eq_getElem_cons h, val, hd]
def trim (l : List Int) : List Int := (l.reverse.dropWhile (· == 0)).reverse
theorem trim_nil : trim [] = [] := rfl
theorem trim_snoc (l : List Int) (d : Int) : trim (l ++ [d]) = if d = 0 then trim l else l ++ [d] := by
 unfold trim
 rw [List.reverse_append, List.reverse_singleton, List.singleton_append, List.dropWhile_cons]
 by_cases h : d = 0
 ·simp [h]
 ·simp [h]
theorem trim_cons (d : Int) (l : List Int) : trim (d :: l) = if trim l = [] then (if d = 0 then [] else [d]) else d :: trim l := by
 unfold trim
 rw [List.reverse_cons, List.dropWhile_append]
 by_cases h : List.dropWhile (fun x => x == 0) l.reverse = []
 ·rw [if_pos (by simp [h]), if_pos (by simp [h]), List.dropWhile_cons]
  by_cases hd : d = 0 <;> simp [hd]
 ·rw [if_neg (by simpa using h), if_neg (by simpa using h), List.reverse_append]; rfl
theorem val_zero_iff {l : List Int} (h : okd l) : val l = 0 ↔ trim l = [] := by
 induction l with
 | nil => simp [val, trim]
 | cons d l ih =>
  rw [okd_cons] at h
  have h1 := ih h.2
  have h2 := val_nonneg h.2
  rw [trim_cons, val]
  by_cases h3 : trim l = []
  ·rw [if_pos h3]
   have h4 := h1.2 h3
   rw [h4]
   by_cases h5 : d = 0 <;> simp [h5]
  ·rw [if_neg h3]
   have h4 : val l ≠ 0 := fun h => h3 (h1.1 h)
   simp only [Bz] at *
   constructor
   ·intro h5; omega
   ·intro h5; cases h5
theorem trim_digs {l : List Int} (h : okd l) : trim l = digs (val l).toNat := by
 induction l with
 | nil => rw [val_nil]; exact digs_zero.symm
 | cons d l ih =>
  have hh := h
  rw [okd_cons] at h
  have h1 := ih h.2
  have h2 := val_nonneg h.2
  have hz := val_zero_iff h.2
  rw [trim_cons]
  by_cases h3 : trim l = []
  ·rw [if_pos h3, val, hz.2 h3]
   by_cases h5 : d = 0
   ·rw [if_pos h5, h5]; exact digs_zero.symm
   ·rw [if_neg h5, digs_lt _ (by omega) (by simp only [Bz, Bn] at *; omega)]
    simp only [Bz] at *; congr 1; omega
  ·rw [if_neg h3, h1]
   have h4 : val l ≠ 0 := fun h => h3 (hz.1 h)
   rw [val, digs_pos (d + Bz * val l).toNat (by simp only [Bz] at *; omega)]
   congr 1
   ·simp only [Bz, Bn] at *; omega
   ·congr 1; simp only [Bz, Bn] at *; omega
theorem trim_zero (l : List Int) (n : Nat) (h : n + 1 ≤ l.length) (h0 : l.getD n 0 = 0) : trim (l.take (n + 1)) = trim (l.take n) := by
 have hd : l.getD n 0 = l[n] := by simp [List.getD_eq_getElem?_getD, List.getElem?_eq_getElem (show n < l.length from h)]
 rw [List.take_succ_eq_append_getElem (by omega), trim_snoc, if_pos (by rw [← hd]; exact h0)]
theorem trim_keep (l : List Int) (n : Nat) (h : n + 1 ≤ l.length) (h0 : l.getD n 0 ≠ 0) : trim (l.take (n + 1)) = l.take (n + 1) := by
 have hd : l.getD n 0 = l[n] := by simp [List.getD_eq_getElem?_getD, List.getElem?_eq_getElem (show n < l.length from h)]
 rw [List.take_succ_eq_append_getElem (by omega), trim_snoc, if_neg (by rw [← hd]; exact h0)]
theorem trim_digs_self (n : Nat) : trim (digs n) = digs n := by rw [trim_digs (okd_digs n), val_digs]; simp
theorem len_digs (n k : Nat) : (digs n).length ≤ k ↔ n < Bn ^ k := by
 induction k generalizing n with
 | zero =>
  by_cases h : n = 0
  ·simp [h, digs_zero]
  ·rw [digs_pos n h]; simp; omega
 | succ k ih =>
  by_cases h : n = 0
  ·rw [h, digs_zero]; simp only [List.length_nil, Nat.zero_le, true_iff]; exact Nat.pow_pos (by decide)
  ·rw [digs_pos n h, List.length_cons, Nat.add_le_add_iff_right, ih, Nat.pow_succ, Nat.div_lt_iff_lt_mul (by decide)]
def cmpD : List Int → List Int → Int
 | [], _ => 0
 | _, [] => 0
 | a :: l, b :: m => if cmpD l m ≠ 0 then cmpD l m else if a < b then -1 else if b < a then 1 else 0
def cmpL (a b : List Int) : Int := if a.length < b.length then -1 else if b.length < a.length then 1 else cmpD a b
def cmpZ (x y : Int) : Int := if x < y then -1 else if y < x then 1 else 0
theorem cmpZ_lt {x y : Int} (h : x < y) : cmpZ x y = -1 := if_pos h
theorem cmpZ_gt {x y : Int} (h : y < x) : cmpZ x y = 1 := by rw [cmpZ, if_neg (by omega), if_pos h]
theorem cmpZ_self (x : Int) : cmpZ x x = 0 := by rw [cmpZ, if_neg (by omega), if_neg (by omega)]
theorem cmpD_val (a b : List Int) (ha : okd a) (hb : okd b) (h : a.length = b.length) : cmpD a b = cmpZ (val a) (val b) := by
 induction a generalizing b with
 | nil => cases b with
  | nil => rfl
  | cons y b => simp at h
 | cons x a ih => cases b with
  | nil => simp at h
  | cons y b =>
   rw [okd_cons] at ha hb
   have h1 := ih b ha.2 hb.2 (by simpa using h)
   rw [cmpD, h1, val, val]
   rcases Int.lt_trichotomy (val a) (val b) with h2 | h2 | h2
   ·rw [cmpZ_lt h2, if_pos (by decide), cmpZ_lt (by simp only [Bz] at *; omega)]
   ·rw [h2, cmpZ_self, if_neg (by decide)]
    unfold cmpZ
    simp only [Int.add_lt_add_iff_right]
   ·rw [cmpZ_gt h2, if_pos (by decide), cmpZ_gt (by simp only [Bz] at *; omega)]
theorem cmpL_digs (m n : Nat) : cmpL (digs m) (digs n) = cmpZ m n := by
 unfold cmpL
 split <;> rename_i h
 ·have h1 := (len_digs m (digs m).length).1 (Nat.le_refl _)
  have h2 : ¬ n < Bn ^ (digs m).length := fun hh => by have := (len_digs n (digs m).length).2 hh; omega
  rw [cmpZ, if_pos (by omega)]
 ·split <;> rename_i h'
  ·have h1 := (len_digs n (digs n).length).1 (Nat.le_refl _)
   have h2 : ¬ m < Bn ^ (digs n).length := fun hh => by have := (len_digs m (digs n).length).2 hh; omega
   rw [cmpZ, if_neg (by omega), if_pos (by omega)]
  ·rw [cmpD_val _ _ (okd_digs m) (okd_digs n) (by omega), val_digs, val_digs]
end Go.Proofs.YtenhjccadhlgoaaGreat.Abs
end
