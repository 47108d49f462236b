/-
  Packages broad and gantryref14: do two boxes meet. No conditions. Packages broad and gantryref14: Join, and boxes from the one to the other. No conditions. Lists of boxes: Boxes, givens, Near, Same, SameInts. No conditions. Lists of boxes: givens, Near. No conditions. Lists of points: the least and the greatest one, and the box of a shape on its way. No conditions.
-/
import Derived.Test.YtjccikgdebgebaaGreatDoorQ08
set_option linter.unusedSimpArgs false
set_option linter.unusedVariables false
section
set_option linter.unusedSimpArgs false
namespace Go.Proofs.YtjccikgdebgebaaGreatDoor.Abs
open Go
/-- Two boxes (Lo.X, Lo.Y, Hi.X, Hi.Y) have a point in common. -/
def meetB (ax ay ax' ay' bx by0 bx' by' : Rat) : Bool := decide (¬ ax' < bx ∧ ¬ bx' < ax ∧ ¬ ay' < by0 ∧ ¬ by' < ay)
theorem meetB_eq (ax ay ax' ay' bx by0 bx' by' : Rat) : meetB ax ay ax' ay' bx by0 bx' by' = decide (¬ cmpQ ax' bx < 0 ∧ ¬ cmpQ bx' ax < 0 ∧ ¬ cmpQ ay' by0 < 0 ∧ ¬ cmpQ by' ay < 0) := by
  unfold meetB; simp only [cmpQ_neg]
theorem cmpQ_pos' (x y : Rat) : 0 < cmpQ x y ↔ y < x := by unfold cmpQ; grind
theorem or_eq (a b c d : Rat) : decide (b < a ∨ d < c) = decide (0 < cmpQ a b ∨ 0 < cmpQ c d) := by simp only [cmpQ_pos']
theorem weak_rptr (cs : List AV) : (AV.rptr cs).weak = .rptr (AV.weak.go cs) := by simp [AV.weak]
set_option maxRecDepth 100000 in
set_option maxHeartbeats 2000000 in
theorem M_21 [SpC] {ax ay ax' ay' bx by0 bx' by' : Rat} {n1 n2 n3 n4 n5 n6 n7 n8 : Nat} [RS ax n1] [RS ay n2] [RS ax' n3] [RS ay' n4] [RS bx n5] [RS by0 n6] [RS bx' n7] [RS by' n8] (h : n1 + n2 + n3 + n4 + n5 + n6 + n7 + n8 < 2 ^ 24) :
    M X 21 [.agg [zS (Rat.num (ax)), zD (Rat.num (ax)), zS (dz (ax)), zD (dz (ax)), zS (Rat.num (ay)), zD (Rat.num (ay)), zS (dz (ay)), zD (dz (ay)), zS (Rat.num (ax')), zD (Rat.num (ax')), zS (dz (ax')), zD (dz (ax')), zS (Rat.num (ay')), zD (Rat.num (ay')), zS (dz (ay')), zD (dz (ay'))], .agg [zS (Rat.num (bx)), zD (Rat.num (bx)), zS (dz (bx)), zD (dz (bx)), zS (Rat.num (by0)), zD (Rat.num (by0)), zS (dz (by0)), zD (dz (by0)), zS (Rat.num (bx')), zD (Rat.num (bx')), zS (dz (bx')), zD (dz (bx')), zS (Rat.num (by')), zD (Rat.num (by')), zS (dz (by')), zD (dz (by'))]] = some (.bool (meetB ax ay ax' ay' bx by0 bx' by')) := by
  refine M_of X (fn := Tryz.f21) Tryz.func21 rfl ok_21 mode_21 res_21 _ rfl _ ?_
  intro r hr
  have c1 := M_45 (x := ax') (y := bx) (by omega)
  have c2 := M_45 (x := bx') (y := ax) (by omega)
  have c3 := M_45 (x := ay') (y := by0) (by omega)
  have c4 := M_45 (x := by') (y := ay) (by omega)
  rw [hr, meetB_eq]
  generalize cmpQ ax' bx = v1 at *
  generalize cmpQ bx' ax = v2 at *
  generalize cmpQ ay' by0 = v3 at *
  generalize cmpQ by' ay = v4 at *
  by_cases b1 : v1 < 0
  · simp (maxSteps := 4000000) (disch := first | omega | (simp only [List.length_set, List.length_replicate, List.length_append, List.length_take, List.length_drop, List.length_cons, List.length_nil]; omega)) only [go_sem, reduceCtorEq, Nat.reduceEqDiff, Nat.reduceAdd, Nat.reduceMul, Nat.reduceSub, ↓Nat.reduceBEq, Nat.reduceLT, Nat.reduceLeDiff, Int.reduceLT, Int.reduceLE, Int.reduceNeg, Int.reduceToNat, mode_45, c1]
    try rw [decide_eq_false (by omega)]
  · by_cases b2 : v2 < 0
    · simp (maxSteps := 4000000) (disch := first | omega | (simp only [List.length_set, List.length_replicate, List.length_append, List.length_take, List.length_drop, List.length_cons, List.length_nil]; omega)) only [go_sem, reduceCtorEq, Nat.reduceEqDiff, Nat.reduceAdd, Nat.reduceMul, Nat.reduceSub, ↓Nat.reduceBEq, Nat.reduceLT, Nat.reduceLeDiff, Int.reduceLT, Int.reduceLE, Int.reduceNeg, Int.reduceToNat, mode_45, c1, c2]
      try rw [decide_eq_false (by omega)]
    · by_cases b3 : v3 < 0
      · simp (maxSteps := 4000000) (disch := first | omega | (simp only [List.length_set, List.length_replicate, List.length_append, List.length_take, List.length_drop, List.length_cons, List.length_nil]; omega)) only [go_sem, reduceCtorEq, Nat.reduceEqDiff, Nat.reduceAdd, Nat.reduceMul, Nat.reduceSub, ↓Nat.reduceBEq, Nat.reduceLT, Nat.reduceLeDiff, Int.reduceLT, Int.reduceLE, Int.reduceNeg, Int.reduceToNat, mode_45, c1, c2, c3]
        try rw [decide_eq_false (by omega)]
      · by_cases b4 : v4 < 0
        · simp (maxSteps := 4000000) (disch := first | omega | (simp only [List.length_set, List.length_replicate, List.length_append, List.length_take, List.length_drop, List.length_cons, List.length_nil]; omega)) only [go_sem, reduceCtorEq, Nat.reduceEqDiff, Nat.reduceAdd, Nat.reduceMul, Nat.reduceSub, ↓Nat.reduceBEq, Nat.reduceLT, Nat.reduceLeDiff, Int.reduceLT, Int.reduceLE, Int.reduceNeg, Int.reduceToNat, mode_45, c1, c2, c3, c4]
          try rw [decide_eq_false (by omega)]
        · simp (maxSteps := 4000000) (disch := first | omega | (simp only [List.length_set, List.length_replicate, List.length_append, List.length_take, List.length_drop, List.length_cons, List.length_nil]; omega)) only [go_sem, reduceCtorEq, Nat.reduceEqDiff, Nat.reduceAdd, Nat.reduceMul, Nat.reduceSub, ↓Nat.reduceBEq, Nat.reduceLT, Nat.reduceLeDiff, Int.reduceLT, Int.reduceLE, Int.reduceNeg, Int.reduceToNat, mode_45, c1, c2, c3, c4]
          try rw [decide_eq_true (by omega)]
set_option maxRecDepth 100000 in
theorem M_189 [SpC] (x y : Rat) : M X 189 [.agg [zS (Rat.num (x)), zD (Rat.num (x)), zS (dz (x)), zD (dz (x)), zS (Rat.num (y)), zD (Rat.num (y)), zS (dz (y)), zD (dz (y))]] = some (.agg [zS (Rat.num (x)), zD (Rat.num (x)), zS (dz (x)), zD (dz (x))]) := by
  refine M_of X (fn := Tryz.f189) Tryz.func189 rfl ok_189 mode_189 res_189 _ rfl _ ?_
  intro r hr
  simp (maxSteps := 4000000) (disch := first | omega | (simp only [List.length_set, List.length_replicate, List.length_append, List.length_take, List.length_drop, List.length_cons, List.length_nil]; omega)) only [go_sem, reduceCtorEq, Nat.reduceEqDiff, Nat.reduceAdd, Nat.reduceMul, Nat.reduceSub, ↓Nat.reduceBEq, Nat.reduceLT, Nat.reduceLeDiff, Int.reduceLT, Int.reduceLE, Int.reduceNeg, Int.reduceToNat]
  rw [hr]
set_option maxRecDepth 100000 in
theorem M_191 [SpC] (x y : Rat) : M X 191 [.agg [zS (Rat.num (x)), zD (Rat.num (x)), zS (dz (x)), zD (dz (x)), zS (Rat.num (y)), zD (Rat.num (y)), zS (dz (y)), zD (dz (y))]] = some (.agg [zS (Rat.num (y)), zD (Rat.num (y)), zS (dz (y)), zD (dz (y))]) := by
  refine M_of X (fn := Tryz.f191) Tryz.func191 rfl ok_191 mode_191 res_191 _ rfl _ ?_
  intro r hr
  simp (maxSteps := 4000000) (disch := first | omega | (simp only [List.length_set, List.length_replicate, List.length_append, List.length_take, List.length_drop, List.length_cons, List.length_nil]; omega)) only [go_sem, reduceCtorEq, Nat.reduceEqDiff, Nat.reduceAdd, Nat.reduceMul, Nat.reduceSub, ↓Nat.reduceBEq, Nat.reduceLT, Nat.reduceLeDiff, Int.reduceLT, Int.reduceLE, Int.reduceNeg, Int.reduceToNat]
  rw [hr]
set_option maxRecDepth 100000 in
theorem M_190 [SpC] (x y : Int) : M X 190 [.agg [.int .i64 x, .int .i64 y]] = some (.int .i64 x) := by
  refine M_of X (fn := Tryz.f190) Tryz.func190 rfl ok_190 mode_190 res_190 _ rfl _ ?_
  intro r hr
  simp (maxSteps := 4000000) (disch := first | omega | (simp only [List.length_set, List.length_replicate, List.length_append, List.length_take, List.length_drop, List.length_cons, List.length_nil]; omega)) only [go_sem, reduceCtorEq, Nat.reduceEqDiff, Nat.reduceAdd, Nat.reduceMul, Nat.reduceSub, ↓Nat.reduceBEq, Nat.reduceLT, Nat.reduceLeDiff, Int.reduceLT, Int.reduceLE, Int.reduceNeg, Int.reduceToNat]
  rw [hr]
set_option maxRecDepth 100000 in
theorem M_192 [SpC] (x y : Int) : M X 192 [.agg [.int .i64 x, .int .i64 y]] = some (.int .i64 y) := by
  refine M_of X (fn := Tryz.f192) Tryz.func192 rfl ok_192 mode_192 res_192 _ rfl _ ?_
  intro r hr
  simp (maxSteps := 4000000) (disch := first | omega | (simp only [List.length_set, List.length_replicate, List.length_append, List.length_take, List.length_drop, List.length_cons, List.length_nil]; omega)) only [go_sem, reduceCtorEq, Nat.reduceEqDiff, Nat.reduceAdd, Nat.reduceMul, Nat.reduceSub, ↓Nat.reduceBEq, Nat.reduceLT, Nat.reduceLeDiff, Int.reduceLT, Int.reduceLE, Int.reduceNeg, Int.reduceToNat]
  rw [hr]
set_option maxRecDepth 100000 in
set_option maxHeartbeats 2000000 in
theorem meet_x [SpC] {ax ay ax' ay' bx by0 bx' by' : Rat} {n1 n3 n5 n7 : Nat} [RS ax n1] [RS ax' n3] [RS bx n5] [RS bx' n7] (h : n1 + n3 + n5 + n7 < 2 ^ 24) :
    M X 58 [.agg [.func (.func 189) [] [], .func (.func 190) [] []], .rptr [zS (Rat.num (ax)), zD (Rat.num (ax)), zS (dz (ax)), zD (dz (ax)), zS (Rat.num (ay)), zD (Rat.num (ay)), zS (dz (ay)), zD (dz (ay)), zS (Rat.num (ax')), zD (Rat.num (ax')), zS (dz (ax')), zD (dz (ax')), zS (Rat.num (ay')), zD (Rat.num (ay')), zS (dz (ay')), zD (dz (ay'))], .rptr [zS (Rat.num (bx)), zD (Rat.num (bx)), zS (dz (bx)), zD (dz (bx)), zS (Rat.num (by0)), zD (Rat.num (by0)), zS (dz (by0)), zD (dz (by0)), zS (Rat.num (bx')), zD (Rat.num (bx')), zS (dz (bx')), zD (dz (bx')), zS (Rat.num (by')), zD (Rat.num (by')), zS (dz (by')), zD (dz (by'))]] = some (.bool (decide (bx' < ax ∨ ax' < bx))) := by
  refine M_of X (fn := Tryz.f58) Tryz.func58 rfl ok_58 mode_58 res_58 _ rfl _ ?_
  intro r hr
  have c1 := M_59 (x := ax) (y := bx') (by omega)
  have c2 := M_59 (x := bx) (y := ax') (by omega)
  rw [hr, or_eq]
  generalize cmpQ ax bx' = v1 at *
  generalize cmpQ bx ax' = v2 at *
  by_cases b1 : 0 < v1
  · simp (maxSteps := 4000000) (disch := first | omega | (simp only [List.length_set, List.length_replicate, List.length_append, List.length_take, List.length_drop, List.length_cons, List.length_nil]; omega)) only [go_sem, reduceCtorEq, Nat.reduceEqDiff, Nat.reduceAdd, Nat.reduceMul, Nat.reduceSub, ↓Nat.reduceBEq, Nat.reduceLT, Nat.reduceLeDiff, Int.reduceLT, Int.reduceLE, Int.reduceNeg, Int.reduceToNat, M_189, weak_rptr, mode_59, c1]
    try rw [decide_eq_true (by omega)]
  · by_cases b2 : 0 < v2
    · simp (maxSteps := 4000000) (disch := first | omega | (simp only [List.length_set, List.length_replicate, List.length_append, List.length_take, List.length_drop, List.length_cons, List.length_nil]; omega)) only [go_sem, reduceCtorEq, Nat.reduceEqDiff, Nat.reduceAdd, Nat.reduceMul, Nat.reduceSub, ↓Nat.reduceBEq, Nat.reduceLT, Nat.reduceLeDiff, Int.reduceLT, Int.reduceLE, Int.reduceNeg, Int.reduceToNat, M_189, weak_rptr, mode_59, c1, c2]
      try rw [decide_eq_true (by omega)]
    · simp (maxSteps := 4000000) (disch := first | omega | (simp only [List.length_set, List.length_replicate, List.length_append, List.length_take, List.length_drop, List.length_cons, List.length_nil]; omega)) only [go_sem, reduceCtorEq, Nat.reduceEqDiff, Nat.reduceAdd, Nat.reduceMul, Nat.reduceSub, ↓Nat.reduceBEq, Nat.reduceLT, Nat.reduceLeDiff, Int.reduceLT, Int.reduceLE, Int.reduceNeg, Int.reduceToNat, M_189, weak_rptr, mode_59, c1, c2]
      try rw [decide_eq_false (by omega)]
set_option maxRecDepth 100000 in
set_option maxHeartbeats 2000000 in
theorem meet_y [SpC] {ax ay ax' ay' bx by0 bx' by' : Rat} {n1 n3 n5 n7 : Nat} [RS ay n1] [RS ay' n3] [RS by0 n5] [RS by' n7] (h : n1 + n3 + n5 + n7 < 2 ^ 24) :
    M X 58 [.agg [.func (.func 191) [] [], .func (.func 192) [] []], .rptr [zS (Rat.num (ax)), zD (Rat.num (ax)), zS (dz (ax)), zD (dz (ax)), zS (Rat.num (ay)), zD (Rat.num (ay)), zS (dz (ay)), zD (dz (ay)), zS (Rat.num (ax')), zD (Rat.num (ax')), zS (dz (ax')), zD (dz (ax')), zS (Rat.num (ay')), zD (Rat.num (ay')), zS (dz (ay')), zD (dz (ay'))], .rptr [zS (Rat.num (bx)), zD (Rat.num (bx)), zS (dz (bx)), zD (dz (bx)), zS (Rat.num (by0)), zD (Rat.num (by0)), zS (dz (by0)), zD (dz (by0)), zS (Rat.num (bx')), zD (Rat.num (bx')), zS (dz (bx')), zD (dz (bx')), zS (Rat.num (by')), zD (Rat.num (by')), zS (dz (by')), zD (dz (by'))]] = some (.bool (decide (by' < ay ∨ ay' < by0))) := by
  refine M_of X (fn := Tryz.f58) Tryz.func58 rfl ok_58 mode_58 res_58 _ rfl _ ?_
  intro r hr
  have c1 := M_59 (x := ay) (y := by') (by omega)
  have c2 := M_59 (x := by0) (y := ay') (by omega)
  rw [hr, or_eq]
  generalize cmpQ ay by' = v1 at *
  generalize cmpQ by0 ay' = v2 at *
  by_cases b1 : 0 < v1
  · simp (maxSteps := 4000000) (disch := first | omega | (simp only [List.length_set, List.length_replicate, List.length_append, List.length_take, List.length_drop, List.length_cons, List.length_nil]; omega)) only [go_sem, reduceCtorEq, Nat.reduceEqDiff, Nat.reduceAdd, Nat.reduceMul, Nat.reduceSub, ↓Nat.reduceBEq, Nat.reduceLT, Nat.reduceLeDiff, Int.reduceLT, Int.reduceLE, Int.reduceNeg, Int.reduceToNat, M_191, weak_rptr, mode_59, c1]
    try rw [decide_eq_true (by omega)]
  · by_cases b2 : 0 < v2
    · simp (maxSteps := 4000000) (disch := first | omega | (simp only [List.length_set, List.length_replicate, List.length_append, List.length_take, List.length_drop, List.length_cons, List.length_nil]; omega)) only [go_sem, reduceCtorEq, Nat.reduceEqDiff, Nat.reduceAdd, Nat.reduceMul, Nat.reduceSub, ↓Nat.reduceBEq, Nat.reduceLT, Nat.reduceLeDiff, Int.reduceLT, Int.reduceLE, Int.reduceNeg, Int.reduceToNat, M_191, weak_rptr, mode_59, c1, c2]
      try rw [decide_eq_true (by omega)]
    · simp (maxSteps := 4000000) (disch := first | omega | (simp only [List.length_set, List.length_replicate, List.length_append, List.length_take, List.length_drop, List.length_cons, List.length_nil]; omega)) only [go_sem, reduceCtorEq, Nat.reduceEqDiff, Nat.reduceAdd, Nat.reduceMul, Nat.reduceSub, ↓Nat.reduceBEq, Nat.reduceLT, Nat.reduceLeDiff, Int.reduceLT, Int.reduceLE, Int.reduceNeg, Int.reduceToNat, M_191, weak_rptr, mode_59, c1, c2]
      try rw [decide_eq_false (by omega)]
/-- The table of the axes. -/
theorem G_axes [SpC] : X.G 0 = some [.func (.func 189) [] [], .func (.func 190) [] [], .func (.func 191) [] [], .func (.func 192) [] []] := nr rfl
theorem sla_axes [SpC] (a b c d : AV) : aSlice X 81 (.rptr [a, b, c, d]) none none none = some (.loc ⟨.ro [a, b, c, d] 2 true, [], []⟩) := by
  unfold aSlice
  rw [und_81]
  simp only [size_80, nx_some]
  rfl
theorem idx_axes0 [SpC] (a b c d : AV) (k : IntKind) : aIndex X 81 (.agg [a, b, c, d]) (.int k 0) = some (.loc ⟨.agg [a, b], [], []⟩) := by
  unfold aIndex
  rw [und_81]
  simp only [size_80, nx_some]
  unfold partAV
  rw [shape_80]
  rfl
theorem idx_axes1 [SpC] (a b c d : AV) (k : IntKind) : aIndex X 81 (.agg [a, b, c, d]) (.int k 1) = some (.loc ⟨.agg [c, d], [], []⟩) := by
  unfold aIndex
  rw [und_81]
  simp only [size_80, nx_some]
  unfold partAV
  rw [shape_80]
  rfl
theorem meet_or (ax ay ax' ay' bx by0 bx' by' : Rat) : meetB ax ay ax' ay' bx by0 bx' by' = !(decide (bx' < ax ∨ ax' < bx) || decide (by' < ay ∨ ay' < by0)) := by
  unfold meetB; grind
set_option maxRecDepth 100000 in
set_option maxHeartbeats 2000000 in
theorem index2 [SpC] {ax ay ax' ay' bx by0 bx' by' : Rat} (b1 b2 : Bool)
    (h1 : M X 58 [.agg [.func (.func 189) [] [], .func (.func 190) [] []], .rptr [zS (Rat.num (ax)), zD (Rat.num (ax)), zS (dz (ax)), zD (dz (ax)), zS (Rat.num (ay)), zD (Rat.num (ay)), zS (dz (ay)), zD (dz (ay)), zS (Rat.num (ax')), zD (Rat.num (ax')), zS (dz (ax')), zD (dz (ax')), zS (Rat.num (ay')), zD (Rat.num (ay')), zS (dz (ay')), zD (dz (ay'))], .rptr [zS (Rat.num (bx)), zD (Rat.num (bx)), zS (dz (bx)), zD (dz (bx)), zS (Rat.num (by0)), zD (Rat.num (by0)), zS (dz (by0)), zD (dz (by0)), zS (Rat.num (bx')), zD (Rat.num (bx')), zS (dz (bx')), zD (dz (bx')), zS (Rat.num (by')), zD (Rat.num (by')), zS (dz (by')), zD (dz (by'))]] = some (.bool b1))
    (h2 : M X 58 [.agg [.func (.func 191) [] [], .func (.func 192) [] []], .rptr [zS (Rat.num (ax)), zD (Rat.num (ax)), zS (dz (ax)), zD (dz (ax)), zS (Rat.num (ay)), zD (Rat.num (ay)), zS (dz (ay)), zD (dz (ay)), zS (Rat.num (ax')), zD (Rat.num (ax')), zS (dz (ax')), zD (dz (ax')), zS (Rat.num (ay')), zD (Rat.num (ay')), zS (dz (ay')), zD (dz (ay'))], .rptr [zS (Rat.num (bx)), zD (Rat.num (bx)), zS (dz (bx)), zD (dz (bx)), zS (Rat.num (by0)), zD (Rat.num (by0)), zS (dz (by0)), zD (dz (by0)), zS (Rat.num (bx')), zD (Rat.num (bx')), zS (dz (bx')), zD (dz (bx')), zS (Rat.num (by')), zD (Rat.num (by')), zS (dz (by')), zD (dz (by'))]] = some (.bool b2)) :
    M X 100 [.ro [.func (.func 189) [] [], .func (.func 190) [] [], .func (.func 191) [] [], .func (.func 192) [] []] 2 false,
      .func (.func 58) [] [.rptr [zS (Rat.num (ax)), zD (Rat.num (ax)), zS (dz (ax)), zD (dz (ax)), zS (Rat.num (ay)), zD (Rat.num (ay)), zS (dz (ay)), zD (dz (ay)), zS (Rat.num (ax')), zD (Rat.num (ax')), zS (dz (ax')), zD (dz (ax')), zS (Rat.num (ay')), zD (Rat.num (ay')), zS (dz (ay')), zD (dz (ay'))], .rptr [zS (Rat.num (bx)), zD (Rat.num (bx)), zS (dz (bx)), zD (dz (bx)), zS (Rat.num (by0)), zD (Rat.num (by0)), zS (dz (by0)), zD (dz (by0)), zS (Rat.num (bx')), zD (Rat.num (bx')), zS (dz (bx')), zD (dz (bx')), zS (Rat.num (by')), zD (Rat.num (by')), zS (dz (by')), zD (dz (by'))]]] = some (.int .i64 (if b1 then 0 else if b2 then 1 else -1)) := by
  refine M_of X (fn := Tryz.f100) Tryz.func100 rfl ok_100 mode_100 res_100 _ rfl _ ?_
  intro r hr
  rw [hr]
  cases b1
  · cases b2
    · simp (maxSteps := 4000000) (disch := first | omega | (simp only [List.length_set, List.length_replicate, List.length_append, List.length_take, List.length_drop, List.length_cons, List.length_nil]; omega)) only [go_sem, reduceCtorEq, Nat.reduceEqDiff, Nat.reduceAdd, Nat.reduceMul, Nat.reduceSub, ↓Nat.reduceBEq, Nat.reduceLT, Nat.reduceLeDiff, Int.reduceLT, Int.reduceLE, Int.reduceNeg, Int.reduceToNat, W_unroll, unQ_normal, unQ_ret, unQ_exit, Int.reduceAdd, Int.reduceSub, Int.reduceMul, weak_rptr, mode_58, h1, h2]
    · simp (maxSteps := 4000000) (disch := first | omega | (simp only [List.length_set, List.length_replicate, List.length_append, List.length_take, List.length_drop, List.length_cons, List.length_nil]; omega)) only [go_sem, reduceCtorEq, Nat.reduceEqDiff, Nat.reduceAdd, Nat.reduceMul, Nat.reduceSub, ↓Nat.reduceBEq, Nat.reduceLT, Nat.reduceLeDiff, Int.reduceLT, Int.reduceLE, Int.reduceNeg, Int.reduceToNat, W_unroll, unQ_normal, unQ_ret, unQ_exit, Int.reduceAdd, Int.reduceSub, Int.reduceMul, weak_rptr, mode_58, h1, h2]
  · simp (maxSteps := 4000000) (disch := first | omega | (simp only [List.length_set, List.length_replicate, List.length_append, List.length_take, List.length_drop, List.length_cons, List.length_nil]; omega)) only [go_sem, reduceCtorEq, Nat.reduceEqDiff, Nat.reduceAdd, Nat.reduceMul, Nat.reduceSub, ↓Nat.reduceBEq, Nat.reduceLT, Nat.reduceLeDiff, Int.reduceLT, Int.reduceLE, Int.reduceNeg, Int.reduceToNat, W_unroll, unQ_normal, unQ_ret, unQ_exit, Int.reduceAdd, Int.reduceSub, Int.reduceMul, weak_rptr, mode_58, h1]
set_option maxRecDepth 100000 in
set_option maxHeartbeats 2000000 in
theorem M_19 [SpC] {ax ay ax' ay' bx by0 bx' by' : Rat} {n1 n2 n3 n4 n5 n6 n7 n8 : Nat} [RS ax n1] [RS ay n2] [RS ax' n3] [RS ay' n4] [RS bx n5] [RS by0 n6] [RS bx' n7] [RS by' n8] (h : n1 + n2 + n3 + n4 + n5 + n6 + n7 + n8 < 2 ^ 24) :
    M X 19 [.agg [zS (Rat.num (ax)), zD (Rat.num (ax)), zS (dz (ax)), zD (dz (ax)), zS (Rat.num (ay)), zD (Rat.num (ay)), zS (dz (ay)), zD (dz (ay)), zS (Rat.num (ax')), zD (Rat.num (ax')), zS (dz (ax')), zD (dz (ax')), zS (Rat.num (ay')), zD (Rat.num (ay')), zS (dz (ay')), zD (dz (ay'))], .agg [zS (Rat.num (bx)), zD (Rat.num (bx)), zS (dz (bx)), zD (dz (bx)), zS (Rat.num (by0)), zD (Rat.num (by0)), zS (dz (by0)), zD (dz (by0)), zS (Rat.num (bx')), zD (Rat.num (bx')), zS (dz (bx')), zD (dz (bx')), zS (Rat.num (by')), zD (Rat.num (by')), zS (dz (by')), zD (dz (by'))]] = some (.bool (meetB ax ay ax' ay' bx by0 bx' by')) := by
  have hx := meet_x (ax := ax) (ay := ay) (ax' := ax') (ay' := ay') (bx := bx) (by0 := by0) (bx' := bx') (by' := by') (by omega)
  have hy := meet_y (ax := ax) (ay := ay) (ax' := ax') (ay' := ay') (bx := bx) (by0 := by0) (bx' := bx') (by' := by') (by omega)
  have hi := index2 _ _ hx hy
  rw [meet_or]
  generalize decide (bx' < ax ∨ ax' < bx) = b1 at *
  generalize decide (by' < ay ∨ ay' < by0) = b2 at *
  have hc : M X 57 [.ro [.func (.func 189) [] [], .func (.func 190) [] [], .func (.func 191) [] [], .func (.func 192) [] []] 2 false,
      .func (.func 58) [] [.rptr [zS (Rat.num (ax)), zD (Rat.num (ax)), zS (dz (ax)), zD (dz (ax)), zS (Rat.num (ay)), zD (Rat.num (ay)), zS (dz (ay)), zD (dz (ay)), zS (Rat.num (ax')), zD (Rat.num (ax')), zS (dz (ax')), zD (dz (ax')), zS (Rat.num (ay')), zD (Rat.num (ay')), zS (dz (ay')), zD (dz (ay'))], .rptr [zS (Rat.num (bx)), zD (Rat.num (bx)), zS (dz (bx)), zD (dz (bx)), zS (Rat.num (by0)), zD (Rat.num (by0)), zS (dz (by0)), zD (dz (by0)), zS (Rat.num (bx')), zD (Rat.num (bx')), zS (dz (bx')), zD (dz (bx')), zS (Rat.num (by')), zD (Rat.num (by')), zS (dz (by')), zD (dz (by'))]]] = some (.bool (b1 || b2)) := by
    refine M_of X (fn := Tryz.f57) Tryz.func57 rfl ok_57 mode_57 res_57 _ rfl _ ?_
    intro r hr
    rw [hr]
    simp (maxSteps := 4000000) (disch := first | omega | (simp only [List.length_set, List.length_replicate, List.length_append, List.length_take, List.length_drop, List.length_cons, List.length_nil]; omega)) only [go_sem, reduceCtorEq, Nat.reduceEqDiff, Nat.reduceAdd, Nat.reduceMul, Nat.reduceSub, ↓Nat.reduceBEq, Nat.reduceLT, Nat.reduceLeDiff, Int.reduceLT, Int.reduceLE, Int.reduceNeg, Int.reduceToNat, weak_rptr, mode_100, hi]
    cases b1 <;> cases b2 <;> simp
  refine M_of X (fn := Tryz.f19) Tryz.func19 rfl ok_19 mode_19 res_19 _ rfl _ ?_
  intro r hr
  rw [hr]
  simp (maxSteps := 4000000) (disch := first | omega | (simp only [List.length_set, List.length_replicate, List.length_append, List.length_take, List.length_drop, List.length_cons, List.length_nil]; omega)) only [go_sem, reduceCtorEq, Nat.reduceEqDiff, Nat.reduceAdd, Nat.reduceMul, Nat.reduceSub, ↓Nat.reduceBEq, Nat.reduceLT, Nat.reduceLeDiff, Int.reduceLT, Int.reduceLE, Int.reduceNeg, Int.reduceToNat, weak_rptr, G_axes, sla_axes, mode_57, hc]
end Go.Proofs.YtjccikgdebgebaaGreatDoor.Abs
end
section
set_option linter.unusedSimpArgs false
namespace Go.Proofs.YtjccikgdebgebaaGreatDoor.Abs
open Go
set_option maxRecDepth 100000 in
theorem M_20 [SpC] (a b c d : Rat) : M X 20 [.agg [zS (Rat.num (a)), zD (Rat.num (a)), zS (dz (a)), zD (dz (a)), zS (Rat.num (b)), zD (Rat.num (b)), zS (dz (b)), zD (dz (b)), zS (Rat.num (c)), zD (Rat.num (c)), zS (dz (c)), zD (dz (c)), zS (Rat.num (d)), zD (Rat.num (d)), zS (dz (d)), zD (dz (d))]] = some (.agg [zS (Rat.num (a)), zD (Rat.num (a)), zS (dz (a)), zD (dz (a)), zS (Rat.num (b)), zD (Rat.num (b)), zS (dz (b)), zD (dz (b)), zS (Rat.num (c)), zD (Rat.num (c)), zS (dz (c)), zD (dz (c)), zS (Rat.num (d)), zD (Rat.num (d)), zS (dz (d)), zD (dz (d))]) := by
  refine M_of X (fn := Tryz.f20) Tryz.func20 rfl ok_20 mode_20 res_20 _ rfl _ ?_
  intro r hr
  rw [hr]
  simp (maxSteps := 4000000) (disch := first | omega | (simp only [List.length_set, List.length_replicate, List.length_append, List.length_take, List.length_drop, List.length_cons, List.length_nil]; omega)) only [go_sem, reduceCtorEq, Nat.reduceEqDiff, Nat.reduceAdd, Nat.reduceMul, Nat.reduceSub, ↓Nat.reduceBEq, Nat.reduceLT, Nat.reduceLeDiff, Int.reduceLT, Int.reduceLE, Int.reduceNeg, Int.reduceToNat]
set_option maxRecDepth 100000 in
theorem M_14 [SpC] (a b c d : Rat) : M X 14 [.agg [zS (Rat.num (a)), zD (Rat.num (a)), zS (dz (a)), zD (dz (a)), zS (Rat.num (b)), zD (Rat.num (b)), zS (dz (b)), zD (dz (b)), zS (Rat.num (c)), zD (Rat.num (c)), zS (dz (c)), zD (dz (c)), zS (Rat.num (d)), zD (Rat.num (d)), zS (dz (d)), zD (dz (d))]] = some (.agg [zS (Rat.num (a)), zD (Rat.num (a)), zS (dz (a)), zD (dz (a)), zS (Rat.num (b)), zD (Rat.num (b)), zS (dz (b)), zD (dz (b)), zS (Rat.num (c)), zD (Rat.num (c)), zS (dz (c)), zD (dz (c)), zS (Rat.num (d)), zD (Rat.num (d)), zS (dz (d)), zD (dz (d))]) := by
  refine M_of X (fn := Tryz.f14) Tryz.func14 rfl ok_14 mode_14 res_14 _ rfl _ ?_
  intro r hr
  rw [hr]
  simp (maxSteps := 4000000) (disch := first | omega | (simp only [List.length_set, List.length_replicate, List.length_append, List.length_take, List.length_drop, List.length_cons, List.length_nil]; omega)) only [go_sem, reduceCtorEq, Nat.reduceEqDiff, Nat.reduceAdd, Nat.reduceMul, Nat.reduceSub, ↓Nat.reduceBEq, Nat.reduceLT, Nat.reduceLeDiff, Int.reduceLT, Int.reduceLE, Int.reduceNeg, Int.reduceToNat]
set_option maxRecDepth 100000 in
set_option maxHeartbeats 1000000 in
theorem M_23 [SpC] {ax ay ax' ay' bx by0 bx' by' : Rat} {n1 n2 n3 n4 n5 n6 n7 n8 : Nat} [RS ax n1] [RS ay n2] [RS ax' n3] [RS ay' n4] [RS bx n5] [RS by0 n6] [RS bx' n7] [RS by' n8] (h : n1 + n2 + n3 + n4 + n5 + n6 + n7 + n8 < 2 ^ 24) :
    M X 23 [.agg [zS (Rat.num (ax)), zD (Rat.num (ax)), zS (dz (ax)), zD (dz (ax)), zS (Rat.num (ay)), zD (Rat.num (ay)), zS (dz (ay)), zD (dz (ay)), zS (Rat.num (ax')), zD (Rat.num (ax')), zS (dz (ax')), zD (dz (ax')), zS (Rat.num (ay')), zD (Rat.num (ay')), zS (dz (ay')), zD (dz (ay'))], .agg [zS (Rat.num (bx)), zD (Rat.num (bx)), zS (dz (bx)), zD (dz (bx)), zS (Rat.num (by0)), zD (Rat.num (by0)), zS (dz (by0)), zD (dz (by0)), zS (Rat.num (bx')), zD (Rat.num (bx')), zS (dz (bx')), zD (dz (bx')), zS (Rat.num (by')), zD (Rat.num (by')), zS (dz (by')), zD (dz (by'))]] = some (.agg [zS (Rat.num (min ax bx)), zD (Rat.num (min ax bx)), zS (dz (min ax bx)), zD (dz (min ax bx)), zS (Rat.num (min ay by0)), zD (Rat.num (min ay by0)), zS (dz (min ay by0)), zD (dz (min ay by0)), zS (Rat.num (max ax' bx')), zD (Rat.num (max ax' bx')), zS (dz (max ax' bx')), zD (dz (max ax' bx')), zS (Rat.num (max ay' by')), zD (Rat.num (max ay' by')), zS (dz (max ay' by')), zD (dz (max ay' by'))]) := by
  refine M_of X (fn := Tryz.f23) Tryz.func23 rfl ok_23 mode_23 res_23 _ rfl _ ?_
  intro r hr
  rw [hr]
  simp (maxSteps := 4000000) (disch := first | omega | (simp only [List.length_set, List.length_replicate, List.length_append, List.length_take, List.length_drop, List.length_cons, List.length_nil]; omega)) only [go_sem, reduceCtorEq, Nat.reduceEqDiff, Nat.reduceAdd, Nat.reduceMul, Nat.reduceSub, ↓Nat.reduceBEq, Nat.reduceLT, Nat.reduceLeDiff, Int.reduceLT, Int.reduceLE, Int.reduceNeg, Int.reduceToNat, M_61, M_62]
set_option maxRecDepth 100000 in
set_option maxHeartbeats 2000000 in
theorem M_22 [SpC] {ax ay ax' ay' bx by0 bx' by' : Rat} {n1 n2 n3 n4 n5 n6 n7 n8 : Nat} [h1 : RS ax n1] [h2 : RS ay n2] [h3 : RS ax' n3] [h4 : RS ay' n4] [h5 : RS bx n5] [h6 : RS by0 n6] [h7 : RS bx' n7] [h8 : RS by' n8] (h : n1 + n2 + n3 + n4 + n5 + n6 + n7 + n8 < 2 ^ 24) :
    M X 22 [.agg [zS (Rat.num (ax)), zD (Rat.num (ax)), zS (dz (ax)), zD (dz (ax)), zS (Rat.num (ay)), zD (Rat.num (ay)), zS (dz (ay)), zD (dz (ay)), zS (Rat.num (ax')), zD (Rat.num (ax')), zS (dz (ax')), zD (dz (ax')), zS (Rat.num (ay')), zD (Rat.num (ay')), zS (dz (ay')), zD (dz (ay'))], .agg [zS (Rat.num (bx)), zD (Rat.num (bx)), zS (dz (bx)), zD (dz (bx)), zS (Rat.num (by0)), zD (Rat.num (by0)), zS (dz (by0)), zD (dz (by0)), zS (Rat.num (bx')), zD (Rat.num (bx')), zS (dz (bx')), zD (dz (bx')), zS (Rat.num (by')), zD (Rat.num (by')), zS (dz (by')), zD (dz (by'))]] = some (.agg [zS (Rat.num (min ax bx)), zD (Rat.num (min ax bx)), zS (dz (min ax bx)), zD (dz (min ax bx)), zS (Rat.num (min ay by0)), zD (Rat.num (min ay by0)), zS (dz (min ay by0)), zD (dz (min ay by0)), zS (Rat.num (max ax' bx')), zD (Rat.num (max ax' bx')), zS (dz (max ax' bx')), zD (dz (max ax' bx')), zS (Rat.num (max ay' by')), zD (Rat.num (max ay' by')), zS (dz (max ay' by')), zD (dz (max ay' by'))]) := by
  have e1 := ext1 (p := ax) (x := bx) (h1.mono (m := n1 + n5) (by omega)) (h5.mono (by omega)) (by omega)
  have e2 := ext1 (p := ay) (x := by0) (h2.mono (m := n2 + n6) (by omega)) (h6.mono (by omega)) (by omega)
  have e3 := ext1 (p := ax') (x := bx') (h3.mono (m := n3 + n7) (by omega)) (h7.mono (by omega)) (by omega)
  have e4 := ext1 (p := ay') (x := by') (h4.mono (m := n4 + n8) (by omega)) (h8.mono (by omega)) (by omega)
  refine M_of X (fn := Tryz.f22) Tryz.func22 rfl ok_22 mode_22 res_22 _ rfl _ ?_
  intro r hr
  rw [hr]
  simp (maxSteps := 4000000) (disch := first | omega | (simp only [List.length_set, List.length_replicate, List.length_append, List.length_take, List.length_drop, List.length_cons, List.length_nil]; omega)) only [go_sem, reduceCtorEq, Nat.reduceEqDiff, Nat.reduceAdd, Nat.reduceMul, Nat.reduceSub, ↓Nat.reduceBEq, Nat.reduceLT, Nat.reduceLeDiff, Int.reduceLT, Int.reduceLE, Int.reduceNeg, Int.reduceToNat, M_189, M_191, W_unroll, unQ_normal, unQ_ret, unQ_exit, Int.reduceAdd, Int.reduceSub, Int.reduceMul, replA_1, replA_2, G_axes, sla_axes, idx_axes0, idx_axes1, mode_60, e1, e2, e3, e4]
end Go.Proofs.YtjccikgdebgebaaGreatDoor.Abs
end
section
set_option linter.unusedSimpArgs false
namespace Go.Proofs.YtjccikgdebgebaaGreatDoor.Abs
open Go
structure BoxQ where
  lx : Rat
  ly : Rat
  hx : Rat
  hy : Rat
def boxC : List BoxQ → List AV
  | [] => []
  | b :: l => [zS (Rat.num (b.lx)), zD (Rat.num (b.lx)), zS (dz (b.lx)), zD (dz (b.lx)), zS (Rat.num (b.ly)), zD (Rat.num (b.ly)), zS (dz (b.ly)), zD (dz (b.ly)), zS (Rat.num (b.hx)), zD (Rat.num (b.hx)), zS (dz (b.hx)), zD (dz (b.hx)), zS (Rat.num (b.hy)), zD (Rat.num (b.hy)), zS (dz (b.hy)), zD (dz (b.hy))] ++ boxC l
theorem boxC_nil : boxC [] = [] := nr rfl
theorem boxC_length (l : List BoxQ) : (boxC l).length = 16 * l.length := by
  induction l with
  | nil => rfl
  | cons x l ih => simp [boxC, ih]; omega
def box0 : BoxQ := ⟨0, 0, 0, 0⟩
theorem boxC_drop (l : List BoxQ) (k : Nat) (h : k < l.length) : List.drop (k * 16) (boxC l) = [zS (Rat.num ((l.getD k box0).lx)), zD (Rat.num ((l.getD k box0).lx)), zS (dz ((l.getD k box0).lx)), zD (dz ((l.getD k box0).lx)), zS (Rat.num ((l.getD k box0).ly)), zD (Rat.num ((l.getD k box0).ly)), zS (dz ((l.getD k box0).ly)), zD (dz ((l.getD k box0).ly)), zS (Rat.num ((l.getD k box0).hx)), zD (Rat.num ((l.getD k box0).hx)), zS (dz ((l.getD k box0).hx)), zD (dz ((l.getD k box0).hx)), zS (Rat.num ((l.getD k box0).hy)), zD (Rat.num ((l.getD k box0).hy)), zS (dz ((l.getD k box0).hy)), zD (dz ((l.getD k box0).hy))] ++ boxC (l.drop (k + 1)) := by
  induction l generalizing k with
  | nil => simp at h
  | cons x l ih =>
    cases k with
    | zero => simp [boxC]
    | succ k =>
      have := ih k (by simpa using h)
      rw [show (k + 1) * 16 = k * 16 + 16 by omega]
      simpa [boxC] using this
theorem boxC_snoc (l : List BoxQ) (a b c d : Rat) : boxC l ++ [zS (Rat.num (a)), zD (Rat.num (a)), zS (dz (a)), zD (dz (a)), zS (Rat.num (b)), zD (Rat.num (b)), zS (dz (b)), zD (dz (b)), zS (Rat.num (c)), zD (Rat.num (c)), zS (dz (c)), zD (dz (c)), zS (Rat.num (d)), zD (Rat.num (d)), zS (dz (d)), zD (dz (d))] = boxC (l ++ [⟨a, b, c, d⟩]) := by
  induction l with
  | nil => rfl
  | cons x l ih => simp only [boxC, List.append_assoc, List.cons_append, ih]
theorem boxC_one (a b c d : Rat) : [zS (Rat.num (a)), zD (Rat.num (a)), zS (dz (a)), zD (dz (a)), zS (Rat.num (b)), zD (Rat.num (b)), zS (dz (b)), zD (dz (b)), zS (Rat.num (c)), zD (Rat.num (c)), zS (dz (c)), zD (dz (c)), zS (Rat.num (d)), zD (Rat.num (d)), zS (dz (d)), zD (dz (d))] = boxC [⟨a, b, c, d⟩] := rfl
theorem boxC_all (P : AV → Prop) (hs : ∀ z, P (zS z)) (hd : ∀ z, P (zD z)) (l : List BoxQ) : ∀ c ∈ boxC l, P c := by
  induction l with
  | nil => intro c hc; simp [boxC] at hc
  | cons b l ih =>
    intro c hc
    simp only [boxC, List.cons_append, List.nil_append, List.mem_cons] at hc
    rcases hc with rfl | rfl | rfl | rfl | rfl | rfl | rfl | rfl | rfl | rfl | rfl | rfl | rfl | rfl | rfl | rfl | hc
    all_goals first | exact hs _ | exact hd _ | exact ih _ hc
theorem snaps_boxC (h : Heap) (d : Nat) (l : List BoxQ) : snaps (snap h (d + 1)) (boxC l) = some (boxC l, []) :=
  snaps_of (boxC_all _ (fun _ => snap_zS ..) (fun _ => snap_zD ..) l)
theorem weaks_all {l : List AV} (h : ∀ c ∈ l, c.weak = c) : AV.weak.go l = l := by
  induction l with
  | nil => rfl
  | cons a l ih => rw [weakgo_cons, h a (by simp), ih fun c hc => h c (by simp [hc])]
theorem weaks_boxC (l : List BoxQ) : AV.weak.go (boxC l) = boxC l := weaks_all (boxC_all _ weak_zS weak_zD l)
class RB (b : BoxQ) (n : outParam Nat) : Prop where
  r1 : RS b.lx n
  r2 : RS b.ly n
  r3 : RS b.hx n
  r4 : RS b.hy n
instance rb_lx {b : BoxQ} {n : Nat} [h : RB b n] : RS b.lx n := h.r1
instance rb_ly {b : BoxQ} {n : Nat} [h : RB b n] : RS b.ly n := h.r2
instance rb_hx {b : BoxQ} {n : Nat} [h : RB b n] : RS b.hx n := h.r3
instance rb_hy {b : BoxQ} {n : Nat} [h : RB b n] : RS b.hy n := h.r4
def okB (l : List BoxQ) (n : Nat) : Prop := ∀ b ∈ l, RB b n
theorem getD_mem (l : List BoxQ) (k : Nat) (h : k < l.length) : l.getD k box0 ∈ l := by
  have : l.getD k box0 = l[k] := by simp [List.getD_eq_getElem?_getD, List.getElem?_eq_getElem h]
  rw [this]; exact List.getElem_mem h
/-- A slice of larger things that grows. -/
def GrowC (lo : Nat) (h : Heap) (nx : Nat) (v : AV) (cs : List AV) (n s : Nat) : Prop := (v = .ro [] 0 true ∧ cs = [] ∧ n = 0) ∨ ∃ B, (lo ≤ B ∧ B < nx) ∧ v = .sl B 0 n none s ∧ h B = some (.cells cs true false)
theorem growC_nil (lo : Nat) (h : Heap) (nx s : Nat) : GrowC lo h nx (.ro [] 0 true) [] 0 s := .inl ⟨rfl, rfl, rfl⟩
theorem growC_put (lo : Nat) (h : Heap) (nx b n s : Nat) (cs : List AV) (hb : lo ≤ b ∧ b < nx) : GrowC lo (upd h b (some (.cells cs true false))) nx (.sl b 0 n none s) cs n s := .inr ⟨b, hb, rfl, by simp [upd_apply]⟩
/-! ### Same -/
set_option maxRecDepth 100000 in
set_option maxHeartbeats 1000000 in
theorem M_13 [SpC] {ax ay ax' ay' bx by0 bx' by' : Rat} {n1 n2 n3 n4 n5 n6 n7 n8 : Nat} [RS ax n1] [RS ay n2] [RS ax' n3] [RS ay' n4] [RS bx n5] [RS by0 n6] [RS bx' n7] [RS by' n8] (h : n1 + n2 + n3 + n4 + n5 + n6 + n7 + n8 < 2 ^ 24) :
    M X 13 [.agg [zS (Rat.num (ax)), zD (Rat.num (ax)), zS (dz (ax)), zD (dz (ax)), zS (Rat.num (ay)), zD (Rat.num (ay)), zS (dz (ay)), zD (dz (ay)), zS (Rat.num (ax')), zD (Rat.num (ax')), zS (dz (ax')), zD (dz (ax')), zS (Rat.num (ay')), zD (Rat.num (ay')), zS (dz (ay')), zD (dz (ay'))], .agg [zS (Rat.num (bx)), zD (Rat.num (bx)), zS (dz (bx)), zD (dz (bx)), zS (Rat.num (by0)), zD (Rat.num (by0)), zS (dz (by0)), zD (dz (by0)), zS (Rat.num (bx')), zD (Rat.num (bx')), zS (dz (bx')), zD (dz (bx')), zS (Rat.num (by')), zD (Rat.num (by')), zS (dz (by')), zD (dz (by'))]] = some (.bool (decide (ax = bx ∧ ay = by0 ∧ ax' = bx' ∧ ay' = by'))) := by
  have z : ∀ x y : Rat, x = y ↔ cmpQ x y = 0 := fun x y => by unfold cmpQ; grind
  have hd : decide (ax = bx ∧ ay = by0 ∧ ax' = bx' ∧ ay' = by') = decide (cmpQ ax bx = 0 ∧ cmpQ ay by0 = 0 ∧ cmpQ ax' bx' = 0 ∧ cmpQ ay' by' = 0) := by simp only [z]
  rw [hd]
  refine M_of X (fn := Tryz.f13) Tryz.func13 rfl ok_13 mode_13 res_13 _ rfl _ ?_
  intro r hr
  have c1 := M_45 (x := ax) (y := bx) (by omega)
  have c2 := M_45 (x := ay) (y := by0) (by omega)
  have c3 := M_45 (x := ax') (y := bx') (by omega)
  have c4 := M_45 (x := ay') (y := by') (by omega)
  rw [hr]
  generalize cmpQ ax bx = v1 at *
  generalize cmpQ ay by0 = v2 at *
  generalize cmpQ ax' bx' = v3 at *
  generalize cmpQ ay' by' = v4 at *
  by_cases b1 : v1 = 0
  · by_cases b2 : v2 = 0
    · by_cases b3 : v3 = 0
      · by_cases b4 : v4 = 0
        · simp (maxSteps := 4000000) (disch := first | omega | (simp only [List.length_set, List.length_replicate, List.length_append, List.length_take, List.length_drop, List.length_cons, List.length_nil]; omega)) only [go_sem, reduceCtorEq, Nat.reduceEqDiff, Nat.reduceAdd, Nat.reduceMul, Nat.reduceSub, ↓Nat.reduceBEq, Nat.reduceLT, Nat.reduceLeDiff, Int.reduceLT, Int.reduceLE, Int.reduceNeg, Int.reduceToNat, mode_45, c1, c2, c3, c4]
        · simp (maxSteps := 4000000) (disch := first | omega | (simp only [List.length_set, List.length_replicate, List.length_append, List.length_take, List.length_drop, List.length_cons, List.length_nil]; omega)) only [go_sem, reduceCtorEq, Nat.reduceEqDiff, Nat.reduceAdd, Nat.reduceMul, Nat.reduceSub, ↓Nat.reduceBEq, Nat.reduceLT, Nat.reduceLeDiff, Int.reduceLT, Int.reduceLE, Int.reduceNeg, Int.reduceToNat, mode_45, c1, c2, c3, c4]
      · simp (maxSteps := 4000000) (disch := first | omega | (simp only [List.length_set, List.length_replicate, List.length_append, List.length_take, List.length_drop, List.length_cons, List.length_nil]; omega)) only [go_sem, reduceCtorEq, Nat.reduceEqDiff, Nat.reduceAdd, Nat.reduceMul, Nat.reduceSub, ↓Nat.reduceBEq, Nat.reduceLT, Nat.reduceLeDiff, Int.reduceLT, Int.reduceLE, Int.reduceNeg, Int.reduceToNat, mode_45, c1, c2, c3]
    · simp (maxSteps := 4000000) (disch := first | omega | (simp only [List.length_set, List.length_replicate, List.length_append, List.length_take, List.length_drop, List.length_cons, List.length_nil]; omega)) only [go_sem, reduceCtorEq, Nat.reduceEqDiff, Nat.reduceAdd, Nat.reduceMul, Nat.reduceSub, ↓Nat.reduceBEq, Nat.reduceLT, Nat.reduceLeDiff, Int.reduceLT, Int.reduceLE, Int.reduceNeg, Int.reduceToNat, mode_45, c1, c2]
  · simp (maxSteps := 4000000) (disch := first | omega | (simp only [List.length_set, List.length_replicate, List.length_append, List.length_take, List.length_drop, List.length_cons, List.length_nil]; omega)) only [go_sem, reduceCtorEq, Nat.reduceEqDiff, Nat.reduceAdd, Nat.reduceMul, Nat.reduceSub, ↓Nat.reduceBEq, Nat.reduceLT, Nat.reduceLeDiff, Int.reduceLT, Int.reduceLE, Int.reduceNeg, Int.reduceToNat, mode_45, c1]
/-! ### Lists of numbers -/
set_option maxRecDepth 100000 in
theorem M_24 [SpC] (a b : List Int) (ha : a.length < 2 ^ 40) (hb : b.length < 2 ^ 40) : M X 24 [isl a, isl b] = some (.bool (decide (a = b))) := by
  refine M_of X (fn := Tryz.f24) Tryz.func24 rfl ok_24 mode_24 res_24 _ rfl _ ?_
  intro r hr
  rw [hr]
  by_cases hl : a.length = b.length
  · simp (maxSteps := 4000000) (disch := first | omega | (simp only [List.length_set, List.length_replicate, List.length_append, List.length_take, List.length_drop, List.length_cons, List.length_nil]; omega)) only [go_sem, reduceCtorEq, Nat.reduceEqDiff, Nat.reduceAdd, Nat.reduceMul, Nat.reduceSub, ↓Nat.reduceBEq, Nat.reduceLT, Nat.reduceLeDiff, Int.reduceLT, Int.reduceLE, Int.reduceNeg, Int.reduceToNat]
    refine W_loop X (fun (k : Nat) s => k ≤ a.length ∧ s.env 0 = isl a ∧ s.env 1 = isl b ∧ s.env 5 = .int .i64 k ∧ a.take k = b.take k) (fun k => a.length - k) ?_ 0 _ ?_
    · rintro k ⟨env, heap, nx⟩ ⟨hk, g0, g1, g5, ht⟩
      simp only at g0 g1 g5
      by_cases h1 : k < a.length
      · by_cases h2 : a.getD k 0 = b.getD k 0
        · simp (maxSteps := 4000000) (disch := first | omega | (simp only [List.length_set, List.length_replicate, List.length_append, List.length_take, List.length_drop, List.length_cons, List.length_nil]; omega)) only [go_sem, reduceCtorEq, Nat.reduceEqDiff, Nat.reduceAdd, Nat.reduceMul, Nat.reduceSub, ↓Nat.reduceBEq, Nat.reduceLT, Nat.reduceLeDiff, Int.reduceLT, Int.reduceLE, Int.reduceNeg, Int.reduceToNat, g0, g1, g5]
          refine ⟨k + 1, ⟨by omega, rfl, ?_⟩, by omega⟩
          rw [List.take_succ_eq_append_getElem h1, List.take_succ_eq_append_getElem (by omega), ht, ← getD_get a k h1, ← getD_get b k (by omega), h2]
        · simp (maxSteps := 4000000) (disch := first | omega | (simp only [List.length_set, List.length_replicate, List.length_append, List.length_take, List.length_drop, List.length_cons, List.length_nil]; omega)) only [go_sem, reduceCtorEq, Nat.reduceEqDiff, Nat.reduceAdd, Nat.reduceMul, Nat.reduceSub, ↓Nat.reduceBEq, Nat.reduceLT, Nat.reduceLeDiff, Int.reduceLT, Int.reduceLE, Int.reduceNeg, Int.reduceToNat, g0, g1, g5]
          rw [decide_eq_false]
          intro hab; exact h2 (by rw [hab])
      · simp (maxSteps := 4000000) (disch := first | omega | (simp only [List.length_set, List.length_replicate, List.length_append, List.length_take, List.length_drop, List.length_cons, List.length_nil]; omega)) only [go_sem, reduceCtorEq, Nat.reduceEqDiff, Nat.reduceAdd, Nat.reduceMul, Nat.reduceSub, ↓Nat.reduceBEq, Nat.reduceLT, Nat.reduceLeDiff, Int.reduceLT, Int.reduceLE, Int.reduceNeg, Int.reduceToNat, g0, g1, g5]
        rw [decide_eq_true]
        rw [List.take_of_length_le (by omega), List.take_of_length_le (by omega)] at ht
        exact ht
    · simp (maxSteps := 4000000) (disch := first | omega | (simp only [List.length_set, List.length_replicate, List.length_append, List.length_take, List.length_drop, List.length_cons, List.length_nil]; omega)) only [go_sem, reduceCtorEq, Nat.reduceEqDiff, Nat.reduceAdd, Nat.reduceMul, Nat.reduceSub, ↓Nat.reduceBEq, Nat.reduceLT, Nat.reduceLeDiff, Int.reduceLT, Int.reduceLE, Int.reduceNeg, Int.reduceToNat]
  · simp (maxSteps := 4000000) (disch := first | omega | (simp only [List.length_set, List.length_replicate, List.length_append, List.length_take, List.length_drop, List.length_cons, List.length_nil]; omega)) only [go_sem, reduceCtorEq, Nat.reduceEqDiff, Nat.reduceAdd, Nat.reduceMul, Nat.reduceSub, ↓Nat.reduceBEq, Nat.reduceLT, Nat.reduceLeDiff, Int.reduceLT, Int.reduceLE, Int.reduceNeg, Int.reduceToNat]
    try rw [decide_eq_false (fun hab => hl (by rw [hab]))]
/-! ### The boxes made from numbers -/
def boxN (l : List Int) (i : Nat) : BoxQ :=
  ⟨numQ (atN l (4 * i) 4096), numQ (atN l (4 * i + 1) 4096), numQ (atN l (4 * i) 4096) + numQ (atN l (4 * i + 2) 4096) * numQ (atN l (4 * i + 2) 4096), numQ (atN l (4 * i + 1) 4096) + numQ (atN l (4 * i + 3) 4096) * numQ (atN l (4 * i + 3) 4096)⟩
def boxesN (l : List Int) (n : Nat) : List BoxQ := (List.range n).map (boxN l)
theorem boxesN_succ (l : List Int) (n : Nat) : boxesN l (n + 1) = boxesN l n ++ [boxN l n] := by simp [boxesN, List.range_succ]
theorem boxesN_length (l : List Int) (n : Nat) : (boxesN l n).length = n := by simp [boxesN]
def manyB (l : List Int) : Nat := min 12 ((l.length + 3) / 4)
instance rb_boxN (l : List Int) (i : Nat) : RB (boxN l i) 4 := ⟨(rs_numQ _).mono (by omega), (rs_numQ _).mono (by omega), (inferInstance : RS (numQ _ + numQ _ * numQ _) _), (inferInstance : RS (numQ _ + numQ _ * numQ _) _)⟩
theorem okB_boxesN (l : List Int) (n : Nat) : okB (boxesN l n) 4 := by
  intro b hb
  simp only [boxesN, List.mem_map, List.mem_range] at hb
  obtain ⟨i, _, rfl⟩ := hb
  infer_instance
set_option maxRecDepth 100000 in
set_option maxHeartbeats 1000000 in
theorem M_18 [SpC] (l : List Int) (hl : okI l) (hlen : l.length < 2 ^ 60) : M X 18 [isl l] = some (.ro (boxC (boxesN l (manyB l))) (manyB l) false) := by
  refine M_of X (fn := Tryz.f18) Tryz.func18 rfl ok_18 mode_18 res_18 _ rfl _ ?_
  intro r hr
  rw [hr]
  simp (maxSteps := 4000000) (disch := first | omega | (simp only [List.length_set, List.length_replicate, List.length_append, List.length_take, List.length_drop, List.length_cons, List.length_nil]; omega)) only [go_sem, reduceCtorEq, Nat.reduceEqDiff, Nat.reduceAdd, Nat.reduceMul, Nat.reduceSub, ↓Nat.reduceBEq, Nat.reduceLT, Nat.reduceLeDiff, Int.reduceLT, Int.reduceLE, Int.reduceNeg, Int.reduceToNat]
  refine W_loop X (fun (i : Nat) s => i ≤ manyB l ∧ s.env 0 = isl l ∧ s.env 4 = .int .i64 i ∧ GrowC 1 s.heap s.next (s.env 3) (boxC (boxesN l i)) i 16) (fun i => manyB l - i) ?_ 0 _ ?_
  · rintro i ⟨env, heap, nx⟩ ⟨hi, g0, g4, hgr⟩
    simp only at g0 g4 hgr
    have hm : manyB l ≤ 12 := Nat.min_le_left _ _
    by_cases h1 : i < manyB l
    · have h2 : 4 * i < l.length := by unfold manyB at h1; omega
      have v1 := M_11 l (4 * i) hl (by omega)
      have v2 := M_11 l (4 * i + 2) hl (by omega)
      rw [show (4 * (i : Int)).toNat = 4 * i by omega] at v1
      rw [show (4 * (i : Int) + 2).toNat = 4 * i + 2 by omega] at v2
      have hb := boxesN_succ l i
      have hbl := boxC_length (boxesN l i)
      rw [boxesN_length] at hbl
      unfold boxN at hb
      rw [show 4 * i + 2 + 1 = 4 * i + 3 by omega] at v2
      have r1 := rs_numQ (atN l (4 * i) 4096)
      have r2 := rs_numQ (atN l (4 * i + 1) 4096)
      have r3 := rs_numQ (atN l (4 * i + 2) 4096)
      have r4 := rs_numQ (atN l (4 * i + 3) 4096)
      have hb' := congrArg boxC hb
      rw [← boxC_snoc] at hb'
      generalize numQ (atN l (4 * i) 4096) = q1 at *
      generalize numQ (atN l (4 * i + 1) 4096) = q2 at *
      generalize numQ (atN l (4 * i + 2) 4096) = q3 at *
      generalize numQ (atN l (4 * i + 3) 4096) = q4 at *
      clear hb
      rcases hgr with ⟨e3, ec, e0⟩ | ⟨B, hB, e3, eB⟩
      · rw [ec] at hb'
        subst e0
        simp only [Nat.mul_zero, Int.natCast_zero, Int.mul_zero, Nat.zero_add, Int.zero_add] at v1 v2 g4 hb' h2
        simp (maxSteps := 4000000) (disch := first | omega | (simp only [List.length_set, List.length_replicate, List.length_append, List.length_take, List.length_drop, List.length_cons, List.length_nil]; omega)) only [go_sem, reduceCtorEq, Nat.reduceEqDiff, Nat.reduceAdd, Nat.reduceMul, Nat.reduceSub, ↓Nat.reduceBEq, Nat.reduceLT, Nat.reduceLeDiff, Int.reduceLT, Int.reduceLE, Int.reduceNeg, Int.reduceToNat, M_31, M_30, g0, g4, e3, mode_11, v1, v2, replA_1, Int.reduceMul, Int.mul_zero, Int.zero_add]
        exact ⟨1, ⟨by omega, rfl, by rw [hb']; exact growC_put _ _ _ _ _ _ _ (by omega)⟩, by omega⟩
      · simp (maxSteps := 4000000) (disch := first | omega | (simp only [List.length_set, List.length_replicate, List.length_append, List.length_take, List.length_drop, List.length_cons, List.length_nil]; omega)) only [go_sem, reduceCtorEq, Nat.reduceEqDiff, Nat.reduceAdd, Nat.reduceMul, Nat.reduceSub, ↓Nat.reduceBEq, Nat.reduceLT, Nat.reduceLeDiff, Int.reduceLT, Int.reduceLE, Int.reduceNeg, Int.reduceToNat, M_31, M_30, g0, g4, e3, eB, hbl, mode_11, v1, v2, replA_1]
        exact ⟨i + 1, ⟨by omega, rfl, by rw [hb']; exact growC_put _ _ _ _ _ _ _ (by omega)⟩, by omega⟩
    · have hi' : i = manyB l := by omega
      have h2 : ¬ 4 * i < l.length ∨ 4 * i < l.length ∧ ¬ i < 12 := by unfold manyB at hi'; omega
      have hbl := boxC_length (boxesN l i)
      rw [boxesN_length] at hbl
      subst hi'
      rcases h2 with h2 | h2
      all_goals
        rcases hgr with ⟨e3, ec, e0⟩ | ⟨B, hB, e3, eB⟩
        · first
            | omega
            | (simp (maxSteps := 4000000) (disch := first | omega | (simp only [List.length_set, List.length_replicate, List.length_append, List.length_take, List.length_drop, List.length_cons, List.length_nil]; omega)) only [go_sem, reduceCtorEq, Nat.reduceEqDiff, Nat.reduceAdd, Nat.reduceMul, Nat.reduceSub, ↓Nat.reduceBEq, Nat.reduceLT, Nat.reduceLeDiff, Int.reduceLT, Int.reduceLE, Int.reduceNeg, Int.reduceToNat, g0, g4, e3, ec, e0]
               first | done | rfl)
        · simp (maxSteps := 4000000) (disch := first | omega | (simp only [List.length_set, List.length_replicate, List.length_append, List.length_take, List.length_drop, List.length_cons, List.length_nil]; omega)) only [go_sem, reduceCtorEq, Nat.reduceEqDiff, Nat.reduceAdd, Nat.reduceMul, Nat.reduceSub, ↓Nat.reduceBEq, Nat.reduceLT, Nat.reduceLeDiff, Int.reduceLT, Int.reduceLE, Int.reduceNeg, Int.reduceToNat, g0, g4, e3, eB, hbl, snaps_boxC, weaks_boxC]
  · simp (maxSteps := 4000000) (disch := first | omega | (simp only [List.length_set, List.length_replicate, List.length_append, List.length_take, List.length_drop, List.length_cons, List.length_nil]; omega)) only [go_sem, reduceCtorEq, Nat.reduceEqDiff, Nat.reduceAdd, Nat.reduceMul, Nat.reduceSub, ↓Nat.reduceBEq, Nat.reduceLT, Nat.reduceLeDiff, Int.reduceLT, Int.reduceLE, Int.reduceNeg, Int.reduceToNat]
    exact growC_nil _ _ _ _
end Go.Proofs.YtjccikgdebgebaaGreatDoor.Abs
end
section
set_option linter.unusedSimpArgs false
namespace Go.Proofs.YtjccikgdebgebaaGreatDoor.Abs
open Go
def mt (a b : BoxQ) : Bool := meetB a.lx a.ly a.hx a.hy b.lx b.ly b.hx b.hy
def nearN (l : List BoxQ) (b : BoxQ) : Nat → List Int
  | 0 => []
  | n + 1 => if mt (l.getD n box0) b = true then nearN l b n ++ [(n : Int)] else nearN l b n
theorem nearN_len (l : List BoxQ) (b : BoxQ) : ∀ n, (nearN l b n).length ≤ n := by
  intro n
  induction n with
  | zero => simp [nearN]
  | succ n ih => unfold nearN; split
                 · simp; omega
                 · omega
theorem grow_mono {lo : Nat} {h h' : Heap} {nx nx' : Nat} {v : AV} {o : List Int} (hg : Grow lo h nx v o) (hh : ∀ b, b < nx → h' b = h b) (hn : nx ≤ nx') : Grow lo h' nx' v o := by
  rcases hg with h | ⟨B, h1, h2, h3⟩
  · exact .inl h
  · exact .inr ⟨B, ⟨h1.1, by omega⟩, h2, by rw [hh B h1.2]; exact h3⟩
theorem grow_len {lo : Nat} {h : Heap} {nx : Nat} {v : AV} {o : List Int} (hg : Grow lo h nx v o) : (v = .ro [] 0 true ∧ o = []) ∨ ∃ B, (lo ≤ B ∧ B < nx) ∧ v = .sl B 0 o.length none 1 ∧ h B = some (.cells (ints o) true false) := hg
theorem boxC_take (l : List BoxQ) (k : Nat) (h : k < l.length) : List.take 16 (List.drop (k * 16) (boxC l)) = [zS (Rat.num ((l.getD k box0).lx)), zD (Rat.num ((l.getD k box0).lx)), zS (dz ((l.getD k box0).lx)), zD (dz ((l.getD k box0).lx)), zS (Rat.num ((l.getD k box0).ly)), zD (Rat.num ((l.getD k box0).ly)), zS (dz ((l.getD k box0).ly)), zD (dz ((l.getD k box0).ly)), zS (Rat.num ((l.getD k box0).hx)), zD (Rat.num ((l.getD k box0).hx)), zS (dz ((l.getD k box0).hx)), zD (dz ((l.getD k box0).hx)), zS (Rat.num ((l.getD k box0).hy)), zD (Rat.num ((l.getD k box0).hy)), zS (dz ((l.getD k box0).hy)), zD (dz ((l.getD k box0).hy))] := by
  rw [boxC_drop l k h]; rfl
set_option maxRecDepth 100000 in
set_option maxHeartbeats 2000000 in
theorem M_27 [SpC] {l : List BoxQ} {b : BoxQ} {n m : Nat} (hl : okB l n) [hb : RB b m] (hlen : l.length < 2 ^ 30) (h : 4 * n + 4 * m < 2 ^ 24) :
    M X 27 [.ro (boxC l) l.length false, .agg [zS (Rat.num (b.lx)), zD (Rat.num (b.lx)), zS (dz (b.lx)), zD (dz (b.lx)), zS (Rat.num (b.ly)), zD (Rat.num (b.ly)), zS (dz (b.ly)), zD (dz (b.ly)), zS (Rat.num (b.hx)), zD (Rat.num (b.hx)), zS (dz (b.hx)), zD (dz (b.hx)), zS (Rat.num (b.hy)), zD (Rat.num (b.hy)), zS (dz (b.hy)), zD (dz (b.hy))]] = some (isl (nearN l b l.length)) := by
  refine M_of X (fn := Tryz.f27) Tryz.func27 rfl ok_27 mode_27 res_27 _ rfl _ ?_
  intro r hr
  rw [hr]
  simp (maxSteps := 4000000) (disch := first | omega | (simp only [List.length_set, List.length_replicate, List.length_append, List.length_take, List.length_drop, List.length_cons, List.length_nil]; omega)) only [go_sem, reduceCtorEq, Nat.reduceEqDiff, Nat.reduceAdd, Nat.reduceMul, Nat.reduceSub, ↓Nat.reduceBEq, Nat.reduceLT, Nat.reduceLeDiff, Int.reduceLT, Int.reduceLE, Int.reduceNeg, Int.reduceToNat]
  refine W_loop X (fun (i : Nat) s => i ≤ l.length ∧ s.env 0 = .ro (boxC l) l.length false ∧ s.env 3 = .ptr 0 0 ∧ 0 < s.next ∧ s.heap 0 = some (.cells [zS (Rat.num (b.lx)), zD (Rat.num (b.lx)), zS (dz (b.lx)), zD (dz (b.lx)), zS (Rat.num (b.ly)), zD (Rat.num (b.ly)), zS (dz (b.ly)), zD (dz (b.ly)), zS (Rat.num (b.hx)), zD (Rat.num (b.hx)), zS (dz (b.hx)), zD (dz (b.hx)), zS (Rat.num (b.hy)), zD (Rat.num (b.hy)), zS (dz (b.hy)), zD (dz (b.hy))] false false) ∧ s.env 6 = .int .i64 i ∧ Grow 1 s.heap s.next (s.env 5) (nearN l b i)) (fun i => l.length - i) ?_ 0 _ ?_
  · rintro i ⟨env, heap, nx⟩ ⟨hi, g0, g3, hnx, gh, g6, hgr⟩
    simp only at g0 g3 hnx gh g6 hgr
    by_cases h1 : i < l.length
    · have hbx : RB (l.getD i box0) n := hl _ (getD_mem l i h1)
      have v1 := M_21 (ax := (l.getD i box0).lx) (ay := (l.getD i box0).ly) (ax' := (l.getD i box0).hx) (ay' := (l.getD i box0).hy) (bx := b.lx) (by0 := b.ly) (bx' := b.hx) (by' := b.hy) (by omega)
      have hbl := boxC_length l
      have hd := boxC_take l i h1
      have hs : nearN l b (i + 1) = if mt (l.getD i box0) b = true then nearN l b i ++ [(i : Int)] else nearN l b i := rfl
      have hle := nearN_len l b i
      unfold mt at hs
      generalize nearN l b i = o at *
      by_cases h2 : meetB (l.getD i box0).lx (l.getD i box0).ly (l.getD i box0).hx (l.getD i box0).hy b.lx b.ly b.hx b.hy = true
      · rw [if_pos h2] at hs
        rw [h2] at v1
        rcases hgr with ⟨e5, rfl⟩ | ⟨B, hB, e5, eB⟩
        · simp (maxSteps := 4000000) (disch := first | omega | (simp only [List.length_set, List.length_replicate, List.length_append, List.length_take, List.length_drop, List.length_cons, List.length_nil]; omega)) only [go_sem, reduceCtorEq, Nat.reduceEqDiff, Nat.reduceAdd, Nat.reduceMul, Nat.reduceSub, ↓Nat.reduceBEq, Nat.reduceLT, Nat.reduceLeDiff, Int.reduceLT, Int.reduceLE, Int.reduceNeg, Int.reduceToNat, g0, g3, gh, g6, e5, hbl, hd, mode_21, v1]
          exact ⟨i + 1, ⟨by omega, by omega, rfl, by rw [hs]; exact grow_one _ _ _ _ _ (by omega)⟩, by omega⟩
        · simp (maxSteps := 4000000) (disch := first | omega | (simp only [List.length_set, List.length_replicate, List.length_append, List.length_take, List.length_drop, List.length_cons, List.length_nil]; omega)) only [go_sem, reduceCtorEq, Nat.reduceEqDiff, Nat.reduceAdd, Nat.reduceMul, Nat.reduceSub, ↓Nat.reduceBEq, Nat.reduceLT, Nat.reduceLeDiff, Int.reduceLT, Int.reduceLE, Int.reduceNeg, Int.reduceToNat, g0, g3, gh, g6, e5, eB, hbl, hd, mode_21, v1]
          exact ⟨i + 1, ⟨by omega, by omega, rfl, by rw [hs]; exact grow_app _ _ _ _ _ _ _ (by omega) rfl⟩, by omega⟩
      · rw [if_neg h2] at hs
        simp only [Bool.not_eq_true] at h2
        rw [h2] at v1
        simp (maxSteps := 4000000) (disch := first | omega | (simp only [List.length_set, List.length_replicate, List.length_append, List.length_take, List.length_drop, List.length_cons, List.length_nil]; omega)) only [go_sem, reduceCtorEq, Nat.reduceEqDiff, Nat.reduceAdd, Nat.reduceMul, Nat.reduceSub, ↓Nat.reduceBEq, Nat.reduceLT, Nat.reduceLeDiff, Int.reduceLT, Int.reduceLE, Int.reduceNeg, Int.reduceToNat, g0, g3, gh, g6, hbl, hd, mode_21, v1]
        exact ⟨i + 1, ⟨by omega, by omega, rfl, by rw [hs]; exact grow_mono hgr (fun _ _ => rfl) (by omega)⟩, by omega⟩
    · have hi' : i = l.length := by omega
      subst hi'
      rcases hgr with ⟨e5, e0⟩ | ⟨B, hB, e5, eB⟩
      · simp (maxSteps := 4000000) (disch := first | omega | (simp only [List.length_set, List.length_replicate, List.length_append, List.length_take, List.length_drop, List.length_cons, List.length_nil]; omega)) only [go_sem, reduceCtorEq, Nat.reduceEqDiff, Nat.reduceAdd, Nat.reduceMul, Nat.reduceSub, ↓Nat.reduceBEq, Nat.reduceLT, Nat.reduceLeDiff, Int.reduceLT, Int.reduceLE, Int.reduceNeg, Int.reduceToNat, g0, g3, gh, g6, e5, e0]
        rfl
      · simp (maxSteps := 4000000) (disch := first | omega | (simp only [List.length_set, List.length_replicate, List.length_append, List.length_take, List.length_drop, List.length_cons, List.length_nil]; omega)) only [go_sem, reduceCtorEq, Nat.reduceEqDiff, Nat.reduceAdd, Nat.reduceMul, Nat.reduceSub, ↓Nat.reduceBEq, Nat.reduceLT, Nat.reduceLeDiff, Int.reduceLT, Int.reduceLE, Int.reduceNeg, Int.reduceToNat, g0, g3, gh, g6, e5, eB]
        done
  · simp (maxSteps := 4000000) (disch := first | omega | (simp only [List.length_set, List.length_replicate, List.length_append, List.length_take, List.length_drop, List.length_cons, List.length_nil]; omega)) only [go_sem, reduceCtorEq, Nat.reduceEqDiff, Nat.reduceAdd, Nat.reduceMul, Nat.reduceSub, ↓Nat.reduceBEq, Nat.reduceLT, Nat.reduceLeDiff, Int.reduceLT, Int.reduceLE, Int.reduceNeg, Int.reduceToNat]
    exact grow_nil _ _ _
set_option maxRecDepth 100000 in
set_option maxHeartbeats 2000000 in
theorem M_25 [SpC] {l : List BoxQ} {b : BoxQ} {n m : Nat} (hl : okB l n) [hb : RB b m] (hlen : l.length < 2 ^ 30) (h : 4 * n + 4 * m < 2 ^ 24) :
    M X 25 [.ro (boxC l) l.length false, .agg [zS (Rat.num (b.lx)), zD (Rat.num (b.lx)), zS (dz (b.lx)), zD (dz (b.lx)), zS (Rat.num (b.ly)), zD (Rat.num (b.ly)), zS (dz (b.ly)), zD (dz (b.ly)), zS (Rat.num (b.hx)), zD (Rat.num (b.hx)), zS (dz (b.hx)), zD (dz (b.hx)), zS (Rat.num (b.hy)), zD (Rat.num (b.hy)), zS (dz (b.hy)), zD (dz (b.hy))]] = some (isl (nearN l b l.length)) := by
  refine M_of X (fn := Tryz.f25) Tryz.func25 rfl ok_25 mode_25 res_25 _ rfl _ ?_
  intro r hr
  rw [hr]
  simp (maxSteps := 4000000) (disch := first | omega | (simp only [List.length_set, List.length_replicate, List.length_append, List.length_take, List.length_drop, List.length_cons, List.length_nil]; omega)) only [go_sem, reduceCtorEq, Nat.reduceEqDiff, Nat.reduceAdd, Nat.reduceMul, Nat.reduceSub, ↓Nat.reduceBEq, Nat.reduceLT, Nat.reduceLeDiff, Int.reduceLT, Int.reduceLE, Int.reduceNeg, Int.reduceToNat]
  refine W_loop X (fun (i : Nat) s => i ≤ l.length ∧ s.env 8 = .ro (boxC l) l.length false ∧ s.env 9 = .int .i64 l.length ∧ s.env 3 = .ptr 0 0 ∧ 0 < s.next ∧ s.heap 0 = some (.cells [zS (Rat.num (b.lx)), zD (Rat.num (b.lx)), zS (dz (b.lx)), zD (dz (b.lx)), zS (Rat.num (b.ly)), zD (Rat.num (b.ly)), zS (dz (b.ly)), zD (dz (b.ly)), zS (Rat.num (b.hx)), zD (Rat.num (b.hx)), zS (dz (b.hx)), zD (dz (b.hx)), zS (Rat.num (b.hy)), zD (Rat.num (b.hy)), zS (dz (b.hy)), zD (dz (b.hy))] false false) ∧ s.env 10 = .int .i64 i ∧ Grow 1 s.heap s.next (s.env 5) (nearN l b i)) (fun i => l.length - i) ?_ 0 _ ?_
  · rintro i ⟨env, heap, nx⟩ ⟨hi, g0, g9, g3, hnx, gh, g6, hgr⟩
    simp only at g0 g9 g3 hnx gh g6 hgr
    by_cases h1 : i < l.length
    · have hbx : RB (l.getD i box0) n := hl _ (getD_mem l i h1)
      have v1 := M_19 (ax := (l.getD i box0).lx) (ay := (l.getD i box0).ly) (ax' := (l.getD i box0).hx) (ay' := (l.getD i box0).hy) (bx := b.lx) (by0 := b.ly) (bx' := b.hx) (by' := b.hy) (by omega)
      have hbl := boxC_length l
      have hd := boxC_take l i h1
      have hs : nearN l b (i + 1) = if mt (l.getD i box0) b = true then nearN l b i ++ [(i : Int)] else nearN l b i := rfl
      have hle := nearN_len l b i
      unfold mt at hs
      generalize nearN l b i = o at *
      by_cases h2 : meetB (l.getD i box0).lx (l.getD i box0).ly (l.getD i box0).hx (l.getD i box0).hy b.lx b.ly b.hx b.hy = true
      · rw [if_pos h2] at hs
        rw [h2] at v1
        rcases hgr with ⟨e5, rfl⟩ | ⟨B, hB, e5, eB⟩
        · simp (maxSteps := 4000000) (disch := first | omega | (simp only [List.length_set, List.length_replicate, List.length_append, List.length_take, List.length_drop, List.length_cons, List.length_nil]; omega)) only [go_sem, reduceCtorEq, Nat.reduceEqDiff, Nat.reduceAdd, Nat.reduceMul, Nat.reduceSub, ↓Nat.reduceBEq, Nat.reduceLT, Nat.reduceLeDiff, Int.reduceLT, Int.reduceLE, Int.reduceNeg, Int.reduceToNat, g0, g9, g3, gh, g6, e5, hbl, hd, mode_19, v1]
          exact ⟨i + 1, ⟨by omega, by omega, rfl, by rw [hs]; exact grow_one _ _ _ _ _ (by omega)⟩, by omega⟩
        · simp (maxSteps := 4000000) (disch := first | omega | (simp only [List.length_set, List.length_replicate, List.length_append, List.length_take, List.length_drop, List.length_cons, List.length_nil]; omega)) only [go_sem, reduceCtorEq, Nat.reduceEqDiff, Nat.reduceAdd, Nat.reduceMul, Nat.reduceSub, ↓Nat.reduceBEq, Nat.reduceLT, Nat.reduceLeDiff, Int.reduceLT, Int.reduceLE, Int.reduceNeg, Int.reduceToNat, g0, g9, g3, gh, g6, e5, eB, hbl, hd, mode_19, v1]
          exact ⟨i + 1, ⟨by omega, by omega, rfl, by rw [hs]; exact grow_app _ _ _ _ _ _ _ (by omega) rfl⟩, by omega⟩
      · rw [if_neg h2] at hs
        simp only [Bool.not_eq_true] at h2
        rw [h2] at v1
        simp (maxSteps := 4000000) (disch := first | omega | (simp only [List.length_set, List.length_replicate, List.length_append, List.length_take, List.length_drop, List.length_cons, List.length_nil]; omega)) only [go_sem, reduceCtorEq, Nat.reduceEqDiff, Nat.reduceAdd, Nat.reduceMul, Nat.reduceSub, ↓Nat.reduceBEq, Nat.reduceLT, Nat.reduceLeDiff, Int.reduceLT, Int.reduceLE, Int.reduceNeg, Int.reduceToNat, g0, g9, g3, gh, g6, hbl, hd, mode_19, v1]
        exact ⟨i + 1, ⟨by omega, by omega, rfl, by rw [hs]; exact grow_mono hgr (fun b hb => by simp only [upd_apply]; rw [if_neg (by omega), if_neg (by omega)]) (by omega)⟩, by omega⟩
    · have hi' : i = l.length := by omega
      subst hi'
      rcases hgr with ⟨e5, e0⟩ | ⟨B, hB, e5, eB⟩
      · simp (maxSteps := 4000000) (disch := first | omega | (simp only [List.length_set, List.length_replicate, List.length_append, List.length_take, List.length_drop, List.length_cons, List.length_nil]; omega)) only [go_sem, reduceCtorEq, Nat.reduceEqDiff, Nat.reduceAdd, Nat.reduceMul, Nat.reduceSub, ↓Nat.reduceBEq, Nat.reduceLT, Nat.reduceLeDiff, Int.reduceLT, Int.reduceLE, Int.reduceNeg, Int.reduceToNat, g0, g9, g3, gh, g6, e5, e0]
        rfl
      · simp (maxSteps := 4000000) (disch := first | omega | (simp only [List.length_set, List.length_replicate, List.length_append, List.length_take, List.length_drop, List.length_cons, List.length_nil]; omega)) only [go_sem, reduceCtorEq, Nat.reduceEqDiff, Nat.reduceAdd, Nat.reduceMul, Nat.reduceSub, ↓Nat.reduceBEq, Nat.reduceLT, Nat.reduceLeDiff, Int.reduceLT, Int.reduceLE, Int.reduceNeg, Int.reduceToNat, g0, g9, g3, gh, g6, e5, eB]
        done
  · simp (maxSteps := 4000000) (disch := first | omega | (simp only [List.length_set, List.length_replicate, List.length_append, List.length_take, List.length_drop, List.length_cons, List.length_nil]; omega)) only [go_sem, reduceCtorEq, Nat.reduceEqDiff, Nat.reduceAdd, Nat.reduceMul, Nat.reduceSub, ↓Nat.reduceBEq, Nat.reduceLT, Nat.reduceLeDiff, Int.reduceLT, Int.reduceLE, Int.reduceNeg, Int.reduceToNat]
    exact grow_nil _ _ _
theorem boxC_takes (l : List BoxQ) (k : Nat) (h : k < l.length) : boxC (l.take (k + 1)) = boxC (l.take k) ++ [zS (Rat.num ((l.getD k box0).lx)), zD (Rat.num ((l.getD k box0).lx)), zS (dz ((l.getD k box0).lx)), zD (dz ((l.getD k box0).lx)), zS (Rat.num ((l.getD k box0).ly)), zD (Rat.num ((l.getD k box0).ly)), zS (dz ((l.getD k box0).ly)), zD (dz ((l.getD k box0).ly)), zS (Rat.num ((l.getD k box0).hx)), zD (Rat.num ((l.getD k box0).hx)), zS (dz ((l.getD k box0).hx)), zD (dz ((l.getD k box0).hx)), zS (Rat.num ((l.getD k box0).hy)), zD (Rat.num ((l.getD k box0).hy)), zS (dz ((l.getD k box0).hy)), zD (dz ((l.getD k box0).hy))] := by
  have : l.getD k box0 = l[k] := by simp [List.getD_eq_getElem?_getD, List.getElem?_eq_getElem h]
  rw [boxC_snoc, List.take_succ_eq_append_getElem h, this]
theorem take_len (l : List BoxQ) (k : Nat) (h : k ≤ l.length) : (boxC (l.take k)).length = 16 * k := by rw [boxC_length, List.length_take, Nat.min_eq_left h]
set_option maxRecDepth 100000 in
set_option maxHeartbeats 2000000 in
theorem M_26 [SpC] {l : List BoxQ} (hlen : l.length < 2 ^ 30) :
    M X 26 [.ro (boxC l) l.length false] = some (.ro (boxC l) l.length false) := by
  refine M_of X (fn := Tryz.f26) Tryz.func26 rfl ok_26 mode_26 res_26 _ rfl _ ?_
  intro r hr
  rw [hr]
  simp (maxSteps := 4000000) (disch := first | omega | (simp only [List.length_set, List.length_replicate, List.length_append, List.length_take, List.length_drop, List.length_cons, List.length_nil]; omega)) only [go_sem, reduceCtorEq, Nat.reduceEqDiff, Nat.reduceAdd, Nat.reduceMul, Nat.reduceSub, ↓Nat.reduceBEq, Nat.reduceLT, Nat.reduceLeDiff, Int.reduceLT, Int.reduceLE, Int.reduceNeg, Int.reduceToNat]
  refine W_loop X (fun (i : Nat) s => i ≤ l.length ∧ s.env 0 = .ro (boxC l) l.length false ∧ s.env 4 = .int .i64 i ∧ GrowC 0 s.heap s.next (s.env 3) (boxC (l.take i)) i 16) (fun i => l.length - i) ?_ 0 _ ?_
  · rintro i ⟨env, heap, nx⟩ ⟨hi, g0, g4, hgr⟩
    simp only at g0 g4 hgr
    by_cases h1 : i < l.length
    · have hbl := boxC_length l
      have hd := boxC_take l i h1
      have hb' := boxC_takes l i h1
      have hbl2 := take_len l i (by omega)
      rcases hgr with ⟨e3, ec, e0⟩ | ⟨B, hB, e3, eB⟩
      · rw [ec] at hb'
        subst e0
        simp only [Int.natCast_zero, Nat.zero_mul, List.drop_zero, Nat.zero_add] at g4 hd hb'
        simp (maxSteps := 4000000) (disch := first | omega | (simp only [List.length_set, List.length_replicate, List.length_append, List.length_take, List.length_drop, List.length_cons, List.length_nil]; omega)) only [go_sem, reduceCtorEq, Nat.reduceEqDiff, Nat.reduceAdd, Nat.reduceMul, Nat.reduceSub, ↓Nat.reduceBEq, Nat.reduceLT, Nat.reduceLeDiff, Int.reduceLT, Int.reduceLE, Int.reduceNeg, Int.reduceToNat, M_20, g0, g4, e3, hd, hbl, replA_1]
        exact ⟨1, ⟨by omega, rfl, by rw [hb']; exact growC_put _ _ _ _ _ _ _ (by omega)⟩, by omega⟩
      · simp (maxSteps := 4000000) (disch := first | omega | (simp only [List.length_set, List.length_replicate, List.length_append, List.length_take, List.length_drop, List.length_cons, List.length_nil]; omega)) only [go_sem, reduceCtorEq, Nat.reduceEqDiff, Nat.reduceAdd, Nat.reduceMul, Nat.reduceSub, ↓Nat.reduceBEq, Nat.reduceLT, Nat.reduceLeDiff, Int.reduceLT, Int.reduceLE, Int.reduceNeg, Int.reduceToNat, M_20, g0, g4, e3, eB, hbl, hd, hbl2, replA_1]
        exact ⟨i + 1, ⟨by omega, rfl, by rw [hb']; exact growC_put _ _ _ _ _ _ _ (by omega)⟩, by omega⟩
    · have hi' : i = l.length := by omega
      subst hi'
      have hbl := boxC_length l
      rw [List.take_length] at hgr
      rcases hgr with ⟨e3, ec, e0⟩ | ⟨B, hB, e3, eB⟩
      · simp (maxSteps := 4000000) (disch := first | omega | (simp only [List.length_set, List.length_replicate, List.length_append, List.length_take, List.length_drop, List.length_cons, List.length_nil]; omega)) only [go_sem, reduceCtorEq, Nat.reduceEqDiff, Nat.reduceAdd, Nat.reduceMul, Nat.reduceSub, ↓Nat.reduceBEq, Nat.reduceLT, Nat.reduceLeDiff, Int.reduceLT, Int.reduceLE, Int.reduceNeg, Int.reduceToNat, g0, g4, e3, ec, e0]
      · simp (maxSteps := 4000000) (disch := first | omega | (simp only [List.length_set, List.length_replicate, List.length_append, List.length_take, List.length_drop, List.length_cons, List.length_nil]; omega)) only [go_sem, reduceCtorEq, Nat.reduceEqDiff, Nat.reduceAdd, Nat.reduceMul, Nat.reduceSub, ↓Nat.reduceBEq, Nat.reduceLT, Nat.reduceLeDiff, Int.reduceLT, Int.reduceLE, Int.reduceNeg, Int.reduceToNat, g0, g4, e3, eB, hbl, snaps_boxC, weaks_boxC]
  · simp (maxSteps := 4000000) (disch := first | omega | (simp only [List.length_set, List.length_replicate, List.length_append, List.length_take, List.length_drop, List.length_cons, List.length_nil]; omega)) only [go_sem, reduceCtorEq, Nat.reduceEqDiff, Nat.reduceAdd, Nat.reduceMul, Nat.reduceSub, ↓Nat.reduceBEq, Nat.reduceLT, Nat.reduceLeDiff, Int.reduceLT, Int.reduceLE, Int.reduceNeg, Int.reduceToNat]
    exact growC_nil _ _ _ _
end Go.Proofs.YtjccikgdebgebaaGreatDoor.Abs
end
section
set_option linter.unusedSimpArgs false
namespace Go.Proofs.YtjccikgdebgebaaGreatDoor.Abs
open Go
abbrev Pt := Int × Int
def ptC : List Pt → List AV
  | [] => []
  | p :: l => .int .i64 p.1 :: .int .i64 p.2 :: ptC l
theorem ptC_length (l : List Pt) : (ptC l).length = 2 * l.length := by
  induction l with
  | nil => rfl
  | cons x l ih => simp [ptC, ih]; omega
theorem ptC_take (l : List Pt) (k : Nat) (h : k < l.length) : List.take 2 (List.drop (k * 2) (ptC l)) = [.int .i64 (l.getD k (0, 0)).1, .int .i64 (l.getD k (0, 0)).2] := by
  induction l generalizing k with
  | nil => simp at h
  | cons x l ih =>
    cases k with
    | zero => simp [ptC]
    | succ k =>
      have := ih k (by simpa using h)
      rw [show (k + 1) * 2 = k * 2 + 2 by omega]
      simpa [ptC] using this
theorem ptC_drop (l : List Pt) (k : Nat) (h : k < l.length) : List.drop (k * 2) (ptC l) = [.int .i64 (l.getD k (0, 0)).1, .int .i64 (l.getD k (0, 0)).2] ++ ptC (l.drop (k + 1)) := by
  induction l generalizing k with
  | nil => simp at h
  | cons x l ih =>
    cases k with
    | zero => simp [ptC]
    | succ k =>
      have := ih k (by simpa using h)
      rw [show (k + 1) * 2 = k * 2 + 2 by omega]
      simpa [ptC] using this
theorem ptC_all (P : AV → Prop) (hs : ∀ z, P (.int .i64 z)) (l : List Pt) : ∀ c ∈ ptC l, P c := by
  induction l with
  | nil => intro c hc; simp [ptC] at hc
  | cons b l ih =>
    intro c hc
    simp only [ptC, List.mem_cons] at hc
    rcases hc with rfl | rfl | hc
    · exact hs _
    · exact hs _
    · exact ih _ hc
theorem snaps_ptC (h : Heap) (d : Nat) (l : List Pt) : snaps (snap h (d + 1)) (ptC l) = some (ptC l, []) := snaps_of (ptC_all _ (fun _ => snap_int ..) l)
theorem weaks_ptC (l : List Pt) : AV.weak.go (ptC l) = ptC l := weaks_all (ptC_all _ (fun _ => weak_int ..) l)
def minP (pr : Pt → Int) (l : List Pt) : Nat → Pt
  | 0 => l.getD 0 (0, 0)
  | n + 1 => if pr (l.getD (n + 1) (0, 0)) < pr (minP pr l n) then l.getD (n + 1) (0, 0) else minP pr l n
def maxP (pr : Pt → Int) (l : List Pt) : Nat → Pt
  | 0 => l.getD 0 (0, 0)
  | n + 1 => if pr (maxP pr l n) < pr (l.getD (n + 1) (0, 0)) then l.getD (n + 1) (0, 0) else maxP pr l n
def lowZ (pr : Pt → Int) (l : List Pt) : Nat → Int
  | 0 => pr (l.getD 0 (0, 0))
  | n + 1 => min (lowZ pr l n) (pr (l.getD (n + 1) (0, 0)))
def topZ (pr : Pt → Int) (l : List Pt) : Nat → Int
  | 0 => pr (l.getD 0 (0, 0))
  | n + 1 => max (topZ pr l n) (pr (l.getD (n + 1) (0, 0)))
theorem pr_minP (pr : Pt → Int) (l : List Pt) : ∀ n, pr (minP pr l n) = lowZ pr l n
  | 0 => rfl
  | n + 1 => by
    have := pr_minP pr l n
    unfold minP lowZ
    split <;> omega
theorem pr_maxP (pr : Pt → Int) (l : List Pt) : ∀ n, pr (maxP pr l n) = topZ pr l n
  | 0 => rfl
  | n + 1 => by
    have := pr_maxP pr l n
    unfold maxP topZ
    split <;> omega
/-! ### The comparisons -/
set_option maxRecDepth 100000 in
set_option maxHeartbeats 1000000 in
theorem cl1x [SpC] (p q : Pt) : M X 47 [.agg [.int .i64 p.1, .int .i64 p.2], .agg [.int .i64 q.1, .int .i64 q.2], .rptr [.func (.func 189) [] [], .func (.func 190) [] []]] = some (.int .i64 (if p.1 < q.1 then -1 else if q.1 < p.1 then 1 else 0)) := by
  refine M_of X (fn := Tryz.f47) Tryz.func47 rfl ok_47 mode_47 res_47 _ rfl _ ?_
  intro r hr
  rw [hr]
  simp (maxSteps := 4000000) (disch := first | omega | (simp only [List.length_set, List.length_replicate, List.length_append, List.length_take, List.length_drop, List.length_cons, List.length_nil]; omega)) only [go_sem, reduceCtorEq, Nat.reduceEqDiff, Nat.reduceAdd, Nat.reduceMul, Nat.reduceSub, ↓Nat.reduceBEq, Nat.reduceLT, Nat.reduceLeDiff, Int.reduceLT, Int.reduceLE, Int.reduceNeg, Int.reduceToNat, M_190, M_48]
set_option maxRecDepth 100000 in
set_option maxHeartbeats 1000000 in
theorem cl1y [SpC] (p q : Pt) : M X 47 [.agg [.int .i64 p.1, .int .i64 p.2], .agg [.int .i64 q.1, .int .i64 q.2], .rptr [.func (.func 191) [] [], .func (.func 192) [] []]] = some (.int .i64 (if p.2 < q.2 then -1 else if q.2 < p.2 then 1 else 0)) := by
  refine M_of X (fn := Tryz.f47) Tryz.func47 rfl ok_47 mode_47 res_47 _ rfl _ ?_
  intro r hr
  rw [hr]
  simp (maxSteps := 4000000) (disch := first | omega | (simp only [List.length_set, List.length_replicate, List.length_append, List.length_take, List.length_drop, List.length_cons, List.length_nil]; omega)) only [go_sem, reduceCtorEq, Nat.reduceEqDiff, Nat.reduceAdd, Nat.reduceMul, Nat.reduceSub, ↓Nat.reduceBEq, Nat.reduceLT, Nat.reduceLeDiff, Int.reduceLT, Int.reduceLE, Int.reduceNeg, Int.reduceToNat, M_192, M_48]
set_option maxRecDepth 100000 in
set_option maxHeartbeats 1000000 in
theorem cl2x [SpC] (p q : Pt) : M X 50 [.agg [.int .i64 p.1, .int .i64 p.2], .agg [.int .i64 q.1, .int .i64 q.2], .rptr [.func (.func 189) [] [], .func (.func 190) [] []]] = some (.int .i64 (if p.1 < q.1 then -1 else if q.1 < p.1 then 1 else 0)) := by
  refine M_of X (fn := Tryz.f50) Tryz.func50 rfl ok_50 mode_50 res_50 _ rfl _ ?_
  intro r hr
  rw [hr]
  simp (maxSteps := 4000000) (disch := first | omega | (simp only [List.length_set, List.length_replicate, List.length_append, List.length_take, List.length_drop, List.length_cons, List.length_nil]; omega)) only [go_sem, reduceCtorEq, Nat.reduceEqDiff, Nat.reduceAdd, Nat.reduceMul, Nat.reduceSub, ↓Nat.reduceBEq, Nat.reduceLT, Nat.reduceLeDiff, Int.reduceLT, Int.reduceLE, Int.reduceNeg, Int.reduceToNat, M_190, M_48]
set_option maxRecDepth 100000 in
set_option maxHeartbeats 1000000 in
theorem cl2y [SpC] (p q : Pt) : M X 50 [.agg [.int .i64 p.1, .int .i64 p.2], .agg [.int .i64 q.1, .int .i64 q.2], .rptr [.func (.func 191) [] [], .func (.func 192) [] []]] = some (.int .i64 (if p.2 < q.2 then -1 else if q.2 < p.2 then 1 else 0)) := by
  refine M_of X (fn := Tryz.f50) Tryz.func50 rfl ok_50 mode_50 res_50 _ rfl _ ?_
  intro r hr
  rw [hr]
  simp (maxSteps := 4000000) (disch := first | omega | (simp only [List.length_set, List.length_replicate, List.length_append, List.length_take, List.length_drop, List.length_cons, List.length_nil]; omega)) only [go_sem, reduceCtorEq, Nat.reduceEqDiff, Nat.reduceAdd, Nat.reduceMul, Nat.reduceSub, ↓Nat.reduceBEq, Nat.reduceLT, Nat.reduceLeDiff, Int.reduceLT, Int.reduceLE, Int.reduceNeg, Int.reduceToNat, M_192, M_48]
/-! ### The least and the greatest point -/
set_option maxRecDepth 100000 in
set_option maxHeartbeats 1000000 in
theorem minFunc [SpC] (pr : Pt → Int) (f1 f2 : Nat) (hcmp : ∀ p q : Pt, M X 47 [.agg [.int .i64 p.1, .int .i64 p.2], .agg [.int .i64 q.1, .int .i64 q.2], .rptr [.func (.func f1) [] [], .func (.func f2) [] []]] = some (.int .i64 (if pr p < pr q then -1 else if pr q < pr p then 1 else 0)))
    (l : List Pt) (n : Nat) (hn : l.length = n + 1) (hlen : l.length < 2 ^ 30) :
    M X 46 [.ro (ptC l) l.length false, .func (.func 47) [] [.rptr [.func (.func f1) [] [], .func (.func f2) [] []]]] = some (.agg [.int .i64 (minP pr l n).1, .int .i64 (minP pr l n).2]) := by
  refine M_of X (fn := Tryz.f46) Tryz.func46 rfl ok_46 mode_46 res_46 _ rfl _ ?_
  intro r hr
  rw [hr]
  have hl := ptC_length l
  have hd0 := ptC_take l 0 (by omega)
  simp only [Nat.zero_mul, List.drop_zero] at hd0
  simp (maxSteps := 4000000) (disch := first | omega | (simp only [List.length_set, List.length_replicate, List.length_append, List.length_take, List.length_drop, List.length_cons, List.length_nil]; omega)) only [go_sem, reduceCtorEq, Nat.reduceEqDiff, Nat.reduceAdd, Nat.reduceMul, Nat.reduceSub, ↓Nat.reduceBEq, Nat.reduceLT, Nat.reduceLeDiff, Int.reduceLT, Int.reduceLE, Int.reduceNeg, Int.reduceToNat, hl, hd0]
  refine W_loop X (fun (k : Nat) s => k ≤ n ∧ s.env 0 = .ro (ptC l) l.length false ∧ s.env 1 = .func (.func 47) [] [.rptr [.func (.func f1) [] [], .func (.func f2) [] []]] ∧ s.env 4 = .ptr 0 0 ∧ s.env 5 = .ptr 56 0 ∧ s.env 6 = .int .i64 ((k + 1 : Nat) : Int) ∧ 56 < s.next ∧ s.heap 0 = some (.cells [.int .i64 0, .int .i64 0] false false) ∧ s.heap 56 = some (.cells [.int .i64 (minP pr l k).1, .int .i64 (minP pr l k).2] false false)) (fun k => n - k) ?_ 0 _ ?_
  · rintro k ⟨env, heap, nx⟩ ⟨hk, g0, g1, g4, g5, g6, hnx, h0, h56⟩
    simp only at g0 g1 g4 g5 g6 hnx h0 h56
    have hp := pr_minP pr l k
    by_cases h1 : k < n
    · have hd := ptC_take l (k + 1) (by omega)
      have hs : minP pr l (k + 1) = if pr (l.getD (k + 1) (0, 0)) < pr (minP pr l k) then l.getD (k + 1) (0, 0) else minP pr l k := rfl
      have hc := hcmp (l.getD (k + 1) (0, 0)) (minP pr l k)
      generalize minP pr l k = m at *
      generalize l.getD (k + 1) (0, 0) = q at *
      by_cases h2 : pr q < pr m
      · rw [if_pos h2] at hs hc
        simp (maxSteps := 4000000) (disch := first | omega | (simp only [List.length_set, List.length_replicate, List.length_append, List.length_take, List.length_drop, List.length_cons, List.length_nil]; omega)) only [go_sem, reduceCtorEq, Nat.reduceEqDiff, Nat.reduceAdd, Nat.reduceMul, Nat.reduceSub, ↓Nat.reduceBEq, Nat.reduceLT, Nat.reduceLeDiff, Int.reduceLT, Int.reduceLE, Int.reduceNeg, Int.reduceToNat, hl, hd, g0, g1, g4, g5, g6, h0, h56, weak_rptr, mode_47, hc]
        exact ⟨k + 1, ⟨by omega, rfl, by omega, by rw [hs]⟩, by omega⟩
      · rw [if_neg h2] at hs hc
        by_cases h3 : pr m < pr q
        · rw [if_pos h3] at hc
          simp (maxSteps := 4000000) (disch := first | omega | (simp only [List.length_set, List.length_replicate, List.length_append, List.length_take, List.length_drop, List.length_cons, List.length_nil]; omega)) only [go_sem, reduceCtorEq, Nat.reduceEqDiff, Nat.reduceAdd, Nat.reduceMul, Nat.reduceSub, ↓Nat.reduceBEq, Nat.reduceLT, Nat.reduceLeDiff, Int.reduceLT, Int.reduceLE, Int.reduceNeg, Int.reduceToNat, hl, hd, g0, g1, g4, g5, g6, h0, h56, weak_rptr, mode_47, hc]
          exact ⟨k + 1, ⟨by omega, rfl, by omega, by rw [hs]⟩, by omega⟩
        · rw [if_neg h3] at hc
          simp (maxSteps := 4000000) (disch := first | omega | (simp only [List.length_set, List.length_replicate, List.length_append, List.length_take, List.length_drop, List.length_cons, List.length_nil]; omega)) only [go_sem, reduceCtorEq, Nat.reduceEqDiff, Nat.reduceAdd, Nat.reduceMul, Nat.reduceSub, ↓Nat.reduceBEq, Nat.reduceLT, Nat.reduceLeDiff, Int.reduceLT, Int.reduceLE, Int.reduceNeg, Int.reduceToNat, hl, hd, g0, g1, g4, g5, g6, h0, h56, weak_rptr, mode_47, hc]
          exact ⟨k + 1, ⟨by omega, rfl, by omega, by rw [hs]⟩, by omega⟩
    · have hk' : k = n := by omega
      subst hk'
      simp (maxSteps := 4000000) (disch := first | omega | (simp only [List.length_set, List.length_replicate, List.length_append, List.length_take, List.length_drop, List.length_cons, List.length_nil]; omega)) only [go_sem, reduceCtorEq, Nat.reduceEqDiff, Nat.reduceAdd, Nat.reduceMul, Nat.reduceSub, ↓Nat.reduceBEq, Nat.reduceLT, Nat.reduceLeDiff, Int.reduceLT, Int.reduceLE, Int.reduceNeg, Int.reduceToNat, hl, g0, g1, g4, g5, g6, h0, h56]
  · simp (maxSteps := 4000000) (disch := first | omega | (simp only [List.length_set, List.length_replicate, List.length_append, List.length_take, List.length_drop, List.length_cons, List.length_nil]; omega)) only [go_sem, reduceCtorEq, Nat.reduceEqDiff, Nat.reduceAdd, Nat.reduceMul, Nat.reduceSub, ↓Nat.reduceBEq, Nat.reduceLT, Nat.reduceLeDiff, Int.reduceLT, Int.reduceLE, Int.reduceNeg, Int.reduceToNat]
    exact ⟨rfl, rfl⟩
set_option maxRecDepth 100000 in
set_option maxHeartbeats 1000000 in
theorem maxFunc [SpC] (pr : Pt → Int) (f1 f2 : Nat) (hcmp : ∀ p q : Pt, M X 50 [.agg [.int .i64 p.1, .int .i64 p.2], .agg [.int .i64 q.1, .int .i64 q.2], .rptr [.func (.func f1) [] [], .func (.func f2) [] []]] = some (.int .i64 (if pr p < pr q then -1 else if pr q < pr p then 1 else 0)))
    (l : List Pt) (n : Nat) (hn : l.length = n + 1) (hlen : l.length < 2 ^ 30) :
    M X 49 [.ro (ptC l) l.length false, .func (.func 50) [] [.rptr [.func (.func f1) [] [], .func (.func f2) [] []]]] = some (.agg [.int .i64 (maxP pr l n).1, .int .i64 (maxP pr l n).2]) := by
  refine M_of X (fn := Tryz.f49) Tryz.func49 rfl ok_49 mode_49 res_49 _ rfl _ ?_
  intro r hr
  rw [hr]
  have hl := ptC_length l
  have hd0 := ptC_take l 0 (by omega)
  simp only [Nat.zero_mul, List.drop_zero] at hd0
  simp (maxSteps := 4000000) (disch := first | omega | (simp only [List.length_set, List.length_replicate, List.length_append, List.length_take, List.length_drop, List.length_cons, List.length_nil]; omega)) only [go_sem, reduceCtorEq, Nat.reduceEqDiff, Nat.reduceAdd, Nat.reduceMul, Nat.reduceSub, ↓Nat.reduceBEq, Nat.reduceLT, Nat.reduceLeDiff, Int.reduceLT, Int.reduceLE, Int.reduceNeg, Int.reduceToNat, hl, hd0]
  refine W_loop X (fun (k : Nat) s => k ≤ n ∧ s.env 0 = .ro (ptC l) l.length false ∧ s.env 1 = .func (.func 50) [] [.rptr [.func (.func f1) [] [], .func (.func f2) [] []]] ∧ s.env 4 = .ptr 0 0 ∧ s.env 5 = .ptr 56 0 ∧ s.env 6 = .int .i64 ((k + 1 : Nat) : Int) ∧ 56 < s.next ∧ s.heap 0 = some (.cells [.int .i64 0, .int .i64 0] false false) ∧ s.heap 56 = some (.cells [.int .i64 (maxP pr l k).1, .int .i64 (maxP pr l k).2] false false)) (fun k => n - k) ?_ 0 _ ?_
  · rintro k ⟨env, heap, nx⟩ ⟨hk, g0, g1, g4, g5, g6, hnx, h0, h56⟩
    simp only at g0 g1 g4 g5 g6 hnx h0 h56
    have hp := pr_maxP pr l k
    by_cases h1 : k < n
    · have hd := ptC_take l (k + 1) (by omega)
      have hs : maxP pr l (k + 1) = if pr (maxP pr l k) < pr (l.getD (k + 1) (0, 0)) then l.getD (k + 1) (0, 0) else maxP pr l k := rfl
      have hc := hcmp (l.getD (k + 1) (0, 0)) (maxP pr l k)
      generalize maxP pr l k = m at *
      generalize l.getD (k + 1) (0, 0) = q at *
      by_cases h2 : pr m < pr q
      · rw [if_pos h2] at hs; rw [if_neg (by omega), if_pos h2] at hc
        simp (maxSteps := 4000000) (disch := first | omega | (simp only [List.length_set, List.length_replicate, List.length_append, List.length_take, List.length_drop, List.length_cons, List.length_nil]; omega)) only [go_sem, reduceCtorEq, Nat.reduceEqDiff, Nat.reduceAdd, Nat.reduceMul, Nat.reduceSub, ↓Nat.reduceBEq, Nat.reduceLT, Nat.reduceLeDiff, Int.reduceLT, Int.reduceLE, Int.reduceNeg, Int.reduceToNat, hl, hd, g0, g1, g4, g5, g6, h0, h56, weak_rptr, mode_50, hc]
        exact ⟨k + 1, ⟨by omega, rfl, by omega, by rw [hs]⟩, by omega⟩
      · rw [if_neg h2] at hs
        by_cases h3 : pr q < pr m
        · rw [if_pos h3] at hc
          simp (maxSteps := 4000000) (disch := first | omega | (simp only [List.length_set, List.length_replicate, List.length_append, List.length_take, List.length_drop, List.length_cons, List.length_nil]; omega)) only [go_sem, reduceCtorEq, Nat.reduceEqDiff, Nat.reduceAdd, Nat.reduceMul, Nat.reduceSub, ↓Nat.reduceBEq, Nat.reduceLT, Nat.reduceLeDiff, Int.reduceLT, Int.reduceLE, Int.reduceNeg, Int.reduceToNat, hl, hd, g0, g1, g4, g5, g6, h0, h56, weak_rptr, mode_50, hc]
          exact ⟨k + 1, ⟨by omega, rfl, by omega, by rw [hs]⟩, by omega⟩
        · rw [if_neg h3, if_neg h2] at hc
          simp (maxSteps := 4000000) (disch := first | omega | (simp only [List.length_set, List.length_replicate, List.length_append, List.length_take, List.length_drop, List.length_cons, List.length_nil]; omega)) only [go_sem, reduceCtorEq, Nat.reduceEqDiff, Nat.reduceAdd, Nat.reduceMul, Nat.reduceSub, ↓Nat.reduceBEq, Nat.reduceLT, Nat.reduceLeDiff, Int.reduceLT, Int.reduceLE, Int.reduceNeg, Int.reduceToNat, hl, hd, g0, g1, g4, g5, g6, h0, h56, weak_rptr, mode_50, hc]
          exact ⟨k + 1, ⟨by omega, rfl, by omega, by rw [hs]⟩, by omega⟩
    · have hk' : k = n := by omega
      subst hk'
      simp (maxSteps := 4000000) (disch := first | omega | (simp only [List.length_set, List.length_replicate, List.length_append, List.length_take, List.length_drop, List.length_cons, List.length_nil]; omega)) only [go_sem, reduceCtorEq, Nat.reduceEqDiff, Nat.reduceAdd, Nat.reduceMul, Nat.reduceSub, ↓Nat.reduceBEq, Nat.reduceLT, Nat.reduceLeDiff, Int.reduceLT, Int.reduceLE, Int.reduceNeg, Int.reduceToNat, hl, g0, g1, g4, g5, g6, h0, h56]
  · simp (maxSteps := 4000000) (disch := first | omega | (simp only [List.length_set, List.length_replicate, List.length_append, List.length_take, List.length_drop, List.length_cons, List.length_nil]; omega)) only [go_sem, reduceCtorEq, Nat.reduceEqDiff, Nat.reduceAdd, Nat.reduceMul, Nat.reduceSub, ↓Nat.reduceBEq, Nat.reduceLT, Nat.reduceLeDiff, Int.reduceLT, Int.reduceLE, Int.reduceNeg, Int.reduceToNat]
    exact ⟨rfl, rfl⟩
end Go.Proofs.YtjccikgdebgebaaGreatDoor.Abs
end
