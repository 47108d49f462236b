/-
  The laws BroadMeets and BroadJoins answer true. Conditions: what Sorted answers in the example. Shapes and corners, and the law BroadSwept. Conditions: what Sorted answers in the example. The whole square root of a number, and the step of Newton. No conditions. Packages integer and convex: Small, gcd, Norm, next, cross. No conditions. Package convex: Valid answers true for a shape that is convex and whose sides have whole lengths. No conditions. Package convex: dot, Most, turned; lists of edges and what ContainsFunc finds in them. No conditions.
-/
import Derived.Test.YtjccikgdebgebaaGreatDoorQ10
import Derived.Test.YtjccikgdebgebaaGreatDoorQ07
import Derived.Test.YtjccikgdebgebaaGreatDoorQ09
set_option linter.unusedSimpArgs false
set_option linter.unusedVariables false
section
set_option linter.unusedSimpArgs false
namespace Go.Proofs.YtjccikgdebgebaaGreatDoor.Abs
open Go
theorem manyB_le (l : List Int) : manyB l ≤ 12 := Nat.min_le_left _ _
abbrev SortedSays [SpC] : Prop := SpC.spec 37 [.ro (boxC [bD, bB, bC]) 3 false] = some (.ro (ptC [(0, 2), (1, 2)]) 2 false)
set_option maxRecDepth 100000 in
set_option maxHeartbeats 8000000 in
theorem M_4 [SpC] (hS : SortedSays) (l : List Int) (hl : okI l) (hlen : l.length < 2 ^ 60) : M X 4 [isl l] = some (.bool true) := by
  have hB := M_18 l hl hlen
  have hL := M_17 hS
  have hm := manyB_le l
  have hok := okB_boxesN l (manyB l)
  have hbn := boxesN_length l (manyB l)
  rw [show manyB l = (boxesN l (manyB l)).length from hbn.symm] at hm
  have hB' : M X 18 [isl l] = some (.ro (boxC (boxesN l (manyB l))) (boxesN l (manyB l)).length false) := by rw [hbn]; exact hB
  clear hB hbn
  generalize boxesN l (manyB l) = B at *
  have hg := M_26 (l := B) (by omega)
  have hbl := boxC_length B
  refine M_of X (fn := Tryz.f4) Tryz.func4 rfl ok_4 mode_4 res_4 _ rfl _ ?_
  intro r hr
  rw [hr]
  simp (maxSteps := 4000000) (disch := first | omega | (simp only [List.length_set, List.length_replicate, List.length_append, List.length_take, List.length_drop, List.length_cons, List.length_nil]; omega)) only [go_sem, reduceCtorEq, Nat.reduceEqDiff, Nat.reduceAdd, Nat.reduceMul, Nat.reduceSub, ↓Nat.reduceBEq, Nat.reduceLT, Nat.reduceLeDiff, Int.reduceLT, Int.reduceLE, Int.reduceNeg, Int.reduceToNat, mode_18, hB']
  refine W_loop X (fun (i : Nat) s => i ≤ B.length ∧ s.env 3 = .ro (boxC B) B.length false ∧ s.env 4 = .int .i64 i) (fun i => B.length - i) ?_ 0 _ ?_
  · rintro i ⟨env, heap, nx⟩ ⟨hi, g3, g4⟩
    simp only at g3 g4
    by_cases h1 : i < B.length
    · simp (maxSteps := 4000000) (disch := first | omega | (simp only [List.length_set, List.length_replicate, List.length_append, List.length_take, List.length_drop, List.length_cons, List.length_nil]; omega)) only [go_sem, reduceCtorEq, Nat.reduceEqDiff, Nat.reduceAdd, Nat.reduceMul, Nat.reduceSub, ↓Nat.reduceBEq, Nat.reduceLT, Nat.reduceLeDiff, Int.reduceLT, Int.reduceLE, Int.reduceNeg, Int.reduceToNat, g3, g4]
      have di := boxC_take B i h1
      have bi := hok _ (getD_mem B i h1)
      generalize hbi : B.getD i box0 = b at *
      refine W_loop X (fun (k : Nat) s => k ≤ B.length ∧ s.env 3 = .ro (boxC B) B.length false ∧ s.env 4 = .int .i64 i ∧ s.env 5 = .int .i64 k) (fun k => B.length - k) ?_ 0 _ ?_
      · rintro k ⟨env, heap, nx⟩ ⟨hk, g3, g4, g5⟩
        simp only at g3 g4 g5
        by_cases h2 : k < B.length
        · have dk := boxC_take B k h2
          have bk := hok _ (getD_mem B k h2)
          generalize hbk : B.getD k box0 = c at *
          have q1 := M_19 (ax := b.lx) (ay := b.ly) (ax' := b.hx) (ay' := b.hy) (bx := c.lx) (by0 := c.ly) (bx' := c.hx) (by' := c.hy) (by omega)
          have q2 := M_21 (ax := b.lx) (ay := b.ly) (ax' := b.hx) (ay' := b.hy) (bx := c.lx) (by0 := c.ly) (bx' := c.hx) (by' := c.hy) (by omega)
          have q3 := M_13 (ax := min b.lx c.lx) (ay := min b.ly c.ly) (ax' := max b.hx c.hx) (ay' := max b.hy c.hy) (bx := min b.lx c.lx) (by0 := min b.ly c.ly) (bx' := max b.hx c.hx) (by' := max b.hy c.hy) (by omega)
          rw [decide_eq_true ⟨rfl, rfl, rfl, rfl⟩] at q3
          generalize meetB b.lx b.ly b.hx b.hy c.lx c.ly c.hx c.hy = t at *
          have q4 : (!(t == t)) = false := by cases t <;> rfl
          simp (maxSteps := 4000000) (disch := first | omega | (simp only [List.length_set, List.length_replicate, List.length_append, List.length_take, List.length_drop, List.length_cons, List.length_nil]; omega)) only [go_sem, reduceCtorEq, Nat.reduceEqDiff, Nat.reduceAdd, Nat.reduceMul, Nat.reduceSub, ↓Nat.reduceBEq, Nat.reduceLT, Nat.reduceLeDiff, Int.reduceLT, Int.reduceLE, Int.reduceNeg, Int.reduceToNat, M_20, M_14, M_22, M_23, g3, g4, g5, hbl, di, dk, mode_19, mode_21, mode_13, q1, q2, q3, q4]
          exact ⟨k + 1, ⟨by omega, rfl⟩, by omega⟩
        · have n1 := M_25 (l := B) (b := b) hok (by omega) (by omega)
          have n2 := M_27 (l := B) (b := b) hok (by omega) (by omega)
          have n3 := nearN_len B b B.length
          generalize nearN B b B.length = o at *
          have n4 := M_24 o o (by omega) (by omega)
          rw [decide_eq_true rfl] at n4
          simp (maxSteps := 4000000) (disch := first | omega | (simp only [List.length_set, List.length_replicate, List.length_append, List.length_take, List.length_drop, List.length_cons, List.length_nil]; omega)) only [go_sem, reduceCtorEq, Nat.reduceEqDiff, Nat.reduceAdd, Nat.reduceMul, Nat.reduceSub, ↓Nat.reduceBEq, Nat.reduceLT, Nat.reduceLeDiff, Int.reduceLT, Int.reduceLE, Int.reduceNeg, Int.reduceToNat, M_20, g3, g4, g5, hbl, di, weaks_boxC, mode_26, hg, mode_25, mode_27, mode_24, n1, n2, n4]
          exact ⟨i + 1, ⟨by omega, rfl⟩, by omega⟩
      · simp (maxSteps := 4000000) (disch := first | omega | (simp only [List.length_set, List.length_replicate, List.length_append, List.length_take, List.length_drop, List.length_cons, List.length_nil]; omega)) only [go_sem, reduceCtorEq, Nat.reduceEqDiff, Nat.reduceAdd, Nat.reduceMul, Nat.reduceSub, ↓Nat.reduceBEq, Nat.reduceLT, Nat.reduceLeDiff, Int.reduceLT, Int.reduceLE, Int.reduceNeg, Int.reduceToNat, g3, g4]
    · simp (maxSteps := 4000000) (disch := first | omega | (simp only [List.length_set, List.length_replicate, List.length_append, List.length_take, List.length_drop, List.length_cons, List.length_nil]; omega)) only [go_sem, reduceCtorEq, Nat.reduceEqDiff, Nat.reduceAdd, Nat.reduceMul, Nat.reduceSub, ↓Nat.reduceBEq, Nat.reduceLT, Nat.reduceLeDiff, Int.reduceLT, Int.reduceLE, Int.reduceNeg, Int.reduceToNat, g3, g4, mode_17, hL]
  · simp (maxSteps := 4000000) (disch := first | omega | (simp only [List.length_set, List.length_replicate, List.length_append, List.length_take, List.length_drop, List.length_cons, List.length_nil]; omega)) only [go_sem, reduceCtorEq, Nat.reduceEqDiff, Nat.reduceAdd, Nat.reduceMul, Nat.reduceSub, ↓Nat.reduceBEq, Nat.reduceLT, Nat.reduceLeDiff, Int.reduceLT, Int.reduceLE, Int.reduceNeg, Int.reduceToNat]
def vB (b : BoxQ) : Prop := b.lx ≤ b.hx ∧ b.ly ≤ b.hy
theorem sq_nonneg (q : Rat) : 0 ≤ q * q := by
  rcases (Rat.le_total (a := 0) (b := q)) with h | h
  · exact Rat.mul_nonneg h h
  · have := Rat.mul_nonneg (a := -q) (b := -q) (by grind) (by grind)
    grind
theorem vB_boxesN (l : List Int) (n : Nat) : ∀ b ∈ boxesN l n, vB b := by
  intro b hb
  simp only [boxesN, List.mem_map, List.mem_range] at hb
  obtain ⟨i, _, rfl⟩ := hb
  have h1 := sq_nonneg (numQ (atN l (4 * i + 2) 4096))
  have h2 := sq_nonneg (numQ (atN l (4 * i + 3) 4096))
  unfold vB boxN
  dsimp only
  grind
theorem tdiv_ok (n m : Int) (hn : ok64 n) (hm : 1 < m) : ok64 (n.tdiv m) := by
  obtain ⟨h1, h2⟩ := hn
  have := Int.natAbs_tdiv n m
  have h3 : (n.tdiv m).natAbs ≤ n.natAbs / 2 := by
    rw [this]
    exact Nat.div_le_div_left (by omega) (by omega)
  unfold ok64
  omega
set_option maxRecDepth 100000 in
set_option maxHeartbeats 8000000 in
theorem M_6 [SpC] (hS : SortedSays) (l : List Int) (at0 : Int) (hat : ok64 at0) (hl : okI l) (hlen : l.length < 2 ^ 60) : M X 6 [isl l, .int .i64 at0] = some (.bool true) := by
  have hB := M_18 l hl hlen
  have hL := M_17 hS
  have hm := manyB_le l
  have hok := okB_boxesN l (manyB l)
  have hvb := vB_boxesN l (manyB l)
  have hbn := boxesN_length l (manyB l)
  rw [show manyB l = (boxesN l (manyB l)).length from hbn.symm] at hm
  have hB' : M X 18 [isl l] = some (.ro (boxC (boxesN l (manyB l))) (boxesN l (manyB l)).length false) := by rw [hbn]; exact hB
  clear hB hbn
  generalize boxesN l (manyB l) = B at *
  have hbl := boxC_length B
  refine M_of X (fn := Tryz.f6) Tryz.func6 rfl ok_6 mode_6 res_6 _ rfl _ ?_
  intro r hr
  rw [hr]
  by_cases h0 : B.length = 0
  · simp (maxSteps := 4000000) (disch := first | omega | (simp only [List.length_set, List.length_replicate, List.length_append, List.length_take, List.length_drop, List.length_cons, List.length_nil]; omega)) only [go_sem, reduceCtorEq, Nat.reduceEqDiff, Nat.reduceAdd, Nat.reduceMul, Nat.reduceSub, ↓Nat.reduceBEq, Nat.reduceLT, Nat.reduceLeDiff, Int.reduceLT, Int.reduceLE, Int.reduceNeg, Int.reduceToNat, mode_18, hB', h0, mode_17, hL]
  · have t1 := tdiv_ok at0 12 hat (by omega)
    have t2 := tdiv_ok at0 144 hat (by omega)
    have a1 := M_12 at0 B.length hat (by omega)
    have a2 := M_12 (at0.tdiv 12) B.length t1 (by omega)
    have a3 := M_12 (at0.tdiv 144) B.length t2 (by omega)
    have b1 := arnd_bd at0 B.length (by omega)
    have b2 := arnd_bd (at0.tdiv 12) B.length (by omega)
    have b3 := arnd_bd (at0.tdiv 144) B.length (by omega)
    generalize arnd at0 B.length = i1 at *
    generalize arnd (at0.tdiv 12) B.length = i2 at *
    generalize arnd (at0.tdiv 144) B.length = i3 at *
    have d1 := boxC_take B i1.toNat (by omega)
    have d2 := boxC_take B i2.toNat (by omega)
    have d3 := boxC_take B i3.toNat (by omega)
    have v1 := hvb _ (getD_mem B i1.toNat (by omega))
    have r1 := hok _ (getD_mem B i1.toNat (by omega))
    have r2 := hok _ (getD_mem B i2.toNat (by omega))
    have r3 := hok _ (getD_mem B i3.toNat (by omega))
    generalize B.getD i1.toNat box0 = a at *
    generalize B.getD i2.toNat box0 = b at *
    generalize B.getD i3.toNat box0 = c at *
    have j1 := M_22 (ax := a.lx) (ay := a.ly) (ax' := a.hx) (ay' := a.hy) (bx := b.lx) (by0 := b.ly) (bx' := b.hx) (by' := b.hy) (by omega)
    have j2 := M_22 (ax := b.lx) (ay := b.ly) (ax' := b.hx) (ay' := b.hy) (bx := a.lx) (by0 := a.ly) (bx' := a.hx) (by' := a.hy) (by omega)
    have j3 := M_22 (ax := a.lx) (ay := a.ly) (ax' := a.hx) (ay' := a.hy) (bx := a.lx) (by0 := a.ly) (bx' := a.hx) (by' := a.hy) (by omega)
    have j4 := M_22 (ax := min a.lx b.lx) (ay := min a.ly b.ly) (ax' := max a.hx b.hx) (ay' := max a.hy b.hy) (bx := c.lx) (by0 := c.ly) (bx' := c.hx) (by' := c.hy) (by omega)
    have j5 := M_22 (ax := b.lx) (ay := b.ly) (ax' := b.hx) (ay' := b.hy) (bx := c.lx) (by0 := c.ly) (bx' := c.hx) (by' := c.hy) (by omega)
    have j6 := M_22 (ax := a.lx) (ay := a.ly) (ax' := a.hx) (ay' := a.hy) (bx := min b.lx c.lx) (by0 := min b.ly c.ly) (bx' := max b.hx c.hx) (by' := max b.hy c.hy) (by omega)
    have s1 := M_13 (ax := min a.lx b.lx) (ay := min a.ly b.ly) (ax' := max a.hx b.hx) (ay' := max a.hy b.hy) (bx := min b.lx a.lx) (by0 := min b.ly a.ly) (bx' := max b.hx a.hx) (by' := max b.hy a.hy) (by omega)
    have s2 := M_13 (ax := min a.lx a.lx) (ay := min a.ly a.ly) (ax' := max a.hx a.hx) (ay' := max a.hy a.hy) (bx := a.lx) (by0 := a.ly) (bx' := a.hx) (by' := a.hy) (by omega)
    have s3 := M_13 (ax := min (min a.lx b.lx) c.lx) (ay := min (min a.ly b.ly) c.ly) (ax' := max (max a.hx b.hx) c.hx) (ay' := max (max a.hy b.hy) c.hy) (bx := min a.lx (min b.lx c.lx)) (by0 := min a.ly (min b.ly c.ly)) (bx' := max a.hx (max b.hx c.hx)) (by' := max a.hy (max b.hy c.hy)) (by omega)
    rw [decide_eq_true (by grind)] at s1 s2 s3
    have m1 := M_19 (ax := min a.lx b.lx) (ay := min a.ly b.ly) (ax' := max a.hx b.hx) (ay' := max a.hy b.hy) (bx := c.lx) (by0 := c.ly) (bx' := c.hx) (by' := c.hy) (by omega)
    have m2 := M_19 (ax := a.lx) (ay := a.ly) (ax' := a.hx) (ay' := a.hy) (bx := c.lx) (by0 := c.ly) (bx' := c.hx) (by' := c.hy) (by omega)
    have m3 := M_19 (ax := b.lx) (ay := b.ly) (ax' := b.hx) (ay' := b.hy) (bx := c.lx) (by0 := c.ly) (bx' := c.hx) (by' := c.hy) (by omega)
    have m4 := M_19 (ax := a.lx) (ay := a.ly) (ax' := a.hx) (ay' := a.hy) (bx := a.lx) (by0 := a.ly) (bx' := a.hx) (by' := a.hy) (by omega)
    have m5 := M_19 (ax := a.lx) (ay := a.ly) (ax' := a.hx) (ay' := a.hy) (bx := b.lx) (by0 := b.ly) (bx' := b.hx) (by' := b.hy) (by omega)
    have m6 := M_19 (ax := b.lx) (ay := b.ly) (ax' := b.hx) (ay' := b.hy) (bx := a.lx) (by0 := a.ly) (bx' := a.hx) (by' := a.hy) (by omega)
    have e4 : meetB a.lx a.ly a.hx a.hy a.lx a.ly a.hx a.hy = true := by
      obtain ⟨u1, u2⟩ := v1
      unfold meetB; rw [decide_eq_true]; grind
    have e5 : meetB b.lx b.ly b.hx b.hy a.lx a.ly a.hx a.hy = meetB a.lx a.ly a.hx a.hy b.lx b.ly b.hx b.hy := by
      unfold meetB; grind
    have e1 : meetB a.lx a.ly a.hx a.hy c.lx c.ly c.hx c.hy = true ∨ meetB b.lx b.ly b.hx b.hy c.lx c.ly c.hx c.hy = true → meetB (min a.lx b.lx) (min a.ly b.ly) (max a.hx b.hx) (max a.hy b.hy) c.lx c.ly c.hx c.hy = true := by
      unfold meetB; simp only [decide_eq_true_eq]; grind
    rw [e4] at m4
    rw [e5] at m6
    generalize meetB a.lx a.ly a.hx a.hy b.lx b.ly b.hx b.hy = t5 at *
    generalize meetB a.lx a.ly a.hx a.hy c.lx c.ly c.hx c.hy = t2 at *
    generalize meetB b.lx b.ly b.hx b.hy c.lx c.ly c.hx c.hy = t3 at *
    generalize meetB (min a.lx b.lx) (min a.ly b.ly) (max a.hx b.hx) (max a.hy b.hy) c.lx c.ly c.hx c.hy = t1 at *
    generalize min (min a.lx b.lx) c.lx = z1 at *
    generalize min (min a.ly b.ly) c.ly = z2 at *
    generalize max (max a.hx b.hx) c.hx = z3 at *
    generalize max (max a.hy b.hy) c.hy = z4 at *
    generalize min a.lx (min b.lx c.lx) = z5 at *
    generalize min a.ly (min b.ly c.ly) = z6 at *
    generalize max a.hx (max b.hx c.hx) = z7 at *
    generalize max a.hy (max b.hy c.hy) = z8 at *
    generalize min a.lx b.lx = y1 at *
    generalize min a.ly b.ly = y2 at *
    generalize max a.hx b.hx = y3 at *
    generalize max a.hy b.hy = y4 at *
    obtain ⟨k1, k2⟩ := hat
    have e6 : (t5 == t5) = true := by cases t5 <;> rfl
    by_cases ht : t1 = true
    · subst ht
      simp (maxSteps := 4000000) (disch := first | omega | (simp only [List.length_set, List.length_replicate, List.length_append, List.length_take, List.length_drop, List.length_cons, List.length_nil]; omega)) only [go_sem, reduceCtorEq, Nat.reduceEqDiff, Nat.reduceAdd, Nat.reduceMul, Nat.reduceSub, ↓Nat.reduceBEq, Nat.reduceLT, Nat.reduceLeDiff, Int.reduceLT, Int.reduceLE, Int.reduceNeg, Int.reduceToNat, M_20, M_14, IntWalk.i64_quo', mode_18, hB', hbl, d1, d2, d3, mode_12, a1, a2, a3, mode_22, j1, j2, j3, j4, j5, j6, mode_13, s1, s2, s3, mode_19, m1, m2, m3, m4, m5, m6, e6, mode_17, hL]
    · obtain rfl : t1 = false := by simpa using ht
      obtain rfl : t2 = false := by cases t2 with | false => rfl | true => exact absurd (e1 (.inl rfl)) (by simp)
      obtain rfl : t3 = false := by cases t3 with | false => rfl | true => exact absurd (e1 (.inr rfl)) (by simp)
      simp (maxSteps := 4000000) (disch := first | omega | (simp only [List.length_set, List.length_replicate, List.length_append, List.length_take, List.length_drop, List.length_cons, List.length_nil]; omega)) only [go_sem, reduceCtorEq, Nat.reduceEqDiff, Nat.reduceAdd, Nat.reduceMul, Nat.reduceSub, ↓Nat.reduceBEq, Nat.reduceLT, Nat.reduceLeDiff, Int.reduceLT, Int.reduceLE, Int.reduceNeg, Int.reduceToNat, M_20, M_14, IntWalk.i64_quo', mode_18, hB', hbl, d1, d2, d3, mode_12, a1, a2, a3, mode_22, j1, j2, j3, j4, j5, j6, mode_13, s1, s2, s3, mode_19, m1, m2, m3, m4, m5, m6, e6, mode_17, hL]
end Go.Proofs.YtjccikgdebgebaaGreatDoor.Abs
end
section
set_option linter.unusedSimpArgs false
namespace Go.Proofs.YtjccikgdebgebaaGreatDoor.Abs
open Go
theorem rb_swept {px py vx vy ax ay : Rat} {n1 n2 n3 n4 n5 n6 : Nat} [RS px n1] [RS py n2] [RS vx n3] [RS vy n4] [RS ax n5] [RS ay n6] (l : List Pt) (hP : okP l) (n : Int) (hn : ok64 n) :
    RB (sweptQ l px py vx vy ax ay n) (8 * (n1 + n2 + n3 + n4 + n5 + n6 + 6) + 16) := by
  have k1 := lowX_ok hP (l.length - 1)
  have k2 := lowY_ok hP (l.length - 1)
  have k3 := topX_ok hP (l.length - 1)
  have k4 := topY_ok hP (l.length - 1)
  unfold sweptQ
  generalize lowZ prX l (l.length - 1) = z1 at *
  generalize lowZ prY l (l.length - 1) = z2 at *
  generalize topZ prX l (l.length - 1) = z3 at *
  generalize topZ prY l (l.length - 1) = z4 at *
  have q1 : RS (Rat.divInt z1 1) 3 := rs_divInt (by omega) (nd_lit (by simp only [Bn]; omega)) (nd_lit (by decide))
  have q2 : RS (Rat.divInt z2 1) 3 := rs_divInt (by omega) (nd_lit (by simp only [Bn]; omega)) (nd_lit (by decide))
  have q3 : RS (Rat.divInt z3 1) 3 := rs_divInt (by omega) (nd_lit (by simp only [Bn]; omega)) (nd_lit (by decide))
  have q4 : RS (Rat.divInt z4 1) 3 := rs_divInt (by omega) (nd_lit (by simp only [Bn]; omega)) (nd_lit (by decide))
  have hen : ok64 (if n < 0 then 0 else n) := by obtain ⟨u1, u2⟩ := hn; unfold ok64; split <;> omega
  have re : RS (Rat.divInt (if n < 0 then 0 else n) 1) 3 := by
    obtain ⟨u1, u2⟩ := hen
    exact rs_divInt (by omega) (nd_lit (by simp only [Bn]; omega)) (nd_lit (by decide))
  exact ⟨(inferInstance : RS (_ + _) _).mono (by omega), (inferInstance : RS (_ + _) _).mono (by omega), (inferInstance : RS (_ + _) _).mono (by omega), (inferInstance : RS (_ + _) _).mono (by omega)⟩
def shapeP (n : Int) : List Pt :=
  if arnd n 4 = 0 then [(0, 0), (3 * (1 + arnd (n / 7) 4), 0), (0, 4 * (1 + arnd (n / 7) 4))]
  else if arnd n 4 = 1 then [(-3 * (1 + arnd (n / 7) 4), 0), (0, -4 * (1 + arnd (n / 7) 4)), (3 * (1 + arnd (n / 7) 4), 0), (0, 4 * (1 + arnd (n / 7) 4))]
  else [(-(1 + arnd (n / 7) 4), 0), (1 + arnd (n / 28) 4, 0), (1 + arnd (n / 28) 4, 1 + arnd (n / 7) 4), (-(1 + arnd (n / 7) 4), 1 + arnd (n / 7) 4)]
theorem okP_of {l : List Pt} (h : ∀ p ∈ l, (-1000000 ≤ p.1 ∧ p.1 ≤ 1000000) ∧ (-1000000 ≤ p.2 ∧ p.2 ≤ 1000000)) : okP l := by
  intro k
  by_cases hk : k < l.length
  · have : l.getD k (0, 0) = l[k] := by simp [List.getD_eq_getElem?_getD, List.getElem?_eq_getElem hk]
    rw [this]; exact h _ (List.getElem_mem hk)
  · have : l.getD k (0, 0) = (0, 0) := by simp [List.getD_eq_getElem?_getD, List.getElem?_eq_none (by omega : l.length ≤ k)]
    rw [this]; simp
theorem okP_shape (n : Int) : okP (shapeP n) := by
  have h1 := arnd_bd (n / 7) 4 (by omega)
  have h2 := arnd_bd (n / 28) 4 (by omega)
  apply okP_of
  intro p hp
  unfold shapeP at hp
  split at hp
  · simp only [List.mem_cons, List.not_mem_nil, or_false] at hp
    rcases hp with rfl | rfl | rfl <;> dsimp only <;> omega
  · split at hp
    · simp only [List.mem_cons, List.not_mem_nil, or_false] at hp
      rcases hp with rfl | rfl | rfl | rfl <;> dsimp only <;> omega
    · simp only [List.mem_cons, List.not_mem_nil, or_false] at hp
      rcases hp with rfl | rfl | rfl | rfl <;> dsimp only <;> omega
theorem shape_len (n : Int) : 3 ≤ (shapeP n).length ∧ (shapeP n).length ≤ 4 := by
  unfold shapeP
  split
  · simp
  · split <;> simp
set_option maxRecDepth 100000 in
set_option maxHeartbeats 4000000 in
theorem M_38 [SpC] (n : Int) (hn : 0 ≤ n ∧ n < 4096) : M X 38 [.int .i64 n] = some (.ro (ptC (shapeP n)) (shapeP n).length false) := by
  have a1 := M_12 (n / 7) 4 ⟨by omega, by omega⟩ (by omega)
  have a2 := M_12 (n / 28) 4 ⟨by omega, by omega⟩ (by omega)
  have a3 := M_12 n 4 ⟨by omega, by omega⟩ (by omega)
  have h1 := arnd_bd (n / 7) 4 (by omega)
  have h2 := arnd_bd (n / 28) 4 (by omega)
  have h3 := arnd_bd n 4 (by omega)
  refine M_of X (fn := Tryz.f38) Tryz.func38 rfl ok_38 mode_38 res_38 _ rfl _ ?_
  intro r hr
  rw [hr]
  unfold shapeP
  generalize arnd (n / 7) 4 = u at *
  generalize arnd (n / 28) 4 = v at *
  generalize arnd n 4 = t at *
  by_cases t0 : t = 0
  · subst t0
    simp (maxSteps := 4000000) (disch := first | omega | (simp only [List.length_set, List.length_replicate, List.length_append, List.length_take, List.length_drop, List.length_cons, List.length_nil]; omega)) only [go_sem, reduceCtorEq, Nat.reduceEqDiff, Nat.reduceAdd, Nat.reduceMul, Nat.reduceSub, ↓Nat.reduceBEq, Nat.reduceLT, Nat.reduceLeDiff, Int.reduceLT, Int.reduceLE, Int.reduceNeg, Int.reduceToNat, replA_1, replA_2, replA_3, replA_4, ptC, mode_12, a1, a2, a3]
  · by_cases t1 : t = 1
    · subst t1
      simp (maxSteps := 4000000) (disch := first | omega | (simp only [List.length_set, List.length_replicate, List.length_append, List.length_take, List.length_drop, List.length_cons, List.length_nil]; omega)) only [go_sem, reduceCtorEq, Nat.reduceEqDiff, Nat.reduceAdd, Nat.reduceMul, Nat.reduceSub, ↓Nat.reduceBEq, Nat.reduceLT, Nat.reduceLeDiff, Int.reduceLT, Int.reduceLE, Int.reduceNeg, Int.reduceToNat, replA_1, replA_2, replA_3, replA_4, ptC, mode_12, a1, a2, a3]
    · simp (maxSteps := 4000000) (disch := first | omega | (simp only [List.length_set, List.length_replicate, List.length_append, List.length_take, List.length_drop, List.length_cons, List.length_nil]; omega)) only [go_sem, reduceCtorEq, Nat.reduceEqDiff, Nat.reduceAdd, Nat.reduceMul, Nat.reduceSub, ↓Nat.reduceBEq, Nat.reduceLT, Nat.reduceLeDiff, Int.reduceLT, Int.reduceLE, Int.reduceNeg, Int.reduceToNat, replA_1, replA_2, replA_3, replA_4, ptC, t0, t1, Int.zero_sub, mode_12, a1, a2, a3]
def ptN (l : List Int) (at0 i : Nat) : Pt := (atN l (at0 + 2 * i) 50 - 25, atN l (at0 + 2 * i + 1) 50 - 25)
def ptsP (l : List Int) (at0 n : Nat) : List Pt := (List.range n).map (ptN l at0)
theorem ptsP_succ (l : List Int) (at0 n : Nat) : ptsP l at0 (n + 1) = ptsP l at0 n ++ [ptN l at0 n] := by simp [ptsP, List.range_succ]
theorem ptsP_length (l : List Int) (at0 n : Nat) : (ptsP l at0 n).length = n := by simp [ptsP]
theorem ptC_snoc (l : List Pt) (x y : Int) : ptC (l ++ [(x, y)]) = ptC l ++ [.int .i64 x, .int .i64 y] := by
  induction l with
  | nil => rfl
  | cons p l ih => simp only [ptC, List.cons_append, ih]
def cornP (l : List Int) (at0 : Nat) : List Pt := if 0 < arnd (atN l at0 1024 / 112) 5 then shapeP (atN l at0 1024) else ptsP l at0 (arnd (atN l at0 1024) 4).toNat
theorem okP_corn (l : List Int) (at0 : Nat) : okP (cornP l at0) := by
  unfold cornP
  split
  · exact okP_shape _
  · apply okP_of
    intro p hp
    simp only [ptsP, List.mem_map, List.mem_range] at hp
    obtain ⟨i, _, rfl⟩ := hp
    have h1 := atN_bd l (at0 + 2 * i) 50 (by omega)
    have h2 := atN_bd l (at0 + 2 * i + 1) 50 (by omega)
    unfold ptN
    dsimp only
    omega
theorem corn_len (l : List Int) (at0 : Nat) : (cornP l at0).length ≤ 4 := by
  unfold cornP
  split
  · exact (shape_len _).2
  · rw [ptsP_length]
    have := arnd_bd (atN l at0 1024) 4 (by omega)
    omega
set_option maxRecDepth 100000 in
set_option maxHeartbeats 4000000 in
theorem M_10 [SpC] (l : List Int) (hl : okI l) (hlen : l.length < 2 ^ 60) (at0 : Nat) (hat : at0 < 1000) : M X 10 [isl l, .int .i64 at0] = some (.ro (ptC (cornP l at0)) (cornP l at0).length false) := by
  have t1 := M_43 l at0 1024 hl (by omega) (by omega)
  have b1 := atN_bd l at0 1024 (by omega)
  rw [Int.toNat_natCast] at t1
  refine M_of X (fn := Tryz.f10) Tryz.func10 rfl ok_10 mode_10 res_10 _ rfl _ ?_
  intro r hr
  rw [hr]
  unfold cornP
  generalize atN l at0 1024 = n at *
  have a1 := M_12 (n / 112) 5 ⟨by omega, by omega⟩ (by omega)
  have a2 := M_12 n 4 ⟨by omega, by omega⟩ (by omega)
  have b2 := arnd_bd n 4 (by omega)
  have s1 := M_38 n (by omega)
  by_cases h0 : 0 < arnd (n / 112) 5
  · rw [if_pos h0]
    simp (maxSteps := 4000000) (disch := first | omega | (simp only [List.length_set, List.length_replicate, List.length_append, List.length_take, List.length_drop, List.length_cons, List.length_nil]; omega)) only [go_sem, reduceCtorEq, Nat.reduceEqDiff, Nat.reduceAdd, Nat.reduceMul, Nat.reduceSub, ↓Nat.reduceBEq, Nat.reduceLT, Nat.reduceLeDiff, Int.reduceLT, Int.reduceLE, Int.reduceNeg, Int.reduceToNat, mode_43, t1, mode_12, a1, mode_38, s1, weaks_ptC]
  · rw [if_neg h0]
    simp (maxSteps := 4000000) (disch := first | omega | (simp only [List.length_set, List.length_replicate, List.length_append, List.length_take, List.length_drop, List.length_cons, List.length_nil]; omega)) only [go_sem, reduceCtorEq, Nat.reduceEqDiff, Nat.reduceAdd, Nat.reduceMul, Nat.reduceSub, ↓Nat.reduceBEq, Nat.reduceLT, Nat.reduceLeDiff, Int.reduceLT, Int.reduceLE, Int.reduceNeg, Int.reduceToNat, mode_43, t1, mode_12, a1]
    generalize arnd n 4 = c at *
    refine W_loop X (fun (i : Nat) s => i ≤ c.toNat ∧ s.env 0 = isl l ∧ s.env 1 = .int .i64 at0 ∧ s.env 5 = .int .i64 n ∧ s.env 7 = .int .i64 i ∧ GrowC 0 s.heap s.next (s.env 6) (ptC (ptsP l at0 i)) i 2) (fun i => c.toNat - i) ?_ 0 _ ?_
    · rintro i ⟨env, heap, nx⟩ ⟨hi, g0, g1, g5, g7, hgr⟩
      simp only at g0 g1 g5 g7 hgr
      have hpl := ptC_length (ptsP l at0 i)
      rw [ptsP_length] at hpl
      by_cases h1 : (i : Int) < c
      · have v1 := M_43 l ((at0 + 2 * i : Nat) : Int) 50 hl (by omega) (by omega)
        have v2 := M_43 l ((at0 + 2 * i + 1 : Nat) : Int) 50 hl (by omega) (by omega)
        rw [Int.toNat_natCast] at v1 v2
        have c1 := atN_bd l (at0 + 2 * i) 50 (by omega)
        have c2 := atN_bd l (at0 + 2 * i + 1) 50 (by omega)
        have hs := congrArg ptC (ptsP_succ l at0 i)
        unfold ptN at hs
        rw [ptC_snoc] at hs
        have u1 : (at0 : Int) + 2 * (i : Int) = ((at0 + 2 * i : Nat) : Int) := by omega
        generalize atN l (at0 + 2 * i) 50 = w1 at *
        generalize atN l (at0 + 2 * i + 1) 50 = w2 at *
        rcases hgr with ⟨e3, ec, e0⟩ | ⟨B, hB, e3, eB⟩
        · simp (maxSteps := 4000000) (disch := first | omega | (simp only [List.length_set, List.length_replicate, List.length_append, List.length_take, List.length_drop, List.length_cons, List.length_nil]; omega)) only [go_sem, reduceCtorEq, Nat.reduceEqDiff, Nat.reduceAdd, Nat.reduceMul, Nat.reduceSub, ↓Nat.reduceBEq, Nat.reduceLT, Nat.reduceLeDiff, Int.reduceLT, Int.reduceLE, Int.reduceNeg, Int.reduceToNat, g0, g1, g5, g7, e3, replA_1, u1, mode_43, v1, v2, mode_12, a2]
          subst e0
          exact ⟨1, ⟨by omega, rfl, by rw [hs, ec]; exact growC_put _ _ _ _ _ _ _ (by omega)⟩, by omega⟩
        · simp (maxSteps := 4000000) (disch := first | omega | (simp only [List.length_set, List.length_replicate, List.length_append, List.length_take, List.length_drop, List.length_cons, List.length_nil]; omega)) only [go_sem, reduceCtorEq, Nat.reduceEqDiff, Nat.reduceAdd, Nat.reduceMul, Nat.reduceSub, ↓Nat.reduceBEq, Nat.reduceLT, Nat.reduceLeDiff, Int.reduceLT, Int.reduceLE, Int.reduceNeg, Int.reduceToNat, g0, g1, g5, g7, e3, eB, hpl, replA_1, u1, mode_43, v1, v2, mode_12, a2]
          exact ⟨i + 1, ⟨by omega, rfl, by rw [hs]; exact growC_put _ _ _ _ _ _ _ (by omega)⟩, by omega⟩
      · have hi' : i = c.toNat := by omega
        subst hi'
        rcases hgr with ⟨e3, ec, e0⟩ | ⟨B, hB, e3, eB⟩
        · simp (maxSteps := 4000000) (disch := first | omega | (simp only [List.length_set, List.length_replicate, List.length_append, List.length_take, List.length_drop, List.length_cons, List.length_nil]; omega)) only [go_sem, reduceCtorEq, Nat.reduceEqDiff, Nat.reduceAdd, Nat.reduceMul, Nat.reduceSub, ↓Nat.reduceBEq, Nat.reduceLT, Nat.reduceLeDiff, Int.reduceLT, Int.reduceLE, Int.reduceNeg, Int.reduceToNat, g0, g1, g5, g7, e3, ec, e0, mode_12, a2]
          rfl
        · simp (maxSteps := 4000000) (disch := first | omega | (simp only [List.length_set, List.length_replicate, List.length_append, List.length_take, List.length_drop, List.length_cons, List.length_nil]; omega)) only [go_sem, reduceCtorEq, Nat.reduceEqDiff, Nat.reduceAdd, Nat.reduceMul, Nat.reduceSub, ↓Nat.reduceBEq, Nat.reduceLT, Nat.reduceLeDiff, Int.reduceLT, Int.reduceLE, Int.reduceNeg, Int.reduceToNat, g0, g1, g5, g7, e3, eB, hpl, ptsP_length, snaps_ptC, weaks_ptC, mode_12, a2]
    · simp (maxSteps := 4000000) (disch := first | omega | (simp only [List.length_set, List.length_replicate, List.length_append, List.length_take, List.length_drop, List.length_cons, List.length_nil]; omega)) only [go_sem, reduceCtorEq, Nat.reduceEqDiff, Nat.reduceAdd, Nat.reduceMul, Nat.reduceSub, ↓Nat.reduceBEq, Nat.reduceLT, Nat.reduceLeDiff, Int.reduceLT, Int.reduceLE, Int.reduceNeg, Int.reduceToNat]
      exact growC_nil _ _ _ _
set_option maxRecDepth 100000 in
set_option maxHeartbeats 16000000 in
theorem M_3 [SpC] (hS : SortedSays) (l : List Int) (n k : Int) (hn : ok64 n) (hk : ok64 k) (hl : okI l) (hlen : l.length < 2 ^ 60) : M X 3 [isl l, .int .i64 n, .int .i64 k] = some (.bool true) := by
  have hL := M_17 hS
  have hC : M X 10 [isl l, .int .i64 6] = some (.ro (ptC (cornP l 6)) (cornP l 6).length false) := M_10 l hl hlen 6 (by omega)
  have c1 := okP_corn l 6
  have c2 := corn_len l 6
  have v1 := M_11 l 0 hl (by omega)
  have v2 := M_11 l 2 hl (by omega)
  have v3 := M_11 l 4 hl (by omega)
  have r1 := rs_numQ (atN l (0 : Int).toNat 4096)
  have r2 := rs_numQ (atN l ((0 : Int).toNat + 1) 4096)
  have r3 := rs_numQ (atN l (2 : Int).toNat 4096)
  have r4 := rs_numQ (atN l ((2 : Int).toNat + 1) 4096)
  have r5 := rs_numQ (atN l (4 : Int).toNat 4096)
  have r6 := rs_numQ (atN l ((4 : Int).toNat + 1) 4096)
  generalize numQ (atN l (0 : Int).toNat 4096) = px at *
  generalize numQ (atN l ((0 : Int).toNat + 1) 4096) = py at *
  generalize numQ (atN l (2 : Int).toNat 4096) = vx at *
  generalize numQ (atN l ((2 : Int).toNat + 1) 4096) = vy at *
  generalize numQ (atN l (4 : Int).toNat 4096) = ax at *
  generalize numQ (atN l ((4 : Int).toNat + 1) 4096) = ay at *
  generalize cornP l 6 = c at *
  have a1 := M_12 n 40 hn (by omega)
  have a2 := M_12 k 9 hk (by omega)
  have b1 := arnd_bd n 40 (by omega)
  have b2 := arnd_bd k 9 (by omega)
  generalize arnd n 40 = i1 at *
  generalize arnd k 9 = i2 at *
  have hq : ∀ m : Int, -2 ≤ m ∧ m ≤ 1048576 → ∃ b : BoxQ, M X 15 [.ro (ptC c) c.length false, .agg [zS (Rat.num (px)), zD (Rat.num (px)), zS (dz (px)), zD (dz (px)), zS (Rat.num (py)), zD (Rat.num (py)), zS (dz (py)), zD (dz (py))], .agg [zS (Rat.num (vx)), zD (Rat.num (vx)), zS (dz (vx)), zD (dz (vx)), zS (Rat.num (vy)), zD (Rat.num (vy)), zS (dz (vy)), zD (dz (vy))], .agg [zS (Rat.num (ax)), zD (Rat.num (ax)), zS (dz (ax)), zD (dz (ax)), zS (Rat.num (ay)), zD (Rat.num (ay)), zS (dz (ay)), zD (dz (ay))], .int .i64 m] = some (.agg [zS (Rat.num (b.lx)), zD (Rat.num (b.lx)), zS (dz (b.lx)), zD (dz (b.lx)), zS (Rat.num (b.ly)), zD (Rat.num (b.ly)), zS (dz (b.ly)), zD (dz (b.ly)), zS (Rat.num (b.hx)), zD (Rat.num (b.hx)), zS (dz (b.hx)), zD (dz (b.hx)), zS (Rat.num (b.hy)), zD (Rat.num (b.hy)), zS (dz (b.hy)), zD (dz (b.hy))]) ∧
      M X 16 [.ro (ptC c) c.length false, .agg [zS (Rat.num (px)), zD (Rat.num (px)), zS (dz (px)), zD (dz (px)), zS (Rat.num (py)), zD (Rat.num (py)), zS (dz (py)), zD (dz (py))], .agg [zS (Rat.num (vx)), zD (Rat.num (vx)), zS (dz (vx)), zD (dz (vx)), zS (Rat.num (vy)), zD (Rat.num (vy)), zS (dz (vy)), zD (dz (vy))], .agg [zS (Rat.num (ax)), zD (Rat.num (ax)), zS (dz (ax)), zD (dz (ax)), zS (Rat.num (ay)), zD (Rat.num (ay)), zS (dz (ay)), zD (dz (ay))], .int .i64 m] = some (.agg [zS (Rat.num (b.lx)), zD (Rat.num (b.lx)), zS (dz (b.lx)), zD (dz (b.lx)), zS (Rat.num (b.ly)), zD (Rat.num (b.ly)), zS (dz (b.ly)), zD (dz (b.ly)), zS (Rat.num (b.hx)), zD (Rat.num (b.hx)), zS (dz (b.hx)), zD (dz (b.hx)), zS (Rat.num (b.hy)), zD (Rat.num (b.hy)), zS (dz (b.hy)), zD (dz (b.hy))]) ∧
      M X 13 [.agg [zS (Rat.num (b.lx)), zD (Rat.num (b.lx)), zS (dz (b.lx)), zD (dz (b.lx)), zS (Rat.num (b.ly)), zD (Rat.num (b.ly)), zS (dz (b.ly)), zD (dz (b.ly)), zS (Rat.num (b.hx)), zD (Rat.num (b.hx)), zS (dz (b.hx)), zD (dz (b.hx)), zS (Rat.num (b.hy)), zD (Rat.num (b.hy)), zS (dz (b.hy)), zD (dz (b.hy))], .agg [zS (Rat.num (b.lx)), zD (Rat.num (b.lx)), zS (dz (b.lx)), zD (dz (b.lx)), zS (Rat.num (b.ly)), zD (Rat.num (b.ly)), zS (dz (b.ly)), zD (dz (b.ly)), zS (Rat.num (b.hx)), zD (Rat.num (b.hx)), zS (dz (b.hx)), zD (dz (b.hx)), zS (Rat.num (b.hy)), zD (Rat.num (b.hy)), zS (dz (b.hy)), zD (dz (b.hy))]] = some (.bool true) := by
    intro m hm
    refine ⟨sweptQ c px py vx vy ax ay m, M_15 c c1 (by omega) m ⟨by omega, by omega⟩ (by omega), M_16 c c1 (by omega) m ⟨by omega, by omega⟩ (by omega), ?_⟩
    have rb := rb_swept (px := px) (py := py) (vx := vx) (vy := vy) (ax := ax) (ay := ay) c c1 m ⟨by omega, by omega⟩
    generalize sweptQ c px py vx vy ax ay m = b at *
    have s1 := M_13 (ax := b.lx) (ay := b.ly) (ax' := b.hx) (ay' := b.hy) (bx := b.lx) (by0 := b.ly) (bx' := b.hx) (by' := b.hy) (by omega)
    rw [decide_eq_true ⟨rfl, rfl, rfl, rfl⟩] at s1
    exact s1
  obtain ⟨b, q1, q2, q3⟩ := hq i1 (by omega)
  obtain ⟨d, q4, q5, q6⟩ := hq (i2 - 2) (by omega)
  obtain ⟨e, q7, q8, q9⟩ := hq 1048576 (by omega)
  refine M_of X (fn := Tryz.f3) Tryz.func3 rfl ok_3 mode_3 res_3 _ rfl _ ?_
  intro r hr
  rw [hr]
  simp (maxSteps := 4000000) (disch := first | omega | (simp only [List.length_set, List.length_replicate, List.length_append, List.length_take, List.length_drop, List.length_cons, List.length_nil]; omega)) only [go_sem, reduceCtorEq, Nat.reduceEqDiff, Nat.reduceAdd, Nat.reduceMul, Nat.reduceSub, ↓Nat.reduceBEq, Nat.reduceLT, Nat.reduceLeDiff, Int.reduceLT, Int.reduceLE, Int.reduceNeg, Int.reduceToNat, M_14, W_unroll, unQ_normal, unQ_ret, unQ_exit, Int.reduceAdd, Int.reduceSub, Int.reduceMul, replA_1, replA_2, replA_3, mode_10, hC, weaks_ptC, mode_11, v1, v2, v3, mode_12, a1, a2, mode_15, mode_16, mode_13, q1, q2, q3, q4, q5, q6, q7, q8, q9, mode_17, hL]
end Go.Proofs.YtjccikgdebgebaaGreatDoor.Abs
end
section
set_option linter.unusedSimpArgs false
namespace Go.Proofs.YtjccikgdebgebaaGreatDoor.Abs
open Go
def isqGo : Nat → Nat → Nat
  | 0, _ => 0
  | k + 1, n => if (k + 1) * (k + 1) ≤ n then k + 1 else isqGo k n
/-- The greatest number whose square is at most n. -/
def isq (n : Nat) : Nat := isqGo n n
theorem isqGo_spec (k n : Nat) (h : n < (k + 1) * (k + 1)) : isqGo k n * isqGo k n ≤ n ∧ n < (isqGo k n + 1) * (isqGo k n + 1) := by
  induction k with
  | zero => simp only [isqGo]; omega
  | succ k ih =>
    unfold isqGo
    split
    · next h1 => exact ⟨h1, h⟩
    · exact ih (by omega)
theorem isq_spec (n : Nat) : isq n * isq n ≤ n ∧ n < (isq n + 1) * (isq n + 1) := isqGo_spec n n (by
  have : n * 1 ≤ n * (n + 1) := Nat.mul_le_mul_left n (by omega)
  rw [Nat.add_mul]; omega)
theorem isq_le {n r : Nat} (h : n < (r + 1) * (r + 1)) : isq n ≤ r := by
  have h1 := (isq_spec n).1
  apply Classical.byContradiction; intro h2
  have := Nat.mul_le_mul (show r + 1 ≤ isq n by omega) (show r + 1 ≤ isq n by omega)
  omega
theorem le_isq {n r : Nat} (h : r * r ≤ n) : r ≤ isq n := by
  have h1 := (isq_spec n).2
  apply Classical.byContradiction; intro h2
  have := Nat.mul_le_mul (show isq n + 1 ≤ r by omega) (show isq n + 1 ≤ r by omega)
  omega
theorem newton_ge {n r : Nat} (hr : 0 < r) : isq n ≤ (r + n / r) / 2 := by
  have h1 := (isq_spec n).1
  generalize isq n = s at *
  have hq := Nat.lt_div_mul_add hr (a := n)
  generalize n / r = q at *
  apply Classical.byContradiction; intro h2
  have h3 : r + q + 1 ≤ 2 * s := by omega
  have h4 : q * r + r ≤ (2 * s - r) * r := by
    rw [show q * r + r = (q + 1) * r by rw [Nat.add_mul, Nat.one_mul]]
    exact Nat.mul_le_mul_right r (by omega)
  have h5 : (2 * s - r) * r ≤ s * s := by
    rcases Nat.le_total r s with h6 | h6
    · obtain ⟨d, rfl⟩ := Nat.exists_eq_add_of_le h6
      rw [show 2 * (r + d) - r = r + 2 * d by omega]
      grind
    · obtain ⟨d, rfl⟩ := Nat.exists_eq_add_of_le h6
      by_cases h7 : d ≤ s
      · obtain ⟨e, rfl⟩ := Nat.exists_eq_add_of_le h7
        rw [show 2 * (d + e) - (d + e + d) = e by omega]
        grind
      · rw [show 2 * s - (s + d) = 0 by omega]; omega
  omega
theorem newton_end {n r : Nat} (h1 : isq n ≤ r) (h2 : r ≤ (r + n / r) / 2) : r = isq n := by
  have h3 := Nat.div_mul_le_self n r
  have h4 : r * r ≤ n := Nat.le_trans (Nat.mul_le_mul_right r (show r ≤ n / r by omega)) h3
  have := le_isq h4
  omega
theorem isq_pos {n : Nat} (h : 0 < n) : 0 < isq n := le_isq (r := 1) (by omega)
theorem isq_start (x : Nat) : isq x ≤ Bn ^ ((nd x + 1) / 2) := by
  apply isq_le
  have h := lt_of_nd x
  rw [Int.natAbs_natCast] at h
  have h1 : Bn ^ nd (x : Int) ≤ Bn ^ ((nd x + 1) / 2 + (nd x + 1) / 2) := Nat.pow_le_pow_right (by decide) (by omega)
  rw [Nat.pow_add] at h1
  have h2 := Nat.mul_le_mul (show Bn ^ ((nd x + 1) / 2) ≤ Bn ^ ((nd x + 1) / 2) + 1 by omega) (show Bn ^ ((nd x + 1) / 2) ≤ Bn ^ ((nd x + 1) / 2) + 1 by omega)
  omega
theorem nd_pow (k : Nat) : nd ((Bn ^ k : Nat) : Int) ≤ k + 1 := nd_le_of (by
  rw [Int.natAbs_natCast]; exact Nat.pow_lt_pow_right (by decide) (by omega))
theorem val_start (k : Nat) : val (List.replicate k 0 ++ [1]) = ((Bn ^ k : Nat) : Int) := by
  rw [val_app, val_rep, List.length_replicate, val, val]; simp
theorem okd_start (k : Nat) : okd (List.replicate k 0 ++ [1]) := (okd_app _ _).2 ⟨okd_rep k, by intro d hd; simp at hd; subst hd; decide⟩
set_option maxRecDepth 100000 in
theorem M_114 [SpC] (x : Nat) (hx : nd x < 2 ^ 20) : M X 114 [.agg [zS x, zD x]] =
    some (.tuple [.agg [zS (isq x), zD (isq x)], .bool (decide (isq x * isq x = x))]) := by
  refine M_of X (fn := Tryz.f114) Tryz.func114 rfl ok_114 mode_114 res_114 _ rfl _ ?_
  intro r hr
  by_cases h0 : x = 0
  · have xz := nd_zero (x : Int) (by omega)
    simp (maxSteps := 4000000) (disch := first | omega | (simp only [List.length_set, List.length_replicate, List.length_append, List.length_take, List.length_drop, List.length_cons, List.length_nil]; omega)) only [go_sem, reduceCtorEq, Nat.reduceEqDiff, Nat.reduceAdd, Nat.reduceMul, Nat.reduceSub, ↓Nat.reduceBEq, Nat.reduceLT, Nat.reduceLeDiff, Int.reduceLT, Int.reduceLE, Int.reduceNeg, Int.reduceToNat, xz, zS_pos (x : Int) (by omega)]
    rw [hr, h0]; simp [isq, isqGo, zS, zD, digs_zero, isl, ints]
  · have xp := nd_pos (x : Int) (by omega)
    have hst := ofZ false (List.replicate ((nd x + 1) / 2) 0 ++ [1]) ((Bn ^ ((nd x + 1) / 2) : Nat) : Int) (okd_start _) (by simp; omega) (by rw [val_start]; rfl)
    have hs := isq_start x
    have hn := nd_pow ((nd x + 1) / 2)
    obtain ⟨k, hk⟩ : ∃ k, k = (nd (x : Int) + 1) / 2 := ⟨_, rfl⟩
    have hk' : ((nd (x : Int) + 1 : Nat) : Int) / 2 = (k : Int) := by omega
    rw [← hk] at hst hs hn
    obtain ⟨r0, hr0⟩ : ∃ r0, r0 = Bn ^ k := ⟨_, rfl⟩
    rw [← hr0] at hst hs hn
    have hst' : M X 126 [AV.bool false, AV.ro (ints (List.replicate k 0 ++ [1])) (k + 1) false] = some (.agg [zS (r0 : Int), zD (r0 : Int)]) := by
      rw [← hst, isl]; simp
    simp (maxSteps := 4000000) (disch := first | omega | (simp only [List.length_set, List.length_replicate, List.length_append, List.length_take, List.length_drop, List.length_cons, List.length_nil]; omega)) only [go_sem, reduceCtorEq, Nat.reduceEqDiff, Nat.reduceAdd, Nat.reduceMul, Nat.reduceSub, ↓Nat.reduceBEq, Nat.reduceLT, Nat.reduceLeDiff, Int.reduceLT, Int.reduceLE, Int.reduceNeg, Int.reduceToNat, zS_pos (x : Int) (by omega), hk', mode_126, hst']
    refine W_loop X (fun (m : Nat) s => isq x ≤ m ∧ nd m ≤ k + 1 ∧ s.env 1 = .ptr 0 0 ∧ s.env 2 = .ptr 8 0 ∧ s.env 4 = .ptr 160 0 ∧ 160 < s.next ∧ s.heap 0 = some (.cells [.bool false, zD x] false false) ∧ s.heap 8 = some (.cells [.bool false, .ro [] 0 false] false false) ∧ s.heap 160 = some (.cells [zS m, zD m] false false)) (fun m => m) ?_ r0 _ ?_
    · clear hst hst' hs hn
      rintro m ⟨env, heap, nx⟩ ⟨hs, hm, g1, g2, g4, hnx, e0, e8, e160⟩
      simp only at g1 g2 g4 hnx e0 e8 e160
      have hp := isq_pos (n := x) (by omega)
      have hd := M_133 x m (by omega) (by omega) (by omega)
      rw [zS_pos (x : Int) (by omega)] at hd
      have hnq : nd ((x : Int) / m) ≤ nd x := nd_mono (by rw [← Int.natCast_ediv, Int.natAbs_natCast, Int.natAbs_natCast]; exact Nat.div_le_self _ _)
      have ha := nd_add m ((x : Int) / m)
      have hN : ((m : Int) + (x : Int) / m) / 2 = (((m + x / m) / 2 : Nat) : Int) := by rw [Int.natCast_ediv, Int.natCast_add, Int.natCast_ediv]; rfl
      have hh := M_133 (m + (x : Int) / m) 2 (by omega) (Nat.lt_of_le_of_lt (nd_le_of (k := 1) (by decide)) (by decide)) (by decide)
      rw [hN] at hh
      have g1' := newton_ge (n := x) (r := m) (by omega)
      have g2' := newton_end (n := x) (r := m) hs
      obtain ⟨N, hNN⟩ : ∃ N, N = (m + x / m) / 2 := ⟨_, rfl⟩
      rw [← hNN] at hh g1' g2'
      by_cases h1 : N < m
      · have hnN : nd (N : Int) ≤ nd (m : Int) := nd_mono (by omega)
        simp (maxSteps := 4000000) (disch := first | omega | (simp only [List.length_set, List.length_replicate, List.length_append, List.length_take, List.length_drop, List.length_cons, List.length_nil]; omega)) only [go_sem, reduceCtorEq, Nat.reduceEqDiff, Nat.reduceAdd, Nat.reduceMul, Nat.reduceSub, ↓Nat.reduceBEq, Nat.reduceLT, Nat.reduceLeDiff, Int.reduceLT, Int.reduceLE, Int.reduceNeg, Int.reduceToNat, M_97, M_93, M_101, g1, g2, g4, e0, e8, e160, mode_133, hd, hh, cmpZ_lt (x := (N : Int)) (y := m) (by omega)]
        exact ⟨N, ⟨g1', by omega, by omega, rfl⟩, h1⟩
      · have hmN := g2' (by omega)
        have hnN : nd (N : Int) ≤ nd ((m : Int) + (x : Int) / m) := nd_mono (by
          have : ((x / m : Nat) : Int) = (x : Int) / m := Int.natCast_ediv x m
          omega)
        have hge : ∃ c : Int, 0 ≤ c ∧ cmpZ (N : Int) (m : Int) = c := by
          rcases Int.lt_or_eq_of_le (show (m : Int) ≤ N by omega) with h2 | h2
          · exact ⟨1, by omega, cmpZ_gt h2⟩
          · exact ⟨0, by omega, by rw [h2]; exact cmpZ_self _⟩
        obtain ⟨c, c0, hc⟩ := hge
        have hmm := nd_mul m m
        have hcm := M_101 ((m : Int) * m) x (by omega) (by omega)
        rw [zS_pos (x : Int) (by omega)] at hcm
        obtain ⟨e, he, hee⟩ : ∃ e, e = cmpZ ((m : Int) * m) x ∧ (e = 0 ↔ m * m = x) := ⟨_, rfl, by
          rw [← Int.natCast_mul]
          constructor
          · intro h; apply Classical.byContradiction; intro h3
            rcases Nat.lt_or_gt_of_ne h3 with h4 | h4
            · rw [cmpZ_lt (by omega)] at h; omega
            · rw [cmpZ_gt (by omega)] at h; omega
          · intro h; rw [h]; exact cmpZ_self _⟩
        rw [← he] at hcm
        by_cases h5 : m * m = x
        · have := hee.2 h5; subst this
          simp (maxSteps := 4000000) (disch := first | omega | (simp only [List.length_set, List.length_replicate, List.length_append, List.length_take, List.length_drop, List.length_cons, List.length_nil]; omega)) only [go_sem, reduceCtorEq, Nat.reduceEqDiff, Nat.reduceAdd, Nat.reduceMul, Nat.reduceSub, ↓Nat.reduceBEq, Nat.reduceLT, Nat.reduceLeDiff, Int.reduceLT, Int.reduceLE, Int.reduceNeg, Int.reduceToNat, M_97, M_93, M_101, M_96, g1, g2, g4, e0, e8, e160, mode_133, hd, hh, hc, hcm]
          rw [hr, ← hmN, decide_eq_true h5]
        · have : e ≠ 0 := fun h => h5 (hee.1 h)
          simp (maxSteps := 4000000) (disch := first | omega | (simp only [List.length_set, List.length_replicate, List.length_append, List.length_take, List.length_drop, List.length_cons, List.length_nil]; omega)) only [go_sem, reduceCtorEq, Nat.reduceEqDiff, Nat.reduceAdd, Nat.reduceMul, Nat.reduceSub, ↓Nat.reduceBEq, Nat.reduceLT, Nat.reduceLeDiff, Int.reduceLT, Int.reduceLE, Int.reduceNeg, Int.reduceToNat, M_97, M_93, M_101, M_96, g1, g2, g4, e0, e8, e160, mode_133, hd, hh, hc, hcm]
          rw [hr, ← hmN, decide_eq_false h5]
    · simp (maxSteps := 4000000) (disch := first | omega | (simp only [List.length_set, List.length_replicate, List.length_append, List.length_take, List.length_drop, List.length_cons, List.length_nil]; omega)) only [go_sem, reduceCtorEq, Nat.reduceEqDiff, Nat.reduceAdd, Nat.reduceMul, Nat.reduceSub, ↓Nat.reduceBEq, Nat.reduceLT, Nat.reduceLeDiff, Int.reduceLT, Int.reduceLE, Int.reduceNeg, Int.reduceToNat]
      exact ⟨hs, hn⟩
end Go.Proofs.YtjccikgdebgebaaGreatDoor.Abs
end
section
set_option linter.unusedSimpArgs false
namespace Go.Proofs.YtjccikgdebgebaaGreatDoor.Abs
open Go
set_option maxRecDepth 100000 in
theorem M_115 [SpC] (x : Nat) (hx : x < 1000000000000000000) : M X 115 [.agg [zS x, zD x]] = some (.tuple [.int .i64 x, .bool true]) := by
  refine M_of X (fn := Tryz.f115) Tryz.func115 rfl ok_115 mode_115 res_115 _ rfl _ ?_
  intro r hr
  rw [zS_pos (x : Int) (by omega)]
  by_cases h0 : x = 0
  · rw [zD_nil x (by omega)]
    simp (maxSteps := 4000000) (disch := first | omega | (simp only [List.length_set, List.length_replicate, List.length_append, List.length_take, List.length_drop, List.length_cons, List.length_nil]; omega)) only [go_sem, reduceCtorEq, Nat.reduceEqDiff, Nat.reduceAdd, Nat.reduceMul, Nat.reduceSub, ↓Nat.reduceBEq, Nat.reduceLT, Nat.reduceLeDiff, Int.reduceLT, Int.reduceLE, Int.reduceNeg, Int.reduceToNat]
    rw [W_unroll]
    simp (maxSteps := 4000000) (disch := first | omega | (simp only [List.length_set, List.length_replicate, List.length_append, List.length_take, List.length_drop, List.length_cons, List.length_nil]; omega)) only [go_sem, reduceCtorEq, Nat.reduceEqDiff, Nat.reduceAdd, Nat.reduceMul, Nat.reduceSub, ↓Nat.reduceBEq, Nat.reduceLT, Nat.reduceLeDiff, Int.reduceLT, Int.reduceLE, Int.reduceNeg, Int.reduceToNat, unQ_normal, unQ_ret, unQ_exit]
    rw [hr, h0]; rfl
  · by_cases h1 : x < 1000000000
    · rw [zD_one x (by omega) (by omega), Int.natAbs_natCast]
      simp (maxSteps := 4000000) (disch := first | omega | (simp only [List.length_set, List.length_replicate, List.length_append, List.length_take, List.length_drop, List.length_cons, List.length_nil]; omega)) only [go_sem, reduceCtorEq, Nat.reduceEqDiff, Nat.reduceAdd, Nat.reduceMul, Nat.reduceSub, ↓Nat.reduceBEq, Nat.reduceLT, Nat.reduceLeDiff, Int.reduceLT, Int.reduceLE, Int.reduceNeg, Int.reduceToNat]
      iterate 2
        rw [W_unroll]
        simp (maxSteps := 4000000) (disch := first | omega | (simp only [List.length_set, List.length_replicate, List.length_append, List.length_take, List.length_drop, List.length_cons, List.length_nil]; omega)) only [go_sem, reduceCtorEq, Nat.reduceEqDiff, Nat.reduceAdd, Nat.reduceMul, Nat.reduceSub, ↓Nat.reduceBEq, Nat.reduceLT, Nat.reduceLeDiff, Int.reduceLT, Int.reduceLE, Int.reduceNeg, Int.reduceToNat, unQ_normal, unQ_ret, unQ_exit]
      rw [hr]
      congr 3; omega
    · rw [zD_two x (by omega) (by omega), Int.natAbs_natCast]
      simp (maxSteps := 4000000) (disch := first | omega | (simp only [List.length_set, List.length_replicate, List.length_append, List.length_take, List.length_drop, List.length_cons, List.length_nil]; omega)) only [go_sem, reduceCtorEq, Nat.reduceEqDiff, Nat.reduceAdd, Nat.reduceMul, Nat.reduceSub, ↓Nat.reduceBEq, Nat.reduceLT, Nat.reduceLeDiff, Int.reduceLT, Int.reduceLE, Int.reduceNeg, Int.reduceToNat]
      iterate 3
        rw [W_unroll]
        simp (maxSteps := 4000000) (disch := first | omega | (simp only [List.length_set, List.length_replicate, List.length_append, List.length_take, List.length_drop, List.length_cons, List.length_nil]; omega)) only [go_sem, reduceCtorEq, Nat.reduceEqDiff, Nat.reduceAdd, Nat.reduceMul, Nat.reduceSub, ↓Nat.reduceBEq, Nat.reduceLT, Nat.reduceLeDiff, Int.reduceLT, Int.reduceLE, Int.reduceNeg, Int.reduceToNat, unQ_normal, unQ_ret, unQ_exit]
      rw [hr]
      congr 3; omega
theorem tmod_gcd (a b : Int) : Int.gcd b (a.tmod b) = Int.gcd a b := by
  show Nat.gcd b.natAbs (a.tmod b).natAbs = Nat.gcd a.natAbs b.natAbs
  rw [Int.natAbs_tmod, gcd_step]
set_option maxRecDepth 100000 in
theorem M_116 [SpC] (a b : Int) (ha : -4611686018427387904 ≤ a ∧ a ≤ 4611686018427387904) (hb : -4611686018427387904 ≤ b ∧ b ≤ 4611686018427387904) : M X 116 [.int .i64 a, .int .i64 b] = some (.int .i64 (Int.gcd a b)) := by
  refine M_of X (fn := Tryz.f116) Tryz.func116 rfl ok_116 mode_116 res_116 _ rfl _ ?_
  intro r hr
  simp (maxSteps := 4000000) (disch := first | omega | (simp only [List.length_set, List.length_replicate, List.length_append, List.length_take, List.length_drop, List.length_cons, List.length_nil]; omega)) only [go_sem, reduceCtorEq, Nat.reduceEqDiff, Nat.reduceAdd, Nat.reduceMul, Nat.reduceSub, ↓Nat.reduceBEq, Nat.reduceLT, Nat.reduceLeDiff, Int.reduceLT, Int.reduceLE, Int.reduceNeg, Int.reduceToNat]
  refine W_loop X (fun (n : Nat) s => ∃ x y : Int, n = y.natAbs ∧ s.env 0 = .int .i64 x ∧ s.env 1 = .int .i64 y ∧ Int.gcd x y = Int.gcd a b ∧ (-4611686018427387904 ≤ x ∧ x ≤ 4611686018427387904) ∧ (-4611686018427387904 ≤ y ∧ y ≤ 4611686018427387904)) (fun n => n) ?_ b.natAbs _ ?_
  · rintro n ⟨env, heap, nx⟩ ⟨x, y, hn, g0, g1, hg, hx, hy⟩
    simp only at g0 g1
    by_cases h0 : y = 0
    · rw [h0, Int.gcd_zero_right] at hg
      have hmax : (if x < 0 - x then 0 - x else x) = (Int.gcd a b : Int) := by rw [← hg]; split <;> omega
      simp (maxSteps := 4000000) (disch := first | omega | (simp only [List.length_set, List.length_replicate, List.length_append, List.length_take, List.length_drop, List.length_cons, List.length_nil]; omega)) only [go_sem, reduceCtorEq, Nat.reduceEqDiff, Nat.reduceAdd, Nat.reduceMul, Nat.reduceSub, ↓Nat.reduceBEq, Nat.reduceLT, Nat.reduceLeDiff, Int.reduceLT, Int.reduceLE, Int.reduceNeg, Int.reduceToNat, g0, g1, hmax]
      rw [hr]
    · have h1 := Int.natAbs_tmod x y
      have h2 := Nat.mod_lt x.natAbs (show 0 < y.natAbs by omega)
      simp (maxSteps := 4000000) (disch := first | omega | (simp only [List.length_set, List.length_replicate, List.length_append, List.length_take, List.length_drop, List.length_cons, List.length_nil]; omega)) only [go_sem, reduceCtorEq, Nat.reduceEqDiff, Nat.reduceAdd, Nat.reduceMul, Nat.reduceSub, ↓Nat.reduceBEq, Nat.reduceLT, Nat.reduceLeDiff, Int.reduceLT, Int.reduceLE, Int.reduceNeg, Int.reduceToNat, g0, g1]
      exact ⟨(x.tmod y).natAbs, ⟨y, x.tmod y, rfl, rfl, rfl, by rw [tmod_gcd, hg], hy, by omega⟩, by omega⟩
  · simp (maxSteps := 4000000) (disch := first | omega | (simp only [List.length_set, List.length_replicate, List.length_append, List.length_take, List.length_drop, List.length_cons, List.length_nil]; omega)) only [go_sem, reduceCtorEq, Nat.reduceEqDiff, Nat.reduceAdd, Nat.reduceMul, Nat.reduceSub, ↓Nat.reduceBEq, Nat.reduceLT, Nat.reduceLeDiff, Int.reduceLT, Int.reduceLE, Int.reduceNeg, Int.reduceToNat]
    exact ⟨a, b, rfl, rfl, rfl, rfl, ha, hb⟩
/-! ### Sides -/
def sq2 (x y : Int) : Nat := x.natAbs * x.natAbs + y.natAbs * y.natAbs
def normH (x y : Int) : Nat := isqGo (x.natAbs + y.natAbs) (sq2 x y)
theorem normH_eq (x y : Int) : isq (sq2 x y) = normH x y := by
  have h1 := isq_spec (sq2 x y)
  have h2 := isqGo_spec (x.natAbs + y.natAbs) (sq2 x y) (by
    unfold sq2
    generalize x.natAbs = m
    generalize y.natAbs = n
    have : m * m + n * n ≤ (m + n) * (m + n) := by
      rw [Nat.add_mul, Nat.mul_add, Nat.mul_add]; omega
    have h : (m + n) * (m + n) < (m + n + 1) * (m + n + 1) := Nat.mul_lt_mul_of_lt_of_lt (by omega) (by omega)
    omega)
  have h3 := le_isq h2.1
  have h4 := isq_le (n := sq2 x y) (r := normH x y) h2.2
  exact Nat.le_antisymm h4 h3
def normG (x y : Int) : Nat := Int.gcd (Int.gcd x y) (normH x y)
def normOk (x y : Int) : Bool := decide (normH x y * normH x y = sq2 x y ∧ normH x y ≠ 0)
/-- A direction: X, Y and H. -/
abbrev Dr := Int × Int × Int
abbrev drC (d : Dr) : List AV := [.int .i64 d.1, .int .i64 d.2.1, .int .i64 d.2.2]
/-- convex.Norm, from the differences of the corners. -/
def normV (x y : Int) : Dr := if normOk x y then (y.tdiv (normG x y), (0 - x).tdiv (normG x y), (normH x y : Int) / (normG x y)) else (0, 0, 0)
theorem sq2_int (x y : Int) : (sq2 x y : Int) = x * x + y * y := by
  rw [sq2, Int.natCast_add, Int.natCast_mul, Int.natCast_mul, Int.natAbs_mul_self', Int.natAbs_mul_self']
theorem sq2_le {x y : Int} {k : Nat} (hx : x.natAbs ≤ k) (hy : y.natAbs ≤ k) : sq2 x y ≤ 2 * (k * k) := by
  have h1 := Nat.mul_le_mul hx hx
  have h2 := Nat.mul_le_mul hy hy
  rw [sq2]; omega
theorem isq_self (n : Nat) : isq n ≤ n := isq_le (by
  have : n * 1 ≤ n * (n + 1) := Nat.mul_le_mul_left n (by omega)
  rw [Nat.add_mul]; omega)
/-- A point whose coordinates are small. -/
def okp (p : Pt) : Prop := (-1048576 ≤ p.1 ∧ p.1 ≤ 1048576) ∧ (-1048576 ≤ p.2 ∧ p.2 ≤ 1048576)
set_option maxRecDepth 100000 in
theorem M_76 [SpC] (a b : Pt) (ha : okp a) (hb : okp b) : M X 76 [.agg [.int .i64 a.1, .int .i64 a.2], .agg [.int .i64 b.1, .int .i64 b.2]] =
    some (.tuple [.agg (drC (normV (b.1 - a.1) (b.2 - a.2))), .bool (normOk (b.1 - a.1) (b.2 - a.2))]) := by
  refine M_of X (fn := Tryz.f76) Tryz.func76 rfl ok_76 mode_76 res_76 _ rfl _ ?_
  intro r hr
  obtain ⟨⟨a1, a2⟩, a3, a4⟩ := ha
  obtain ⟨⟨b1, b2⟩, b3, b4⟩ := hb
  obtain ⟨x, hx⟩ : ∃ x, x = b.1 - a.1 := ⟨_, rfl⟩
  obtain ⟨y, hy⟩ : ∃ y, y = b.2 - a.2 := ⟨_, rfl⟩
  rw [← hx, ← hy] at hr
  have hle := sq2_le (x := x) (y := y) (k := 2097152) (by omega) (by omega)
  have hin := sq2_int x y
  have hxx : x * x = (x.natAbs * x.natAbs : Nat) := by rw [Int.natCast_mul, Int.natAbs_mul_self']
  have hyy : y * y = (y.natAbs * y.natAbs : Nat) := by rw [Int.natCast_mul, Int.natAbs_mul_self']
  have hq1 : x.natAbs * x.natAbs ≤ sq2 x y := by rw [sq2]; omega
  have hq2 : y.natAbs * y.natAbs ≤ sq2 x y := by rw [sq2]; omega
  have hnd := nd_small (sq2 x y : Int) (by omega)
  have hrt := M_114 (sq2 x y) (by omega)
  have hof := M_97 (x * x + y * y) (by omega)
  rw [← hin] at hof
  have hsm := M_115 (normH x y) (by have := isq_self (sq2 x y); rw [normH_eq] at this; omega)
  rw [normH_eq] at hrt
  by_cases hok : normH x y * normH x y = sq2 x y
  · rw [decide_eq_true hok] at hrt
    by_cases h0 : normH x y = 0
    · have hN : normOk x y = false := decide_eq_false (by omega)
      simp (maxSteps := 4000000) (disch := first | omega | (simp only [List.length_set, List.length_replicate, List.length_append, List.length_take, List.length_drop, List.length_cons, List.length_nil]; omega)) only [go_sem, reduceCtorEq, Nat.reduceEqDiff, Nat.reduceAdd, Nat.reduceMul, Nat.reduceSub, ↓Nat.reduceBEq, Nat.reduceLT, Nat.reduceLeDiff, Int.reduceLT, Int.reduceLE, Int.reduceNeg, Int.reduceToNat, ← hx, ← hy, ← hin, hrt, hof, hsm]
      rw [hr, normV, hN]; rfl
    · have hN : normOk x y = true := decide_eq_true ⟨hok, h0⟩
      have hle2 : normH x y ≤ sq2 x y := by rw [← normH_eq]; exact isq_self _
      have hg1 := M_116 x y (by omega) (by omega)
      have hgl : Int.gcd x y ≤ sq2 x y := by
        by_cases hx0 : x = 0
        · rw [hx0, Int.gcd_zero_left, sq2]
          have : y.natAbs * 1 ≤ y.natAbs * y.natAbs ∨ y.natAbs = 0 := by
            by_cases h : y.natAbs = 0
            · exact .inr h
            · exact .inl (Nat.mul_le_mul_left _ (by omega))
          rw [hx0] at *
          omega
        · have h1 := Nat.gcd_le_left y.natAbs (show 0 < x.natAbs by omega)
          have h2 : x.natAbs * 1 ≤ x.natAbs * x.natAbs := Nat.mul_le_mul_left _ (by omega)
          rw [Int.gcd]; omega
      have hg2 := M_116 (Int.gcd x y) (normH x y) (by omega) (by omega)
      rw [show Int.gcd (Int.gcd x y) (normH x y) = normG x y from rfl] at hg2
      have hgp : 0 < normG x y := Nat.pos_of_ne_zero fun h => h0 (by have := Int.gcd_eq_zero_iff.1 h; omega)
      simp (maxSteps := 4000000) (disch := first | omega | (simp only [List.length_set, List.length_replicate, List.length_append, List.length_take, List.length_drop, List.length_cons, List.length_nil]; omega)) only [go_sem, reduceCtorEq, Nat.reduceEqDiff, Nat.reduceAdd, Nat.reduceMul, Nat.reduceSub, ↓Nat.reduceBEq, Nat.reduceLT, Nat.reduceLeDiff, Int.reduceLT, Int.reduceLE, Int.reduceNeg, Int.reduceToNat, ← hx, ← hy, ← hin, hrt, hof, hsm, mode_116, hg1, hg2]
      have w1 : IntKind.wrap .i64 (y.tdiv (normG x y)) = y.tdiv (normG x y) := IntWalk.i64_in _ (by have := Int.natAbs_tdiv_le_natAbs y (normG x y); omega)
      have w2 : IntKind.wrap .i64 ((0 - x).tdiv (normG x y)) = (0 - x).tdiv (normG x y) := IntWalk.i64_in _ (by have := Int.natAbs_tdiv_le_natAbs (0 - x) (normG x y); omega)
      rw [hr, normV, hN, w1, w2]; rfl
  · have hN : normOk x y = false := decide_eq_false (by omega)
    rw [decide_eq_false hok] at hrt
    simp (maxSteps := 4000000) (disch := first | omega | (simp only [List.length_set, List.length_replicate, List.length_append, List.length_take, List.length_drop, List.length_cons, List.length_nil]; omega)) only [go_sem, reduceCtorEq, Nat.reduceEqDiff, Nat.reduceAdd, Nat.reduceMul, Nat.reduceSub, ↓Nat.reduceBEq, Nat.reduceLT, Nat.reduceLeDiff, Int.reduceLT, Int.reduceLE, Int.reduceNeg, Int.reduceToNat, ← hx, ← hy, ← hin, hrt, hof, hsm]
    rw [hr, normV, hN]; rfl
theorem M_77 [SpC] (l : List Pt) (i : Nat) (hi : i < l.length) (hl : l.length < 2 ^ 30) : M X 77 [.ro (ptC l) l.length false, .int .i64 i] =
    some (.agg [.int .i64 (l.getD ((i + 1) % l.length) (0, 0)).1, .int .i64 (l.getD ((i + 1) % l.length) (0, 0)).2]) := by
  refine M_of X (fn := Tryz.f77) Tryz.func77 rfl ok_77 mode_77 res_77 _ rfl _ ?_
  intro r hr
  have hl2 := ptC_length l
  have hm := Nat.mod_lt (i + 1) (show 0 < l.length by omega)
  have hd := ptC_take l ((i + 1) % l.length) hm
  have he : ((i + 1 : Nat) : Int) % l.length = (((i + 1) % l.length : Nat) : Int) := (Int.natCast_emod _ _).symm
  simp (maxSteps := 4000000) (disch := first | omega | (simp only [List.length_set, List.length_replicate, List.length_append, List.length_take, List.length_drop, List.length_cons, List.length_nil]; omega)) only [go_sem, reduceCtorEq, Nat.reduceEqDiff, Nat.reduceAdd, Nat.reduceMul, Nat.reduceSub, ↓Nat.reduceBEq, Nat.reduceLT, Nat.reduceLeDiff, Int.reduceLT, Int.reduceLE, Int.reduceNeg, Int.reduceToNat, hl2, he, hd]
  rw [hr]
def crossP (a b c : Pt) : Int := (b.1 - a.1) * (c.2 - a.2) - (b.2 - a.2) * (c.1 - a.1)
theorem prodb {x y : Int} (hx : -2097152 ≤ x ∧ x ≤ 2097152) (hy : -2097152 ≤ y ∧ y ≤ 2097152) : -4398046511104 ≤ x * y ∧ x * y ≤ 4398046511104 := by
  have h := Nat.mul_le_mul (show x.natAbs ≤ 2097152 by omega) (show y.natAbs ≤ 2097152 by omega)
  have h2 := Int.natAbs_mul x y
  omega
theorem M_78 [SpC] (a b c : Pt) (ha : okp a) (hb : okp b) (hc : okp c) : M X 78 [.agg [.int .i64 a.1, .int .i64 a.2], .agg [.int .i64 b.1, .int .i64 b.2], .agg [.int .i64 c.1, .int .i64 c.2]] = some (.int .i64 (crossP a b c)) := by
  refine M_of X (fn := Tryz.f78) Tryz.func78 rfl ok_78 mode_78 res_78 _ rfl _ ?_
  intro r hr
  obtain ⟨⟨a1, a2⟩, a3, a4⟩ := ha
  obtain ⟨⟨b1, b2⟩, b3, b4⟩ := hb
  obtain ⟨⟨c1, c2⟩, c3, c4⟩ := hc
  have h1 := prodb (x := b.1 - a.1) (y := c.2 - a.2) (by omega) (by omega)
  have h2 := prodb (x := b.2 - a.2) (y := c.1 - a.1) (by omega) (by omega)
  simp (maxSteps := 4000000) (disch := first | omega | (simp only [List.length_set, List.length_replicate, List.length_append, List.length_take, List.length_drop, List.length_cons, List.length_nil]; omega)) only [go_sem, reduceCtorEq, Nat.reduceEqDiff, Nat.reduceAdd, Nat.reduceMul, Nat.reduceSub, ↓Nat.reduceBEq, Nat.reduceLT, Nat.reduceLeDiff, Int.reduceLT, Int.reduceLE, Int.reduceNeg, Int.reduceToNat]
  rw [hr]; rfl
end Go.Proofs.YtjccikgdebgebaaGreatDoor.Abs
end
section
set_option linter.unusedSimpArgs false
namespace Go.Proofs.YtjccikgdebgebaaGreatDoor.Abs
open Go
def ptA (l : List Pt) (i : Nat) : Pt := l.getD i (0, 0)
/-- A shape that Valid accepts. -/
def vldP (l : List Pt) : Prop := (3 ≤ l.length ∧ l.length ≤ 8) ∧ (∀ p ∈ l, okp p) ∧
  (∀ i, i < l.length → normOk ((ptA l ((i + 1) % l.length)).1 - (ptA l i).1) ((ptA l ((i + 1) % l.length)).2 - (ptA l i).2) = true) ∧
  (∀ i, i < l.length → ∀ k, k < l.length → k ≠ i → k ≠ (i + 1) % l.length → 0 < crossP (ptA l i) (ptA l ((i + 1) % l.length)) (ptA l k))
theorem okp_getD {l : List Pt} (h : ∀ p ∈ l, okp p) (i : Nat) : okp (ptA l i) := by
  unfold ptA
  rw [List.getD_eq_getElem?_getD]
  by_cases hi : i < l.length
  · rw [List.getElem?_eq_getElem hi]; exact h _ (List.getElem_mem hi)
  · rw [List.getElem?_eq_none (by omega)]; exact ⟨⟨by decide, by decide⟩, by decide, by decide⟩
set_option maxRecDepth 100000 in
theorem M_74 [SpC] (p : Pt) (h : okp p) : M X 74 [.agg [.int .i64 p.1, .int .i64 p.2]] = some (.bool false) := by
  refine M_of X (fn := Tryz.f74) Tryz.func74 rfl ok_74 mode_74 res_74 _ rfl _ ?_
  intro r hr
  obtain ⟨⟨a1, a2⟩, a3, a4⟩ := h
  by_cases h1 : p.1 < p.2
  · simp (maxSteps := 4000000) (disch := first | omega | (simp only [List.length_set, List.length_replicate, List.length_append, List.length_take, List.length_drop, List.length_cons, List.length_nil]; omega)) only [go_sem, reduceCtorEq, Nat.reduceEqDiff, Nat.reduceAdd, Nat.reduceMul, Nat.reduceSub, ↓Nat.reduceBEq, Nat.reduceLT, Nat.reduceLeDiff, Int.reduceLT, Int.reduceLE, Int.reduceNeg, Int.reduceToNat]
    rw [hr]
  · simp (maxSteps := 4000000) (disch := first | omega | (simp only [List.length_set, List.length_replicate, List.length_append, List.length_take, List.length_drop, List.length_cons, List.length_nil]; omega)) only [go_sem, reduceCtorEq, Nat.reduceEqDiff, Nat.reduceAdd, Nat.reduceMul, Nat.reduceSub, ↓Nat.reduceBEq, Nat.reduceLT, Nat.reduceLeDiff, Int.reduceLT, Int.reduceLE, Int.reduceNeg, Int.reduceToNat]
    rw [hr]
set_option maxRecDepth 100000 in
theorem idx_valid [SpC] (l : List Pt) (h : ∀ p ∈ l, okp p) (hl : l.length < 2 ^ 30) : M X 113 [.ro (ptC l) l.length false, .func (.func 74) [] []] = some (.int .i64 (-1)) := by
  refine M_of X (fn := Tryz.f113) Tryz.func113 rfl ok_113 mode_113 res_113 _ rfl _ ?_
  intro r hr
  have hl2 := ptC_length l
  simp (maxSteps := 4000000) (disch := first | omega | (simp only [List.length_set, List.length_replicate, List.length_append, List.length_take, List.length_drop, List.length_cons, List.length_nil]; omega)) only [go_sem, reduceCtorEq, Nat.reduceEqDiff, Nat.reduceAdd, Nat.reduceMul, Nat.reduceSub, ↓Nat.reduceBEq, Nat.reduceLT, Nat.reduceLeDiff, Int.reduceLT, Int.reduceLE, Int.reduceNeg, Int.reduceToNat, hl2]
  refine W_loop X (fun (k : Nat) s => k ≤ l.length ∧ s.env 0 = .ro (ptC l) l.length false ∧ s.env 1 = .func (.func 74) [] [] ∧ s.env 7 = .int .i64 l.length ∧ s.env 8 = .int .i64 k) (fun k => l.length - k) ?_ 0 _ ?_
  · rintro k ⟨env, heap, nx⟩ ⟨hk, g0, g1, g7, g8⟩
    simp only at g0 g1 g7 g8
    by_cases h1 : k < l.length
    · have hd := ptC_take l k h1
      have hv := M_74 (l.getD k (0, 0)) (okp_getD h k)
      simp (maxSteps := 4000000) (disch := first | omega | (simp only [List.length_set, List.length_replicate, List.length_append, List.length_take, List.length_drop, List.length_cons, List.length_nil]; omega)) only [go_sem, reduceCtorEq, Nat.reduceEqDiff, Nat.reduceAdd, Nat.reduceMul, Nat.reduceSub, ↓Nat.reduceBEq, Nat.reduceLT, Nat.reduceLeDiff, Int.reduceLT, Int.reduceLE, Int.reduceNeg, Int.reduceToNat, hl2, hd, g0, g1, g7, g8, mode_74, hv]
      exact ⟨k + 1, ⟨by omega, rfl⟩, by omega⟩
    · simp (maxSteps := 4000000) (disch := first | omega | (simp only [List.length_set, List.length_replicate, List.length_append, List.length_take, List.length_drop, List.length_cons, List.length_nil]; omega)) only [go_sem, reduceCtorEq, Nat.reduceEqDiff, Nat.reduceAdd, Nat.reduceMul, Nat.reduceSub, ↓Nat.reduceBEq, Nat.reduceLT, Nat.reduceLeDiff, Int.reduceLT, Int.reduceLE, Int.reduceNeg, Int.reduceToNat, hl2, g0, g1, g7, g8]
      rw [hr]
  · simp (maxSteps := 4000000) (disch := first | omega | (simp only [List.length_set, List.length_replicate, List.length_append, List.length_take, List.length_drop, List.length_cons, List.length_nil]; omega)) only [go_sem, reduceCtorEq, Nat.reduceEqDiff, Nat.reduceAdd, Nat.reduceMul, Nat.reduceSub, ↓Nat.reduceBEq, Nat.reduceLT, Nat.reduceLeDiff, Int.reduceLT, Int.reduceLE, Int.reduceNeg, Int.reduceToNat]
    done
set_option maxRecDepth 100000 in
theorem con_valid [SpC] (l : List Pt) (h : ∀ p ∈ l, okp p) (hl : l.length < 2 ^ 30) : M X 75 [.ro (ptC l) l.length false, .func (.func 74) [] []] = some (.bool false) := by
  refine M_of X (fn := Tryz.f75) Tryz.func75 rfl ok_75 mode_75 res_75 _ rfl _ ?_
  intro r hr
  have hi := idx_valid l h hl
  have hl2 := ptC_length l
  simp (maxSteps := 4000000) (disch := first | omega | (simp only [List.length_set, List.length_replicate, List.length_append, List.length_take, List.length_drop, List.length_cons, List.length_nil]; omega)) only [go_sem, reduceCtorEq, Nat.reduceEqDiff, Nat.reduceAdd, Nat.reduceMul, Nat.reduceSub, ↓Nat.reduceBEq, Nat.reduceLT, Nat.reduceLeDiff, Int.reduceLT, Int.reduceLE, Int.reduceNeg, Int.reduceToNat, hl2, weaks_ptC, mode_113, hi]
  rw [hr]
set_option maxRecDepth 100000 in
theorem M_39 [SpC] (l : List Pt) (h : vldP l) : M X 39 [.ro (ptC l) l.length false] = some (.bool true) := by
  refine M_of X (fn := Tryz.f39) Tryz.func39 rfl ok_39 mode_39 res_39 _ rfl _ ?_
  intro r hr
  obtain ⟨⟨hl0, hl1⟩, hp, hn, hx⟩ := h
  have hl2 := ptC_length l
  have hc := con_valid l hp (by omega)
  simp (maxSteps := 4000000) (disch := first | omega | (simp only [List.length_set, List.length_replicate, List.length_append, List.length_take, List.length_drop, List.length_cons, List.length_nil]; omega)) only [go_sem, reduceCtorEq, Nat.reduceEqDiff, Nat.reduceAdd, Nat.reduceMul, Nat.reduceSub, ↓Nat.reduceBEq, Nat.reduceLT, Nat.reduceLeDiff, Int.reduceLT, Int.reduceLE, Int.reduceNeg, Int.reduceToNat, hl2, weaks_ptC, mode_75, hc]
  refine W_loop X (fun (i : Nat) s => i ≤ l.length ∧ s.env 0 = .ro (ptC l) l.length false ∧ s.env 20 = .int .i64 l.length ∧ s.env 21 = .int .i64 i) (fun i => l.length - i) ?_ 0 _ ?_
  · rintro i ⟨env, heap, nx⟩ ⟨hi, g0, g20, g21⟩
    simp only at g0 g20 g21
    by_cases h1 : i < l.length
    · have hm := Nat.mod_lt (i + 1) (show 0 < l.length by omega)
      have hd := ptC_take l i h1
      have hne := M_77 l i h1 (by omega)
      have hno := M_76 (ptA l i) (ptA l ((i + 1) % l.length)) (okp_getD hp i) (okp_getD hp _)
      rw [hn i h1] at hno
      rw [show l.getD i (0, 0) = ptA l i from rfl] at hd
      rw [show l.getD ((i + 1) % l.length) (0, 0) = ptA l ((i + 1) % l.length) from rfl] at hne
      simp (maxSteps := 4000000) (disch := first | omega | (simp only [List.length_set, List.length_replicate, List.length_append, List.length_take, List.length_drop, List.length_cons, List.length_nil]; omega)) only [go_sem, reduceCtorEq, Nat.reduceEqDiff, Nat.reduceAdd, Nat.reduceMul, Nat.reduceSub, ↓Nat.reduceBEq, Nat.reduceLT, Nat.reduceLeDiff, Int.reduceLT, Int.reduceLE, Int.reduceNeg, Int.reduceToNat, hl2, hd, g0, g20, g21, mode_77, mode_76, hne, hno, weaks_ptC]
      refine W_loop X (fun (k : Nat) s => k ≤ l.length ∧ s.env 0 = .ro (ptC l) l.length false ∧ s.env 20 = .int .i64 l.length ∧ s.env 21 = .int .i64 i ∧ s.env 4 = .int .i64 i ∧ s.env 38 = .int .i64 l.length ∧ s.env 39 = .int .i64 k) (fun k => l.length - k) ?_ 0 _ ?_
      · clear g0 g20 g21
        rintro k ⟨env, heap, nx⟩ ⟨hk, g0, g20, g21, g4, g38, g39⟩
        simp only at g0 g20 g21 g4 g38 g39
        by_cases h2 : k < l.length
        · have hd2 := ptC_take l k h2
          rw [show l.getD k (0, 0) = ptA l k from rfl] at hd2
          have he : ((i + 1 : Nat) : Int) % l.length = (((i + 1) % l.length : Nat) : Int) := (Int.natCast_emod _ _).symm
          have hcr := M_78 (ptA l i) (ptA l ((i + 1) % l.length)) (ptA l k) (okp_getD hp _) (okp_getD hp _) (okp_getD hp _)
          obtain ⟨m, hm2⟩ : ∃ m, m = (i + 1) % l.length := ⟨_, rfl⟩
          have hxx := hx i h1 k h2
          rw [← hm2] at he hcr hm hxx hne
          by_cases h3 : k = i
          · simp (maxSteps := 4000000) (disch := first | omega | (simp only [List.length_set, List.length_replicate, List.length_append, List.length_take, List.length_drop, List.length_cons, List.length_nil]; omega)) only [go_sem, reduceCtorEq, Nat.reduceEqDiff, Nat.reduceAdd, Nat.reduceMul, Nat.reduceSub, ↓Nat.reduceBEq, Nat.reduceLT, Nat.reduceLeDiff, Int.reduceLT, Int.reduceLE, Int.reduceNeg, Int.reduceToNat, hl2, hd, hd2, g0, g20, g21, g4, g38, g39, he, mode_77, hne, mode_78, hcr, weaks_ptC]
            exact ⟨k + 1, ⟨by omega, rfl⟩, by omega⟩
          · by_cases h4 : k = m
            · simp (maxSteps := 4000000) (disch := first | omega | (simp only [List.length_set, List.length_replicate, List.length_append, List.length_take, List.length_drop, List.length_cons, List.length_nil]; omega)) only [go_sem, reduceCtorEq, Nat.reduceEqDiff, Nat.reduceAdd, Nat.reduceMul, Nat.reduceSub, ↓Nat.reduceBEq, Nat.reduceLT, Nat.reduceLeDiff, Int.reduceLT, Int.reduceLE, Int.reduceNeg, Int.reduceToNat, hl2, hd, hd2, g0, g20, g21, g4, g38, g39, he, mode_77, hne, mode_78, hcr, weaks_ptC]
              exact ⟨k + 1, ⟨by omega, rfl⟩, by omega⟩
            · have hpos := hxx h3 h4
              simp (maxSteps := 4000000) (disch := first | omega | (simp only [List.length_set, List.length_replicate, List.length_append, List.length_take, List.length_drop, List.length_cons, List.length_nil]; omega)) only [go_sem, reduceCtorEq, Nat.reduceEqDiff, Nat.reduceAdd, Nat.reduceMul, Nat.reduceSub, ↓Nat.reduceBEq, Nat.reduceLT, Nat.reduceLeDiff, Int.reduceLT, Int.reduceLE, Int.reduceNeg, Int.reduceToNat, hl2, hd, hd2, g0, g20, g21, g4, g38, g39, he, mode_77, hne, mode_78, hcr, weaks_ptC]
              exact ⟨k + 1, ⟨by omega, rfl⟩, by omega⟩
        · simp (maxSteps := 4000000) (disch := first | omega | (simp only [List.length_set, List.length_replicate, List.length_append, List.length_take, List.length_drop, List.length_cons, List.length_nil]; omega)) only [go_sem, reduceCtorEq, Nat.reduceEqDiff, Nat.reduceAdd, Nat.reduceMul, Nat.reduceSub, ↓Nat.reduceBEq, Nat.reduceLT, Nat.reduceLeDiff, Int.reduceLT, Int.reduceLE, Int.reduceNeg, Int.reduceToNat, hl2, g0, g20, g21, g4, g38, g39]
          exact ⟨i + 1, ⟨by omega, rfl⟩, by omega⟩
      · simp (maxSteps := 4000000) (disch := first | omega | (simp only [List.length_set, List.length_replicate, List.length_append, List.length_take, List.length_drop, List.length_cons, List.length_nil]; omega)) only [go_sem, reduceCtorEq, Nat.reduceEqDiff, Nat.reduceAdd, Nat.reduceMul, Nat.reduceSub, ↓Nat.reduceBEq, Nat.reduceLT, Nat.reduceLeDiff, Int.reduceLT, Int.reduceLE, Int.reduceNeg, Int.reduceToNat, g0, g20, g21]
        done
    · simp (maxSteps := 4000000) (disch := first | omega | (simp only [List.length_set, List.length_replicate, List.length_append, List.length_take, List.length_drop, List.length_cons, List.length_nil]; omega)) only [go_sem, reduceCtorEq, Nat.reduceEqDiff, Nat.reduceAdd, Nat.reduceMul, Nat.reduceSub, ↓Nat.reduceBEq, Nat.reduceLT, Nat.reduceLeDiff, Int.reduceLT, Int.reduceLE, Int.reduceNeg, Int.reduceToNat, hl2, g0, g20, g21]
      rw [hr]
  · simp (maxSteps := 4000000) (disch := first | omega | (simp only [List.length_set, List.length_replicate, List.length_append, List.length_take, List.length_drop, List.length_cons, List.length_nil]; omega)) only [go_sem, reduceCtorEq, Nat.reduceEqDiff, Nat.reduceAdd, Nat.reduceMul, Nat.reduceSub, ↓Nat.reduceBEq, Nat.reduceLT, Nat.reduceLeDiff, Int.reduceLT, Int.reduceLE, Int.reduceNeg, Int.reduceToNat]
    done
end Go.Proofs.YtjccikgdebgebaaGreatDoor.Abs
end
section
set_option linter.unusedSimpArgs false
namespace Go.Proofs.YtjccikgdebgebaaGreatDoor.Abs
open Go
/-- A direction whose numbers are not great. -/
def okd3 (d : Dr) : Prop := (-4194304 ≤ d.1 ∧ d.1 ≤ 4194304) ∧ (-4194304 ≤ d.2.1 ∧ d.2.1 ≤ 4194304)
def dotP (d : Dr) (p : Pt) : Int := d.1 * p.1 + d.2.1 * p.2
def mostP (l : List Pt) (d : Dr) : Int := topZ (dotP d) l (l.length - 1)
def turnD (d : Dr) : Dr := (0 - d.1, 0 - d.2.1, d.2.2)
theorem prodc {x y : Int} (hx : -4194304 ≤ x ∧ x ≤ 4194304) (hy : -1048576 ≤ y ∧ y ≤ 1048576) : -4398046511104 ≤ x * y ∧ x * y ≤ 4398046511104 := by
  have h := Nat.mul_le_mul (show x.natAbs ≤ 4194304 by omega) (show y.natAbs ≤ 1048576 by omega)
  have h2 := Int.natAbs_mul x y
  omega
theorem dotP_bd {d : Dr} {p : Pt} (hd : okd3 d) (hp : okp p) : -8796093022208 ≤ dotP d p ∧ dotP d p ≤ 8796093022208 := by
  have h1 := prodc hd.1 hp.1
  have h2 := prodc hd.2 hp.2
  unfold dotP; omega
theorem turn_ok {d : Dr} (h : okd3 d) : okd3 (turnD d) := by
  obtain ⟨⟨a, b⟩, c, e⟩ := h
  exact ⟨⟨by show -4194304 ≤ 0 - d.1; omega, by show 0 - d.1 ≤ 4194304; omega⟩, by show -4194304 ≤ 0 - d.2.1; omega, by show 0 - d.2.1 ≤ 4194304; omega⟩
set_option maxRecDepth 100000 in
theorem M_121 [SpC] (d : Dr) (p : Pt) (hd : okd3 d) (hp : okp p) : M X 121 [.agg [.int .i64 d.1, .int .i64 d.2.1, .int .i64 d.2.2], .agg [.int .i64 p.1, .int .i64 p.2]] = some (.int .i64 (dotP d p)) := by
  refine M_of X (fn := Tryz.f121) Tryz.func121 rfl ok_121 mode_121 res_121 _ rfl _ ?_
  intro r hr
  have h1 := prodc hd.1 hp.1
  have h2 := prodc hd.2 hp.2
  simp (maxSteps := 4000000) (disch := first | omega | (simp only [List.length_set, List.length_replicate, List.length_append, List.length_take, List.length_drop, List.length_cons, List.length_nil]; omega)) only [go_sem, reduceCtorEq, Nat.reduceEqDiff, Nat.reduceAdd, Nat.reduceMul, Nat.reduceSub, ↓Nat.reduceBEq, Nat.reduceLT, Nat.reduceLeDiff, Int.reduceLT, Int.reduceLE, Int.reduceNeg, Int.reduceToNat]
  rw [hr]; rfl
set_option maxRecDepth 100000 in
theorem M_87 [SpC] (d : Dr) (hd : okd3 d) : M X 87 [.agg [.int .i64 d.1, .int .i64 d.2.1, .int .i64 d.2.2]] = some (.agg [.int .i64 (turnD d).1, .int .i64 (turnD d).2.1, .int .i64 (turnD d).2.2]) := by
  refine M_of X (fn := Tryz.f87) Tryz.func87 rfl ok_87 mode_87 res_87 _ rfl _ ?_
  intro r hr
  obtain ⟨⟨a, b⟩, c, e⟩ := hd
  simp (maxSteps := 4000000) (disch := first | omega | (simp only [List.length_set, List.length_replicate, List.length_append, List.length_take, List.length_drop, List.length_cons, List.length_nil]; omega)) only [go_sem, reduceCtorEq, Nat.reduceEqDiff, Nat.reduceAdd, Nat.reduceMul, Nat.reduceSub, ↓Nat.reduceBEq, Nat.reduceLT, Nat.reduceLeDiff, Int.reduceLT, Int.reduceLE, Int.reduceNeg, Int.reduceToNat]
  rw [hr]; rfl
set_option maxRecDepth 100000 in
theorem M_122 [SpC] (d : Dr) (p q : Pt) (hd : okd3 d) (hp : okp p) (hq : okp q) : M X 122 [.agg [.int .i64 p.1, .int .i64 p.2], .agg [.int .i64 q.1, .int .i64 q.2], .rptr [.int .i64 d.1, .int .i64 d.2.1, .int .i64 d.2.2]] =
    some (.int .i64 (if dotP d p < dotP d q then -1 else if dotP d q < dotP d p then 1 else 0)) := by
  refine M_of X (fn := Tryz.f122) Tryz.func122 rfl ok_122 mode_122 res_122 _ rfl _ ?_
  intro r hr
  have v1 := M_121 d p hd hp
  have v2 := M_121 d q hd hq
  simp (maxSteps := 4000000) (disch := first | omega | (simp only [List.length_set, List.length_replicate, List.length_append, List.length_take, List.length_drop, List.length_cons, List.length_nil]; omega)) only [go_sem, reduceCtorEq, Nat.reduceEqDiff, Nat.reduceAdd, Nat.reduceMul, Nat.reduceSub, ↓Nat.reduceBEq, Nat.reduceLT, Nat.reduceLeDiff, Int.reduceLT, Int.reduceLE, Int.reduceNeg, Int.reduceToNat, M_48, mode_121, v1, v2]
  rw [hr]
set_option maxRecDepth 100000 in
set_option maxHeartbeats 1000000 in
theorem most_func [SpC] (d : Dr) (hd : okd3 d) (l : List Pt) (hp : ∀ p ∈ l, okp p) (n : Nat) (hn : l.length = n + 1) (hlen : l.length < 2 ^ 30) :
    M X 49 [.ro (ptC l) l.length false, .func (.func 122) [] [.rptr [.int .i64 d.1, .int .i64 d.2.1, .int .i64 d.2.2]]] = some (.agg [.int .i64 (maxP (dotP d) l n).1, .int .i64 (maxP (dotP d) l n).2]) := by
  refine M_of X (fn := Tryz.f49) Tryz.func49 rfl ok_49 mode_49 res_49 _ rfl _ ?_
  intro r hr
  rw [hr]
  have hl := ptC_length l
  have hd0 := ptC_take l 0 (by omega)
  simp only [Nat.zero_mul, List.drop_zero] at hd0
  simp (maxSteps := 4000000) (disch := first | omega | (simp only [List.length_set, List.length_replicate, List.length_append, List.length_take, List.length_drop, List.length_cons, List.length_nil]; omega)) only [go_sem, reduceCtorEq, Nat.reduceEqDiff, Nat.reduceAdd, Nat.reduceMul, Nat.reduceSub, ↓Nat.reduceBEq, Nat.reduceLT, Nat.reduceLeDiff, Int.reduceLT, Int.reduceLE, Int.reduceNeg, Int.reduceToNat, hl, hd0]
  refine W_loop X (fun (k : Nat) s => k ≤ n ∧ okp (maxP (dotP d) l k) ∧ s.env 0 = .ro (ptC l) l.length false ∧ s.env 1 = .func (.func 122) [] [.rptr [.int .i64 d.1, .int .i64 d.2.1, .int .i64 d.2.2]] ∧ s.env 4 = .ptr 0 0 ∧ s.env 5 = .ptr 56 0 ∧ s.env 6 = .int .i64 ((k + 1 : Nat) : Int) ∧ 56 < s.next ∧ s.heap 0 = some (.cells [.int .i64 0, .int .i64 0] false false) ∧ s.heap 56 = some (.cells [.int .i64 (maxP (dotP d) l k).1, .int .i64 (maxP (dotP d) l k).2] false false)) (fun k => n - k) ?_ 0 _ ?_
  · rintro k ⟨env, heap, nx⟩ ⟨hk, hok, g0, g1, g4, g5, g6, hnx, h0, h56⟩
    simp only at g0 g1 g4 g5 g6 hnx h0 h56
    by_cases h1 : k < n
    · have hdd := ptC_take l (k + 1) (by omega)
      have hs : maxP (dotP d) l (k + 1) = if dotP d (maxP (dotP d) l k) < dotP d (l.getD (k + 1) (0, 0)) then l.getD (k + 1) (0, 0) else maxP (dotP d) l k := rfl
      have hoq := okp_getD hp (k + 1)
      rw [ptA] at hoq
      have hc := M_122 d (l.getD (k + 1) (0, 0)) (maxP (dotP d) l k) hd hoq hok
      generalize maxP (dotP d) l k = m at *
      generalize l.getD (k + 1) (0, 0) = q at *
      by_cases h2 : dotP d m < dotP d q
      · rw [if_pos h2] at hs; rw [if_neg (by omega), if_pos h2] at hc
        simp (maxSteps := 4000000) (disch := first | omega | (simp only [List.length_set, List.length_replicate, List.length_append, List.length_take, List.length_drop, List.length_cons, List.length_nil]; omega)) only [go_sem, reduceCtorEq, Nat.reduceEqDiff, Nat.reduceAdd, Nat.reduceMul, Nat.reduceSub, ↓Nat.reduceBEq, Nat.reduceLT, Nat.reduceLeDiff, Int.reduceLT, Int.reduceLE, Int.reduceNeg, Int.reduceToNat, hl, hdd, g0, g1, g4, g5, g6, h0, h56, weak_rptr, mode_122, hc]
        exact ⟨k + 1, ⟨by omega, by rw [hs]; exact hoq, rfl, by omega, by rw [hs]⟩, by omega⟩
      · rw [if_neg h2] at hs
        by_cases h3 : dotP d q < dotP d m
        · rw [if_pos h3] at hc
          simp (maxSteps := 4000000) (disch := first | omega | (simp only [List.length_set, List.length_replicate, List.length_append, List.length_take, List.length_drop, List.length_cons, List.length_nil]; omega)) only [go_sem, reduceCtorEq, Nat.reduceEqDiff, Nat.reduceAdd, Nat.reduceMul, Nat.reduceSub, ↓Nat.reduceBEq, Nat.reduceLT, Nat.reduceLeDiff, Int.reduceLT, Int.reduceLE, Int.reduceNeg, Int.reduceToNat, hl, hdd, g0, g1, g4, g5, g6, h0, h56, weak_rptr, mode_122, hc]
          exact ⟨k + 1, ⟨by omega, by rw [hs]; exact hok, rfl, by omega, by rw [hs]⟩, by omega⟩
        · rw [if_neg h3, if_neg h2] at hc
          simp (maxSteps := 4000000) (disch := first | omega | (simp only [List.length_set, List.length_replicate, List.length_append, List.length_take, List.length_drop, List.length_cons, List.length_nil]; omega)) only [go_sem, reduceCtorEq, Nat.reduceEqDiff, Nat.reduceAdd, Nat.reduceMul, Nat.reduceSub, ↓Nat.reduceBEq, Nat.reduceLT, Nat.reduceLeDiff, Int.reduceLT, Int.reduceLE, Int.reduceNeg, Int.reduceToNat, hl, hdd, g0, g1, g4, g5, g6, h0, h56, weak_rptr, mode_122, hc]
          exact ⟨k + 1, ⟨by omega, by rw [hs]; exact hok, rfl, by omega, by rw [hs]⟩, by omega⟩
    · have hk' : k = n := by omega
      subst hk'
      simp (maxSteps := 4000000) (disch := first | omega | (simp only [List.length_set, List.length_replicate, List.length_append, List.length_take, List.length_drop, List.length_cons, List.length_nil]; omega)) only [go_sem, reduceCtorEq, Nat.reduceEqDiff, Nat.reduceAdd, Nat.reduceMul, Nat.reduceSub, ↓Nat.reduceBEq, Nat.reduceLT, Nat.reduceLeDiff, Int.reduceLT, Int.reduceLE, Int.reduceNeg, Int.reduceToNat, hl, g0, g1, g4, g5, g6, h0, h56]
  · simp (maxSteps := 4000000) (disch := first | omega | (simp only [List.length_set, List.length_replicate, List.length_append, List.length_take, List.length_drop, List.length_cons, List.length_nil]; omega)) only [go_sem, reduceCtorEq, Nat.reduceEqDiff, Nat.reduceAdd, Nat.reduceMul, Nat.reduceSub, ↓Nat.reduceBEq, Nat.reduceLT, Nat.reduceLeDiff, Int.reduceLT, Int.reduceLE, Int.reduceNeg, Int.reduceToNat]
    exact ⟨okp_getD hp 0, rfl, rfl⟩
theorem okp_max (pr : Pt → Int) {l : List Pt} (hp : ∀ p ∈ l, okp p) : ∀ n, okp (maxP pr l n)
  | 0 => okp_getD hp 0
  | n + 1 => by
    unfold maxP
    split
    · exact okp_getD hp (n + 1)
    · exact okp_max pr hp n
set_option maxRecDepth 100000 in
theorem M_86 [SpC] (d : Dr) (hd : okd3 d) (l : List Pt) (hp : ∀ p ∈ l, okp p) (hn : 0 < l.length) (hlen : l.length < 2 ^ 30) : M X 86 [.ro (ptC l) l.length false, .agg [.int .i64 d.1, .int .i64 d.2.1, .int .i64 d.2.2]] = some (.int .i64 (mostP l d)) := by
  refine M_of X (fn := Tryz.f86) Tryz.func86 rfl ok_86 mode_86 res_86 _ rfl _ ?_
  intro r hr
  have hl := ptC_length l
  have v1 := most_func d hd l hp (l.length - 1) (by omega) hlen
  have v2 := M_121 d (maxP (dotP d) l (l.length - 1)) hd (okp_max _ hp _)
  rw [pr_maxP (dotP d) l] at v2
  simp (maxSteps := 4000000) (disch := first | omega | (simp only [List.length_set, List.length_replicate, List.length_append, List.length_take, List.length_drop, List.length_cons, List.length_nil]; omega)) only [go_sem, reduceCtorEq, Nat.reduceEqDiff, Nat.reduceAdd, Nat.reduceMul, Nat.reduceSub, ↓Nat.reduceBEq, Nat.reduceLT, Nat.reduceLeDiff, Int.reduceLT, Int.reduceLE, Int.reduceNeg, Int.reduceToNat, hl, weaks_ptC, weak_rptr, mode_121, mode_49, v1, v2]
  rw [hr]; rfl
theorem mostP_bd {l : List Pt} {d : Dr} (hd : okd3 d) (hp : ∀ p ∈ l, okp p) : -8796093022208 ≤ mostP l d ∧ mostP l d ≤ 8796093022208 := by
  rw [mostP, ← pr_maxP (dotP d) l]
  exact dotP_bd hd (okp_max _ hp _)
/-! ### Lists of edges -/
abbrev Ed := Dr × Int
abbrev edA (e : Ed) : List AV := [.int .i64 e.1.1, .int .i64 e.1.2.1, .int .i64 e.1.2.2, .int .i64 e.2]
def edC : List Ed → List AV
  | [] => []
  | e :: l => .int .i64 e.1.1 :: .int .i64 e.1.2.1 :: .int .i64 e.1.2.2 :: .int .i64 e.2 :: edC l
def ed0 : Ed := ((0, 0, 0), 0)
theorem edC_length (l : List Ed) : (edC l).length = 4 * l.length := by
  induction l with
  | nil => rfl
  | cons x l ih => simp [edC, ih]; omega
theorem edC_take (l : List Ed) (k : Nat) (h : k < l.length) : List.take 4 (List.drop (k * 4) (edC l)) = edA (l.getD k ed0) := by
  induction l generalizing k with
  | nil => simp at h
  | cons x l ih =>
    cases k with
    | zero => simp [edC]
    | succ k =>
      have := ih k (by simpa using h)
      rw [show (k + 1) * 4 = k * 4 + 4 by omega]
      simpa [edC] using this
theorem edC_snoc (l : List Ed) (e : Ed) : edC (l ++ [e]) = edC l ++ edA e := by
  induction l with
  | nil => rfl
  | cons x l ih => simp [edC, ih]
theorem edC_all (P : AV → Prop) (hs : ∀ z, P (.int .i64 z)) (l : List Ed) : ∀ c ∈ edC l, P c := by
  induction l with
  | nil => intro c hc; simp [edC] at hc
  | cons b l ih =>
    intro c hc
    simp only [edC, List.mem_cons] at hc
    rcases hc with rfl | rfl | rfl | rfl | hc
    · exact hs _
    · exact hs _
    · exact hs _
    · exact hs _
    · exact ih _ hc
theorem snaps_edC (h : Heap) (d : Nat) (l : List Ed) : snaps (snap h (d + 1)) (edC l) = some (edC l, []) := snaps_of (edC_all _ (fun _ => snap_int ..) l)
theorem weaks_edC (l : List Ed) : AV.weak.go (edC l) = edC l := weaks_all (edC_all _ (fun _ => weak_int ..) l)
set_option maxRecDepth 100000 in
theorem idx_edge [SpC] (f : Nat) (hm : X.mode f = .ro) (cs : List AV) (hw : AV.weak.go cs = cs) (P : Ed → Bool) (l : List Ed) (hc : ∀ e ∈ l, M X f [.agg (edA e), .rptr cs] = some (.bool (P e))) (hl : l.length < 2 ^ 30) (g : Bool) :
    ∃ z : Int, M X 117 [.ro (edC l) l.length g, .func (.func f) [] [.rptr cs]] = some (.int .i64 z) ∧ decide (0 ≤ z) = l.any P := by
  suffices h : ∃ r, (∃ z : Int, r = .int .i64 z ∧ decide (0 ≤ z) = l.any P) ∧ M X 117 [.ro (edC l) l.length g, .func (.func f) [] [.rptr cs]] = some r by
    obtain ⟨r, ⟨z, rfl, h1⟩, h2⟩ := h
    exact ⟨z, h2, h1⟩
  refine M_ex (fn := Tryz.f117) Tryz.func117 rfl ok_117 mode_117 res_117 _ rfl _ ?_
  have hl2 := edC_length l
  simp (maxSteps := 4000000) (disch := first | omega | (simp only [List.length_set, List.length_replicate, List.length_append, List.length_take, List.length_drop, List.length_cons, List.length_nil]; omega)) only [go_sem, reduceCtorEq, Nat.reduceEqDiff, Nat.reduceAdd, Nat.reduceMul, Nat.reduceSub, ↓Nat.reduceBEq, Nat.reduceLT, Nat.reduceLeDiff, Int.reduceLT, Int.reduceLE, Int.reduceNeg, Int.reduceToNat, hl2]
  refine W_loop X (fun (k : Nat) s => k ≤ l.length ∧ (∀ j, j < k → P (l.getD j ed0) = false) ∧ s.env 0 = .ro (edC l) l.length g ∧ s.env 1 = .func (.func f) [] [.rptr cs] ∧ s.env 7 = .int .i64 l.length ∧ s.env 8 = .int .i64 k) (fun k => l.length - k) ?_ 0 _ ?_
  · rintro k ⟨env, heap, nx⟩ ⟨hk, hj, g0, g1, g7, g8⟩
    simp only at g0 g1 g7 g8
    by_cases h1 : k < l.length
    · have hd := edC_take l k h1
      have hmem : l.getD k ed0 ∈ l := by rw [List.getD_eq_getElem?_getD, List.getElem?_eq_getElem h1]; exact List.getElem_mem h1
      have hv := hc _ hmem
      by_cases h2 : P (l.getD k ed0) = true
      · rw [h2] at hv
        have hany : l.any P = true := List.any_eq_true.2 ⟨_, hmem, h2⟩
        generalize l.getD k ed0 = e at *
        simp (maxSteps := 4000000) (disch := first | omega | (simp only [List.length_set, List.length_replicate, List.length_append, List.length_take, List.length_drop, List.length_cons, List.length_nil]; omega)) only [go_sem, reduceCtorEq, Nat.reduceEqDiff, Nat.reduceAdd, Nat.reduceMul, Nat.reduceSub, ↓Nat.reduceBEq, Nat.reduceLT, Nat.reduceLeDiff, Int.reduceLT, Int.reduceLE, Int.reduceNeg, Int.reduceToNat, hl2, hd, g0, g1, g7, g8, hm, hv, weak_rptr, hw]
        exact ⟨_, rfl, by rw [hany]; exact decide_eq_true (by omega)⟩
      · simp only [Bool.not_eq_true] at h2
        rw [h2] at hv
        have hj' : ∀ j, j < k + 1 → P (l.getD j ed0) = false := by
          intro j h3
          rcases Nat.lt_or_ge j k with h4 | h4
          · exact hj j h4
          · obtain rfl : j = k := by omega
            exact h2
        clear hj
        generalize l.getD k ed0 = e at hd hv
        simp (maxSteps := 4000000) (disch := first | omega | (simp only [List.length_set, List.length_replicate, List.length_append, List.length_take, List.length_drop, List.length_cons, List.length_nil]; omega)) only [go_sem, reduceCtorEq, Nat.reduceEqDiff, Nat.reduceAdd, Nat.reduceMul, Nat.reduceSub, ↓Nat.reduceBEq, Nat.reduceLT, Nat.reduceLeDiff, Int.reduceLT, Int.reduceLE, Int.reduceNeg, Int.reduceToNat, hl2, hd, g0, g1, g7, g8, hm, hv, weak_rptr, hw]
        exact ⟨k + 1, ⟨by omega, hj', rfl⟩, by omega⟩
    · have hany : l.any P = false := by
        rw [List.any_eq_false]
        intro e he
        obtain ⟨j, h3, rfl⟩ := List.getElem_of_mem he
        have := hj j (by omega)
        rw [List.getD_eq_getElem?_getD, List.getElem?_eq_getElem h3] at this
        simpa using this
      simp (maxSteps := 4000000) (disch := first | omega | (simp only [List.length_set, List.length_replicate, List.length_append, List.length_take, List.length_drop, List.length_cons, List.length_nil]; omega)) only [go_sem, reduceCtorEq, Nat.reduceEqDiff, Nat.reduceAdd, Nat.reduceMul, Nat.reduceSub, ↓Nat.reduceBEq, Nat.reduceLT, Nat.reduceLeDiff, Int.reduceLT, Int.reduceLE, Int.reduceNeg, Int.reduceToNat, hl2, g0, g1, g7, g8]
      exact ⟨_, rfl, by rw [hany]; rfl⟩
  · simp (maxSteps := 4000000) (disch := first | omega | (simp only [List.length_set, List.length_replicate, List.length_append, List.length_take, List.length_drop, List.length_cons, List.length_nil]; omega)) only [go_sem, reduceCtorEq, Nat.reduceEqDiff, Nat.reduceAdd, Nat.reduceMul, Nat.reduceSub, ↓Nat.reduceBEq, Nat.reduceLT, Nat.reduceLeDiff, Int.reduceLT, Int.reduceLE, Int.reduceNeg, Int.reduceToNat]
    exact fun j h => absurd h (Nat.not_lt_zero j)
set_option maxRecDepth 100000 in
theorem con_edge [SpC] (f : Nat) (hm : X.mode f = .ro) (cs : List AV) (hw : AV.weak.go cs = cs) (P : Ed → Bool) (l : List Ed) (hc : ∀ e ∈ l, M X f [.agg (edA e), .rptr cs] = some (.bool (P e))) (hl : l.length < 2 ^ 30) (g : Bool) :
    M X 80 [.ro (edC l) l.length g, .func (.func f) [] [.rptr cs]] = some (.bool (l.any P)) := by
  refine M_of X (fn := Tryz.f80) Tryz.func80 rfl ok_80 mode_80 res_80 _ rfl _ ?_
  intro r hr
  obtain ⟨z, h1, h2⟩ := idx_edge f hm cs hw P l hc hl false
  have hl2 := edC_length l
  simp (maxSteps := 4000000) (disch := first | omega | (simp only [List.length_set, List.length_replicate, List.length_append, List.length_take, List.length_drop, List.length_cons, List.length_nil]; omega)) only [go_sem, reduceCtorEq, Nat.reduceEqDiff, Nat.reduceAdd, Nat.reduceMul, Nat.reduceSub, ↓Nat.reduceBEq, Nat.reduceLT, Nat.reduceLeDiff, Int.reduceLT, Int.reduceLE, Int.reduceNeg, Int.reduceToNat, hl2, weaks_edC, weak_rptr, hw, mode_117, h1]
  rw [hr, h2]
end Go.Proofs.YtjccikgdebgebaaGreatDoor.Abs
end
