/-
  The laws BroadMeets and BroadJoins answer true. Conditions: what Sorted answers in the example. Shapes and corners, and the law BroadSwept. Conditions: what Sorted answers in the example. A coordinate on a way: the least and the greatest value are reached, and the parts of a time joined are the whole. Plain. No conditions. The law BroadInside. Conditions: what Sorted answers in the example.
-/
import Derived.Test.YtjccikgdebgebaaGreatDoorQ10
set_option linter.unusedSimpArgs false
set_option linter.unusedVariables false
section
set_option linter.unusedSimpArgs false
namespace Go.Proofs.YtjccikgdebgebaaGreatDoor.Abs
open Go
theorem manyB_le (l : List Int) : manyB l ≤ 12 := Nat.min_le_left _ _
abbrev SortedSays [SpC] : Prop := SpC.spec 37 [.ro (boxC [bD, bB, bC]) 3 false] = some (.ro (ptC [(0, 2), (1, 2)]) 2 false)
set_option maxRecDepth 100000 in
set_option maxHeartbeats 8000000 in
theorem M_4 [SpC] (hS : SortedSays) (l : List Int) (hl : okI l) (hlen : l.length < 2 ^ 60) : M X 4 [isl l] = some (.bool true) := by
  have hB := M_18 l hl hlen
  have hL := M_17 hS
  have hm := manyB_le l
  have hok := okB_boxesN l (manyB l)
  have hbn := boxesN_length l (manyB l)
  rw [show manyB l = (boxesN l (manyB l)).length from hbn.symm] at hm
  have hB' : M X 18 [isl l] = some (.ro (boxC (boxesN l (manyB l))) (boxesN l (manyB l)).length false) := by rw [hbn]; exact hB
  clear hB hbn
  generalize boxesN l (manyB l) = B at *
  have hg := M_26 (l := B) (by omega)
  have hbl := boxC_length B
  refine M_of X (fn := Tryz.f4) Tryz.func4 rfl ok_4 mode_4 res_4 _ rfl _ ?_
  intro r hr
  rw [hr]
  simp (maxSteps := 4000000) (disch := first | omega | (simp only [List.length_set, List.length_replicate, List.length_append, List.length_take, List.length_drop, List.length_cons, List.length_nil]; omega)) only [go_sem, reduceCtorEq, Nat.reduceEqDiff, Nat.reduceAdd, Nat.reduceMul, Nat.reduceSub, ↓Nat.reduceBEq, Nat.reduceLT, Nat.reduceLeDiff, Int.reduceLT, Int.reduceLE, Int.reduceNeg, Int.reduceToNat, mode_18, hB']
  refine W_loop X (fun (i : Nat) s => i ≤ B.length ∧ s.env 3 = .ro (boxC B) B.length false ∧ s.env 4 = .int .i64 i) (fun i => B.length - i) ?_ 0 _ ?_
  · rintro i ⟨env, heap, nx⟩ ⟨hi, g3, g4⟩
    simp only at g3 g4
    by_cases h1 : i < B.length
    · simp (maxSteps := 4000000) (disch := first | omega | (simp only [List.length_set, List.length_replicate, List.length_append, List.length_take, List.length_drop, List.length_cons, List.length_nil]; omega)) only [go_sem, reduceCtorEq, Nat.reduceEqDiff, Nat.reduceAdd, Nat.reduceMul, Nat.reduceSub, ↓Nat.reduceBEq, Nat.reduceLT, Nat.reduceLeDiff, Int.reduceLT, Int.reduceLE, Int.reduceNeg, Int.reduceToNat, g3, g4]
      have di := boxC_take B i h1
      have bi := hok _ (getD_mem B i h1)
      generalize hbi : B.getD i box0 = b at *
      refine W_loop X (fun (k : Nat) s => k ≤ B.length ∧ s.env 3 = .ro (boxC B) B.length false ∧ s.env 4 = .int .i64 i ∧ s.env 5 = .int .i64 k) (fun k => B.length - k) ?_ 0 _ ?_
      · rintro k ⟨env, heap, nx⟩ ⟨hk, g3, g4, g5⟩
        simp only at g3 g4 g5
        by_cases h2 : k < B.length
        · have dk := boxC_take B k h2
          have bk := hok _ (getD_mem B k h2)
          generalize hbk : B.getD k box0 = c at *
          have q1 := M_19 (ax := b.lx) (ay := b.ly) (ax' := b.hx) (ay' := b.hy) (bx := c.lx) (by0 := c.ly) (bx' := c.hx) (by' := c.hy) (by omega)
          have q2 := M_21 (ax := b.lx) (ay := b.ly) (ax' := b.hx) (ay' := b.hy) (bx := c.lx) (by0 := c.ly) (bx' := c.hx) (by' := c.hy) (by omega)
          have q3 := M_13 (ax := min b.lx c.lx) (ay := min b.ly c.ly) (ax' := max b.hx c.hx) (ay' := max b.hy c.hy) (bx := min b.lx c.lx) (by0 := min b.ly c.ly) (bx' := max b.hx c.hx) (by' := max b.hy c.hy) (by omega)
          rw [decide_eq_true ⟨rfl, rfl, rfl, rfl⟩] at q3
          generalize meetB b.lx b.ly b.hx b.hy c.lx c.ly c.hx c.hy = t at *
          have q4 : (!(t == t)) = false := by cases t <;> rfl
          simp (maxSteps := 4000000) (disch := first | omega | (simp only [List.length_set, List.length_replicate, List.length_append, List.length_take, List.length_drop, List.length_cons, List.length_nil]; omega)) only [go_sem, reduceCtorEq, Nat.reduceEqDiff, Nat.reduceAdd, Nat.reduceMul, Nat.reduceSub, ↓Nat.reduceBEq, Nat.reduceLT, Nat.reduceLeDiff, Int.reduceLT, Int.reduceLE, Int.reduceNeg, Int.reduceToNat, M_20, M_14, M_22, M_23, g3, g4, g5, hbl, di, dk, mode_19, mode_21, mode_13, q1, q2, q3, q4]
          exact ⟨k + 1, ⟨by omega, rfl⟩, by omega⟩
        · have n1 := M_25 (l := B) (b := b) hok (by omega) (by omega)
          have n2 := M_27 (l := B) (b := b) hok (by omega) (by omega)
          have n3 := nearN_len B b B.length
          generalize nearN B b B.length = o at *
          have n4 := M_24 o o (by omega) (by omega)
          rw [decide_eq_true rfl] at n4
          simp (maxSteps := 4000000) (disch := first | omega | (simp only [List.length_set, List.length_replicate, List.length_append, List.length_take, List.length_drop, List.length_cons, List.length_nil]; omega)) only [go_sem, reduceCtorEq, Nat.reduceEqDiff, Nat.reduceAdd, Nat.reduceMul, Nat.reduceSub, ↓Nat.reduceBEq, Nat.reduceLT, Nat.reduceLeDiff, Int.reduceLT, Int.reduceLE, Int.reduceNeg, Int.reduceToNat, M_20, g3, g4, g5, hbl, di, weaks_boxC, mode_26, hg, mode_25, mode_27, mode_24, n1, n2, n4]
          exact ⟨i + 1, ⟨by omega, rfl⟩, by omega⟩
      · simp (maxSteps := 4000000) (disch := first | omega | (simp only [List.length_set, List.length_replicate, List.length_append, List.length_take, List.length_drop, List.length_cons, List.length_nil]; omega)) only [go_sem, reduceCtorEq, Nat.reduceEqDiff, Nat.reduceAdd, Nat.reduceMul, Nat.reduceSub, ↓Nat.reduceBEq, Nat.reduceLT, Nat.reduceLeDiff, Int.reduceLT, Int.reduceLE, Int.reduceNeg, Int.reduceToNat, g3, g4]
    · simp (maxSteps := 4000000) (disch := first | omega | (simp only [List.length_set, List.length_replicate, List.length_append, List.length_take, List.length_drop, List.length_cons, List.length_nil]; omega)) only [go_sem, reduceCtorEq, Nat.reduceEqDiff, Nat.reduceAdd, Nat.reduceMul, Nat.reduceSub, ↓Nat.reduceBEq, Nat.reduceLT, Nat.reduceLeDiff, Int.reduceLT, Int.reduceLE, Int.reduceNeg, Int.reduceToNat, g3, g4, mode_17, hL]
  · simp (maxSteps := 4000000) (disch := first | omega | (simp only [List.length_set, List.length_replicate, List.length_append, List.length_take, List.length_drop, List.length_cons, List.length_nil]; omega)) only [go_sem, reduceCtorEq, Nat.reduceEqDiff, Nat.reduceAdd, Nat.reduceMul, Nat.reduceSub, ↓Nat.reduceBEq, Nat.reduceLT, Nat.reduceLeDiff, Int.reduceLT, Int.reduceLE, Int.reduceNeg, Int.reduceToNat]
def vB (b : BoxQ) : Prop := b.lx ≤ b.hx ∧ b.ly ≤ b.hy
theorem sq_nonneg (q : Rat) : 0 ≤ q * q := by
  rcases (Rat.le_total (a := 0) (b := q)) with h | h
  · exact Rat.mul_nonneg h h
  · have := Rat.mul_nonneg (a := -q) (b := -q) (by grind) (by grind)
    grind
theorem vB_boxesN (l : List Int) (n : Nat) : ∀ b ∈ boxesN l n, vB b := by
  intro b hb
  simp only [boxesN, List.mem_map, List.mem_range] at hb
  obtain ⟨i, _, rfl⟩ := hb
  have h1 := sq_nonneg (numQ (atN l (4 * i + 2) 4096))
  have h2 := sq_nonneg (numQ (atN l (4 * i + 3) 4096))
  unfold vB boxN
  dsimp only
  grind
theorem tdiv_ok (n m : Int) (hn : ok64 n) (hm : 1 < m) : ok64 (n.tdiv m) := by
  obtain ⟨h1, h2⟩ := hn
  have := Int.natAbs_tdiv n m
  have h3 : (n.tdiv m).natAbs ≤ n.natAbs / 2 := by
    rw [this]
    exact Nat.div_le_div_left (by omega) (by omega)
  unfold ok64
  omega
set_option maxRecDepth 100000 in
set_option maxHeartbeats 8000000 in
theorem M_6 [SpC] (hS : SortedSays) (l : List Int) (at0 : Int) (hat : ok64 at0) (hl : okI l) (hlen : l.length < 2 ^ 60) : M X 6 [isl l, .int .i64 at0] = some (.bool true) := by
  have hB := M_18 l hl hlen
  have hL := M_17 hS
  have hm := manyB_le l
  have hok := okB_boxesN l (manyB l)
  have hvb := vB_boxesN l (manyB l)
  have hbn := boxesN_length l (manyB l)
  rw [show manyB l = (boxesN l (manyB l)).length from hbn.symm] at hm
  have hB' : M X 18 [isl l] = some (.ro (boxC (boxesN l (manyB l))) (boxesN l (manyB l)).length false) := by rw [hbn]; exact hB
  clear hB hbn
  generalize boxesN l (manyB l) = B at *
  have hbl := boxC_length B
  refine M_of X (fn := Tryz.f6) Tryz.func6 rfl ok_6 mode_6 res_6 _ rfl _ ?_
  intro r hr
  rw [hr]
  by_cases h0 : B.length = 0
  · simp (maxSteps := 4000000) (disch := first | omega | (simp only [List.length_set, List.length_replicate, List.length_append, List.length_take, List.length_drop, List.length_cons, List.length_nil]; omega)) only [go_sem, reduceCtorEq, Nat.reduceEqDiff, Nat.reduceAdd, Nat.reduceMul, Nat.reduceSub, ↓Nat.reduceBEq, Nat.reduceLT, Nat.reduceLeDiff, Int.reduceLT, Int.reduceLE, Int.reduceNeg, Int.reduceToNat, mode_18, hB', h0, mode_17, hL]
  · have t1 := tdiv_ok at0 12 hat (by omega)
    have t2 := tdiv_ok at0 144 hat (by omega)
    have a1 := M_12 at0 B.length hat (by omega)
    have a2 := M_12 (at0.tdiv 12) B.length t1 (by omega)
    have a3 := M_12 (at0.tdiv 144) B.length t2 (by omega)
    have b1 := arnd_bd at0 B.length (by omega)
    have b2 := arnd_bd (at0.tdiv 12) B.length (by omega)
    have b3 := arnd_bd (at0.tdiv 144) B.length (by omega)
    generalize arnd at0 B.length = i1 at *
    generalize arnd (at0.tdiv 12) B.length = i2 at *
    generalize arnd (at0.tdiv 144) B.length = i3 at *
    have d1 := boxC_take B i1.toNat (by omega)
    have d2 := boxC_take B i2.toNat (by omega)
    have d3 := boxC_take B i3.toNat (by omega)
    have v1 := hvb _ (getD_mem B i1.toNat (by omega))
    have r1 := hok _ (getD_mem B i1.toNat (by omega))
    have r2 := hok _ (getD_mem B i2.toNat (by omega))
    have r3 := hok _ (getD_mem B i3.toNat (by omega))
    generalize B.getD i1.toNat box0 = a at *
    generalize B.getD i2.toNat box0 = b at *
    generalize B.getD i3.toNat box0 = c at *
    have j1 := M_22 (ax := a.lx) (ay := a.ly) (ax' := a.hx) (ay' := a.hy) (bx := b.lx) (by0 := b.ly) (bx' := b.hx) (by' := b.hy) (by omega)
    have j2 := M_22 (ax := b.lx) (ay := b.ly) (ax' := b.hx) (ay' := b.hy) (bx := a.lx) (by0 := a.ly) (bx' := a.hx) (by' := a.hy) (by omega)
    have j3 := M_22 (ax := a.lx) (ay := a.ly) (ax' := a.hx) (ay' := a.hy) (bx := a.lx) (by0 := a.ly) (bx' := a.hx) (by' := a.hy) (by omega)
    have j4 := M_22 (ax := min a.lx b.lx) (ay := min a.ly b.ly) (ax' := max a.hx b.hx) (ay' := max a.hy b.hy) (bx := c.lx) (by0 := c.ly) (bx' := c.hx) (by' := c.hy) (by omega)
    have j5 := M_22 (ax := b.lx) (ay := b.ly) (ax' := b.hx) (ay' := b.hy) (bx := c.lx) (by0 := c.ly) (bx' := c.hx) (by' := c.hy) (by omega)
    have j6 := M_22 (ax := a.lx) (ay := a.ly) (ax' := a.hx) (ay' := a.hy) (bx := min b.lx c.lx) (by0 := min b.ly c.ly) (bx' := max b.hx c.hx) (by' := max b.hy c.hy) (by omega)
    have s1 := M_13 (ax := min a.lx b.lx) (ay := min a.ly b.ly) (ax' := max a.hx b.hx) (ay' := max a.hy b.hy) (bx := min b.lx a.lx) (by0 := min b.ly a.ly) (bx' := max b.hx a.hx) (by' := max b.hy a.hy) (by omega)
    have s2 := M_13 (ax := min a.lx a.lx) (ay := min a.ly a.ly) (ax' := max a.hx a.hx) (ay' := max a.hy a.hy) (bx := a.lx) (by0 := a.ly) (bx' := a.hx) (by' := a.hy) (by omega)
    have s3 := M_13 (ax := min (min a.lx b.lx) c.lx) (ay := min (min a.ly b.ly) c.ly) (ax' := max (max a.hx b.hx) c.hx) (ay' := max (max a.hy b.hy) c.hy) (bx := min a.lx (min b.lx c.lx)) (by0 := min a.ly (min b.ly c.ly)) (bx' := max a.hx (max b.hx c.hx)) (by' := max a.hy (max b.hy c.hy)) (by omega)
    rw [decide_eq_true (by grind)] at s1 s2 s3
    have m1 := M_19 (ax := min a.lx b.lx) (ay := min a.ly b.ly) (ax' := max a.hx b.hx) (ay' := max a.hy b.hy) (bx := c.lx) (by0 := c.ly) (bx' := c.hx) (by' := c.hy) (by omega)
    have m2 := M_19 (ax := a.lx) (ay := a.ly) (ax' := a.hx) (ay' := a.hy) (bx := c.lx) (by0 := c.ly) (bx' := c.hx) (by' := c.hy) (by omega)
    have m3 := M_19 (ax := b.lx) (ay := b.ly) (ax' := b.hx) (ay' := b.hy) (bx := c.lx) (by0 := c.ly) (bx' := c.hx) (by' := c.hy) (by omega)
    have m4 := M_19 (ax := a.lx) (ay := a.ly) (ax' := a.hx) (ay' := a.hy) (bx := a.lx) (by0 := a.ly) (bx' := a.hx) (by' := a.hy) (by omega)
    have m5 := M_19 (ax := a.lx) (ay := a.ly) (ax' := a.hx) (ay' := a.hy) (bx := b.lx) (by0 := b.ly) (bx' := b.hx) (by' := b.hy) (by omega)
    have m6 := M_19 (ax := b.lx) (ay := b.ly) (ax' := b.hx) (ay' := b.hy) (bx := a.lx) (by0 := a.ly) (bx' := a.hx) (by' := a.hy) (by omega)
    have e4 : meetB a.lx a.ly a.hx a.hy a.lx a.ly a.hx a.hy = true := by
      obtain ⟨u1, u2⟩ := v1
      unfold meetB; rw [decide_eq_true]; grind
    have e5 : meetB b.lx b.ly b.hx b.hy a.lx a.ly a.hx a.hy = meetB a.lx a.ly a.hx a.hy b.lx b.ly b.hx b.hy := by
      unfold meetB; grind
    have e1 : meetB a.lx a.ly a.hx a.hy c.lx c.ly c.hx c.hy = true ∨ meetB b.lx b.ly b.hx b.hy c.lx c.ly c.hx c.hy = true → meetB (min a.lx b.lx) (min a.ly b.ly) (max a.hx b.hx) (max a.hy b.hy) c.lx c.ly c.hx c.hy = true := by
      unfold meetB; simp only [decide_eq_true_eq]; grind
    rw [e4] at m4
    rw [e5] at m6
    generalize meetB a.lx a.ly a.hx a.hy b.lx b.ly b.hx b.hy = t5 at *
    generalize meetB a.lx a.ly a.hx a.hy c.lx c.ly c.hx c.hy = t2 at *
    generalize meetB b.lx b.ly b.hx b.hy c.lx c.ly c.hx c.hy = t3 at *
    generalize meetB (min a.lx b.lx) (min a.ly b.ly) (max a.hx b.hx) (max a.hy b.hy) c.lx c.ly c.hx c.hy = t1 at *
    generalize min (min a.lx b.lx) c.lx = z1 at *
    generalize min (min a.ly b.ly) c.ly = z2 at *
    generalize max (max a.hx b.hx) c.hx = z3 at *
    generalize max (max a.hy b.hy) c.hy = z4 at *
    generalize min a.lx (min b.lx c.lx) = z5 at *
    generalize min a.ly (min b.ly c.ly) = z6 at *
    generalize max a.hx (max b.hx c.hx) = z7 at *
    generalize max a.hy (max b.hy c.hy) = z8 at *
    generalize min a.lx b.lx = y1 at *
    generalize min a.ly b.ly = y2 at *
    generalize max a.hx b.hx = y3 at *
    generalize max a.hy b.hy = y4 at *
    obtain ⟨k1, k2⟩ := hat
    have e6 : (t5 == t5) = true := by cases t5 <;> rfl
    by_cases ht : t1 = true
    · subst ht
      simp (maxSteps := 4000000) (disch := first | omega | (simp only [List.length_set, List.length_replicate, List.length_append, List.length_take, List.length_drop, List.length_cons, List.length_nil]; omega)) only [go_sem, reduceCtorEq, Nat.reduceEqDiff, Nat.reduceAdd, Nat.reduceMul, Nat.reduceSub, ↓Nat.reduceBEq, Nat.reduceLT, Nat.reduceLeDiff, Int.reduceLT, Int.reduceLE, Int.reduceNeg, Int.reduceToNat, M_20, M_14, IntWalk.i64_quo', mode_18, hB', hbl, d1, d2, d3, mode_12, a1, a2, a3, mode_22, j1, j2, j3, j4, j5, j6, mode_13, s1, s2, s3, mode_19, m1, m2, m3, m4, m5, m6, e6, mode_17, hL]
    · obtain rfl : t1 = false := by simpa using ht
      obtain rfl : t2 = false := by cases t2 with | false => rfl | true => exact absurd (e1 (.inl rfl)) (by simp)
      obtain rfl : t3 = false := by cases t3 with | false => rfl | true => exact absurd (e1 (.inr rfl)) (by simp)
      simp (maxSteps := 4000000) (disch := first | omega | (simp only [List.length_set, List.length_replicate, List.length_append, List.length_take, List.length_drop, List.length_cons, List.length_nil]; omega)) only [go_sem, reduceCtorEq, Nat.reduceEqDiff, Nat.reduceAdd, Nat.reduceMul, Nat.reduceSub, ↓Nat.reduceBEq, Nat.reduceLT, Nat.reduceLeDiff, Int.reduceLT, Int.reduceLE, Int.reduceNeg, Int.reduceToNat, M_20, M_14, IntWalk.i64_quo', mode_18, hB', hbl, d1, d2, d3, mode_12, a1, a2, a3, mode_22, j1, j2, j3, j4, j5, j6, mode_13, s1, s2, s3, mode_19, m1, m2, m3, m4, m5, m6, e6, mode_17, hL]
end Go.Proofs.YtjccikgdebgebaaGreatDoor.Abs
end
section
set_option linter.unusedSimpArgs false
namespace Go.Proofs.YtjccikgdebgebaaGreatDoor.Abs
open Go
theorem rb_swept {px py vx vy ax ay : Rat} {n1 n2 n3 n4 n5 n6 : Nat} [RS px n1] [RS py n2] [RS vx n3] [RS vy n4] [RS ax n5] [RS ay n6] (l : List Pt) (hP : okP l) (n : Int) (hn : ok64 n) :
    RB (sweptQ l px py vx vy ax ay n) (8 * (n1 + n2 + n3 + n4 + n5 + n6 + 6) + 16) := by
  have k1 := lowX_ok hP (l.length - 1)
  have k2 := lowY_ok hP (l.length - 1)
  have k3 := topX_ok hP (l.length - 1)
  have k4 := topY_ok hP (l.length - 1)
  unfold sweptQ
  generalize lowZ prX l (l.length - 1) = z1 at *
  generalize lowZ prY l (l.length - 1) = z2 at *
  generalize topZ prX l (l.length - 1) = z3 at *
  generalize topZ prY l (l.length - 1) = z4 at *
  have q1 : RS (Rat.divInt z1 1) 3 := rs_divInt (by omega) (nd_lit (by simp only [Bn]; omega)) (nd_lit (by decide))
  have q2 : RS (Rat.divInt z2 1) 3 := rs_divInt (by omega) (nd_lit (by simp only [Bn]; omega)) (nd_lit (by decide))
  have q3 : RS (Rat.divInt z3 1) 3 := rs_divInt (by omega) (nd_lit (by simp only [Bn]; omega)) (nd_lit (by decide))
  have q4 : RS (Rat.divInt z4 1) 3 := rs_divInt (by omega) (nd_lit (by simp only [Bn]; omega)) (nd_lit (by decide))
  have hen : ok64 (if n < 0 then 0 else n) := by obtain ⟨u1, u2⟩ := hn; unfold ok64; split <;> omega
  have re : RS (Rat.divInt (if n < 0 then 0 else n) 1) 3 := by
    obtain ⟨u1, u2⟩ := hen
    exact rs_divInt (by omega) (nd_lit (by simp only [Bn]; omega)) (nd_lit (by decide))
  exact ⟨(inferInstance : RS (_ + _) _).mono (by omega), (inferInstance : RS (_ + _) _).mono (by omega), (inferInstance : RS (_ + _) _).mono (by omega), (inferInstance : RS (_ + _) _).mono (by omega)⟩
def shapeP (n : Int) : List Pt :=
  if arnd n 4 = 0 then [(0, 0), (3 * (1 + arnd (n / 7) 4), 0), (0, 4 * (1 + arnd (n / 7) 4))]
  else if arnd n 4 = 1 then [(-3 * (1 + arnd (n / 7) 4), 0), (0, -4 * (1 + arnd (n / 7) 4)), (3 * (1 + arnd (n / 7) 4), 0), (0, 4 * (1 + arnd (n / 7) 4))]
  else [(-(1 + arnd (n / 7) 4), 0), (1 + arnd (n / 28) 4, 0), (1 + arnd (n / 28) 4, 1 + arnd (n / 7) 4), (-(1 + arnd (n / 7) 4), 1 + arnd (n / 7) 4)]
theorem okP_of {l : List Pt} (h : ∀ p ∈ l, (-1000000 ≤ p.1 ∧ p.1 ≤ 1000000) ∧ (-1000000 ≤ p.2 ∧ p.2 ≤ 1000000)) : okP l := by
  intro k
  by_cases hk : k < l.length
  · have : l.getD k (0, 0) = l[k] := by simp [List.getD_eq_getElem?_getD, List.getElem?_eq_getElem hk]
    rw [this]; exact h _ (List.getElem_mem hk)
  · have : l.getD k (0, 0) = (0, 0) := by simp [List.getD_eq_getElem?_getD, List.getElem?_eq_none (by omega : l.length ≤ k)]
    rw [this]; simp
theorem okP_shape (n : Int) : okP (shapeP n) := by
  have h1 := arnd_bd (n / 7) 4 (by omega)
  have h2 := arnd_bd (n / 28) 4 (by omega)
  apply okP_of
  intro p hp
  unfold shapeP at hp
  split at hp
  · simp only [List.mem_cons, List.not_mem_nil, or_false] at hp
    rcases hp with rfl | rfl | rfl <;> dsimp only <;> omega
  · split at hp
    · simp only [List.mem_cons, List.not_mem_nil, or_false] at hp
      rcases hp with rfl | rfl | rfl | rfl <;> dsimp only <;> omega
    · simp only [List.mem_cons, List.not_mem_nil, or_false] at hp
      rcases hp with rfl | rfl | rfl | rfl <;> dsimp only <;> omega
theorem shape_len (n : Int) : 3 ≤ (shapeP n).length ∧ (shapeP n).length ≤ 4 := by
  unfold shapeP
  split
  · simp
  · split <;> simp
set_option maxRecDepth 100000 in
set_option maxHeartbeats 4000000 in
theorem M_38 [SpC] (n : Int) (hn : 0 ≤ n ∧ n < 4096) : M X 38 [.int .i64 n] = some (.ro (ptC (shapeP n)) (shapeP n).length false) := by
  have a1 := M_12 (n / 7) 4 ⟨by omega, by omega⟩ (by omega)
  have a2 := M_12 (n / 28) 4 ⟨by omega, by omega⟩ (by omega)
  have a3 := M_12 n 4 ⟨by omega, by omega⟩ (by omega)
  have h1 := arnd_bd (n / 7) 4 (by omega)
  have h2 := arnd_bd (n / 28) 4 (by omega)
  have h3 := arnd_bd n 4 (by omega)
  refine M_of X (fn := Tryz.f38) Tryz.func38 rfl ok_38 mode_38 res_38 _ rfl _ ?_
  intro r hr
  rw [hr]
  unfold shapeP
  generalize arnd (n / 7) 4 = u at *
  generalize arnd (n / 28) 4 = v at *
  generalize arnd n 4 = t at *
  by_cases t0 : t = 0
  · subst t0
    simp (maxSteps := 4000000) (disch := first | omega | (simp only [List.length_set, List.length_replicate, List.length_append, List.length_take, List.length_drop, List.length_cons, List.length_nil]; omega)) only [go_sem, reduceCtorEq, Nat.reduceEqDiff, Nat.reduceAdd, Nat.reduceMul, Nat.reduceSub, ↓Nat.reduceBEq, Nat.reduceLT, Nat.reduceLeDiff, Int.reduceLT, Int.reduceLE, Int.reduceNeg, Int.reduceToNat, replA_1, replA_2, replA_3, replA_4, ptC, mode_12, a1, a2, a3]
  · by_cases t1 : t = 1
    · subst t1
      simp (maxSteps := 4000000) (disch := first | omega | (simp only [List.length_set, List.length_replicate, List.length_append, List.length_take, List.length_drop, List.length_cons, List.length_nil]; omega)) only [go_sem, reduceCtorEq, Nat.reduceEqDiff, Nat.reduceAdd, Nat.reduceMul, Nat.reduceSub, ↓Nat.reduceBEq, Nat.reduceLT, Nat.reduceLeDiff, Int.reduceLT, Int.reduceLE, Int.reduceNeg, Int.reduceToNat, replA_1, replA_2, replA_3, replA_4, ptC, mode_12, a1, a2, a3]
    · simp (maxSteps := 4000000) (disch := first | omega | (simp only [List.length_set, List.length_replicate, List.length_append, List.length_take, List.length_drop, List.length_cons, List.length_nil]; omega)) only [go_sem, reduceCtorEq, Nat.reduceEqDiff, Nat.reduceAdd, Nat.reduceMul, Nat.reduceSub, ↓Nat.reduceBEq, Nat.reduceLT, Nat.reduceLeDiff, Int.reduceLT, Int.reduceLE, Int.reduceNeg, Int.reduceToNat, replA_1, replA_2, replA_3, replA_4, ptC, t0, t1, Int.zero_sub, mode_12, a1, a2, a3]
def ptN (l : List Int) (at0 i : Nat) : Pt := (atN l (at0 + 2 * i) 50 - 25, atN l (at0 + 2 * i + 1) 50 - 25)
def ptsP (l : List Int) (at0 n : Nat) : List Pt := (List.range n).map (ptN l at0)
theorem ptsP_succ (l : List Int) (at0 n : Nat) : ptsP l at0 (n + 1) = ptsP l at0 n ++ [ptN l at0 n] := by simp [ptsP, List.range_succ]
theorem ptsP_length (l : List Int) (at0 n : Nat) : (ptsP l at0 n).length = n := by simp [ptsP]
theorem ptC_snoc (l : List Pt) (x y : Int) : ptC (l ++ [(x, y)]) = ptC l ++ [.int .i64 x, .int .i64 y] := by
  induction l with
  | nil => rfl
  | cons p l ih => simp only [ptC, List.cons_append, ih]
def cornP (l : List Int) (at0 : Nat) : List Pt := if 0 < arnd (atN l at0 1024 / 112) 5 then shapeP (atN l at0 1024) else ptsP l at0 (arnd (atN l at0 1024) 4).toNat
theorem okP_corn (l : List Int) (at0 : Nat) : okP (cornP l at0) := by
  unfold cornP
  split
  · exact okP_shape _
  · apply okP_of
    intro p hp
    simp only [ptsP, List.mem_map, List.mem_range] at hp
    obtain ⟨i, _, rfl⟩ := hp
    have h1 := atN_bd l (at0 + 2 * i) 50 (by omega)
    have h2 := atN_bd l (at0 + 2 * i + 1) 50 (by omega)
    unfold ptN
    dsimp only
    omega
theorem corn_len (l : List Int) (at0 : Nat) : (cornP l at0).length ≤ 4 := by
  unfold cornP
  split
  · exact (shape_len _).2
  · rw [ptsP_length]
    have := arnd_bd (atN l at0 1024) 4 (by omega)
    omega
set_option maxRecDepth 100000 in
set_option maxHeartbeats 4000000 in
theorem M_10 [SpC] (l : List Int) (hl : okI l) (hlen : l.length < 2 ^ 60) (at0 : Nat) (hat : at0 < 1000) : M X 10 [isl l, .int .i64 at0] = some (.ro (ptC (cornP l at0)) (cornP l at0).length false) := by
  have t1 := M_43 l at0 1024 hl (by omega) (by omega)
  have b1 := atN_bd l at0 1024 (by omega)
  rw [Int.toNat_natCast] at t1
  refine M_of X (fn := Tryz.f10) Tryz.func10 rfl ok_10 mode_10 res_10 _ rfl _ ?_
  intro r hr
  rw [hr]
  unfold cornP
  generalize atN l at0 1024 = n at *
  have a1 := M_12 (n / 112) 5 ⟨by omega, by omega⟩ (by omega)
  have a2 := M_12 n 4 ⟨by omega, by omega⟩ (by omega)
  have b2 := arnd_bd n 4 (by omega)
  have s1 := M_38 n (by omega)
  by_cases h0 : 0 < arnd (n / 112) 5
  · rw [if_pos h0]
    simp (maxSteps := 4000000) (disch := first | omega | (simp only [List.length_set, List.length_replicate, List.length_append, List.length_take, List.length_drop, List.length_cons, List.length_nil]; omega)) only [go_sem, reduceCtorEq, Nat.reduceEqDiff, Nat.reduceAdd, Nat.reduceMul, Nat.reduceSub, ↓Nat.reduceBEq, Nat.reduceLT, Nat.reduceLeDiff, Int.reduceLT, Int.reduceLE, Int.reduceNeg, Int.reduceToNat, mode_43, t1, mode_12, a1, mode_38, s1, weaks_ptC]
  · rw [if_neg h0]
    simp (maxSteps := 4000000) (disch := first | omega | (simp only [List.length_set, List.length_replicate, List.length_append, List.length_take, List.length_drop, List.length_cons, List.length_nil]; omega)) only [go_sem, reduceCtorEq, Nat.reduceEqDiff, Nat.reduceAdd, Nat.reduceMul, Nat.reduceSub, ↓Nat.reduceBEq, Nat.reduceLT, Nat.reduceLeDiff, Int.reduceLT, Int.reduceLE, Int.reduceNeg, Int.reduceToNat, mode_43, t1, mode_12, a1]
    generalize arnd n 4 = c at *
    refine W_loop X (fun (i : Nat) s => i ≤ c.toNat ∧ s.env 0 = isl l ∧ s.env 1 = .int .i64 at0 ∧ s.env 5 = .int .i64 n ∧ s.env 7 = .int .i64 i ∧ GrowC 0 s.heap s.next (s.env 6) (ptC (ptsP l at0 i)) i 2) (fun i => c.toNat - i) ?_ 0 _ ?_
    · rintro i ⟨env, heap, nx⟩ ⟨hi, g0, g1, g5, g7, hgr⟩
      simp only at g0 g1 g5 g7 hgr
      have hpl := ptC_length (ptsP l at0 i)
      rw [ptsP_length] at hpl
      by_cases h1 : (i : Int) < c
      · have v1 := M_43 l ((at0 + 2 * i : Nat) : Int) 50 hl (by omega) (by omega)
        have v2 := M_43 l ((at0 + 2 * i + 1 : Nat) : Int) 50 hl (by omega) (by omega)
        rw [Int.toNat_natCast] at v1 v2
        have c1 := atN_bd l (at0 + 2 * i) 50 (by omega)
        have c2 := atN_bd l (at0 + 2 * i + 1) 50 (by omega)
        have hs := congrArg ptC (ptsP_succ l at0 i)
        unfold ptN at hs
        rw [ptC_snoc] at hs
        have u1 : (at0 : Int) + 2 * (i : Int) = ((at0 + 2 * i : Nat) : Int) := by omega
        generalize atN l (at0 + 2 * i) 50 = w1 at *
        generalize atN l (at0 + 2 * i + 1) 50 = w2 at *
        rcases hgr with ⟨e3, ec, e0⟩ | ⟨B, hB, e3, eB⟩
        · simp (maxSteps := 4000000) (disch := first | omega | (simp only [List.length_set, List.length_replicate, List.length_append, List.length_take, List.length_drop, List.length_cons, List.length_nil]; omega)) only [go_sem, reduceCtorEq, Nat.reduceEqDiff, Nat.reduceAdd, Nat.reduceMul, Nat.reduceSub, ↓Nat.reduceBEq, Nat.reduceLT, Nat.reduceLeDiff, Int.reduceLT, Int.reduceLE, Int.reduceNeg, Int.reduceToNat, g0, g1, g5, g7, e3, replA_1, u1, mode_43, v1, v2, mode_12, a2]
          subst e0
          exact ⟨1, ⟨by omega, rfl, by rw [hs, ec]; exact growC_put _ _ _ _ _ _ _ (by omega)⟩, by omega⟩
        · simp (maxSteps := 4000000) (disch := first | omega | (simp only [List.length_set, List.length_replicate, List.length_append, List.length_take, List.length_drop, List.length_cons, List.length_nil]; omega)) only [go_sem, reduceCtorEq, Nat.reduceEqDiff, Nat.reduceAdd, Nat.reduceMul, Nat.reduceSub, ↓Nat.reduceBEq, Nat.reduceLT, Nat.reduceLeDiff, Int.reduceLT, Int.reduceLE, Int.reduceNeg, Int.reduceToNat, g0, g1, g5, g7, e3, eB, hpl, replA_1, u1, mode_43, v1, v2, mode_12, a2]
          exact ⟨i + 1, ⟨by omega, rfl, by rw [hs]; exact growC_put _ _ _ _ _ _ _ (by omega)⟩, by omega⟩
      · have hi' : i = c.toNat := by omega
        subst hi'
        rcases hgr with ⟨e3, ec, e0⟩ | ⟨B, hB, e3, eB⟩
        · simp (maxSteps := 4000000) (disch := first | omega | (simp only [List.length_set, List.length_replicate, List.length_append, List.length_take, List.length_drop, List.length_cons, List.length_nil]; omega)) only [go_sem, reduceCtorEq, Nat.reduceEqDiff, Nat.reduceAdd, Nat.reduceMul, Nat.reduceSub, ↓Nat.reduceBEq, Nat.reduceLT, Nat.reduceLeDiff, Int.reduceLT, Int.reduceLE, Int.reduceNeg, Int.reduceToNat, g0, g1, g5, g7, e3, ec, e0, mode_12, a2]
          rfl
        · simp (maxSteps := 4000000) (disch := first | omega | (simp only [List.length_set, List.length_replicate, List.length_append, List.length_take, List.length_drop, List.length_cons, List.length_nil]; omega)) only [go_sem, reduceCtorEq, Nat.reduceEqDiff, Nat.reduceAdd, Nat.reduceMul, Nat.reduceSub, ↓Nat.reduceBEq, Nat.reduceLT, Nat.reduceLeDiff, Int.reduceLT, Int.reduceLE, Int.reduceNeg, Int.reduceToNat, g0, g1, g5, g7, e3, eB, hpl, ptsP_length, snaps_ptC, weaks_ptC, mode_12, a2]
    · simp (maxSteps := 4000000) (disch := first | omega | (simp only [List.length_set, List.length_replicate, List.length_append, List.length_take, List.length_drop, List.length_cons, List.length_nil]; omega)) only [go_sem, reduceCtorEq, Nat.reduceEqDiff, Nat.reduceAdd, Nat.reduceMul, Nat.reduceSub, ↓Nat.reduceBEq, Nat.reduceLT, Nat.reduceLeDiff, Int.reduceLT, Int.reduceLE, Int.reduceNeg, Int.reduceToNat]
      exact growC_nil _ _ _ _
set_option maxRecDepth 100000 in
set_option maxHeartbeats 16000000 in
theorem M_3 [SpC] (hS : SortedSays) (l : List Int) (n k : Int) (hn : ok64 n) (hk : ok64 k) (hl : okI l) (hlen : l.length < 2 ^ 60) : M X 3 [isl l, .int .i64 n, .int .i64 k] = some (.bool true) := by
  have hL := M_17 hS
  have hC : M X 10 [isl l, .int .i64 6] = some (.ro (ptC (cornP l 6)) (cornP l 6).length false) := M_10 l hl hlen 6 (by omega)
  have c1 := okP_corn l 6
  have c2 := corn_len l 6
  have v1 := M_11 l 0 hl (by omega)
  have v2 := M_11 l 2 hl (by omega)
  have v3 := M_11 l 4 hl (by omega)
  have r1 := rs_numQ (atN l (0 : Int).toNat 4096)
  have r2 := rs_numQ (atN l ((0 : Int).toNat + 1) 4096)
  have r3 := rs_numQ (atN l (2 : Int).toNat 4096)
  have r4 := rs_numQ (atN l ((2 : Int).toNat + 1) 4096)
  have r5 := rs_numQ (atN l (4 : Int).toNat 4096)
  have r6 := rs_numQ (atN l ((4 : Int).toNat + 1) 4096)
  generalize numQ (atN l (0 : Int).toNat 4096) = px at *
  generalize numQ (atN l ((0 : Int).toNat + 1) 4096) = py at *
  generalize numQ (atN l (2 : Int).toNat 4096) = vx at *
  generalize numQ (atN l ((2 : Int).toNat + 1) 4096) = vy at *
  generalize numQ (atN l (4 : Int).toNat 4096) = ax at *
  generalize numQ (atN l ((4 : Int).toNat + 1) 4096) = ay at *
  generalize cornP l 6 = c at *
  have a1 := M_12 n 40 hn (by omega)
  have a2 := M_12 k 9 hk (by omega)
  have b1 := arnd_bd n 40 (by omega)
  have b2 := arnd_bd k 9 (by omega)
  generalize arnd n 40 = i1 at *
  generalize arnd k 9 = i2 at *
  have hq : ∀ m : Int, -2 ≤ m ∧ m ≤ 1048576 → ∃ b : BoxQ, M X 15 [.ro (ptC c) c.length false, .agg [zS (Rat.num (px)), zD (Rat.num (px)), zS (dz (px)), zD (dz (px)), zS (Rat.num (py)), zD (Rat.num (py)), zS (dz (py)), zD (dz (py))], .agg [zS (Rat.num (vx)), zD (Rat.num (vx)), zS (dz (vx)), zD (dz (vx)), zS (Rat.num (vy)), zD (Rat.num (vy)), zS (dz (vy)), zD (dz (vy))], .agg [zS (Rat.num (ax)), zD (Rat.num (ax)), zS (dz (ax)), zD (dz (ax)), zS (Rat.num (ay)), zD (Rat.num (ay)), zS (dz (ay)), zD (dz (ay))], .int .i64 m] = some (.agg [zS (Rat.num (b.lx)), zD (Rat.num (b.lx)), zS (dz (b.lx)), zD (dz (b.lx)), zS (Rat.num (b.ly)), zD (Rat.num (b.ly)), zS (dz (b.ly)), zD (dz (b.ly)), zS (Rat.num (b.hx)), zD (Rat.num (b.hx)), zS (dz (b.hx)), zD (dz (b.hx)), zS (Rat.num (b.hy)), zD (Rat.num (b.hy)), zS (dz (b.hy)), zD (dz (b.hy))]) ∧
      M X 16 [.ro (ptC c) c.length false, .agg [zS (Rat.num (px)), zD (Rat.num (px)), zS (dz (px)), zD (dz (px)), zS (Rat.num (py)), zD (Rat.num (py)), zS (dz (py)), zD (dz (py))], .agg [zS (Rat.num (vx)), zD (Rat.num (vx)), zS (dz (vx)), zD (dz (vx)), zS (Rat.num (vy)), zD (Rat.num (vy)), zS (dz (vy)), zD (dz (vy))], .agg [zS (Rat.num (ax)), zD (Rat.num (ax)), zS (dz (ax)), zD (dz (ax)), zS (Rat.num (ay)), zD (Rat.num (ay)), zS (dz (ay)), zD (dz (ay))], .int .i64 m] = some (.agg [zS (Rat.num (b.lx)), zD (Rat.num (b.lx)), zS (dz (b.lx)), zD (dz (b.lx)), zS (Rat.num (b.ly)), zD (Rat.num (b.ly)), zS (dz (b.ly)), zD (dz (b.ly)), zS (Rat.num (b.hx)), zD (Rat.num (b.hx)), zS (dz (b.hx)), zD (dz (b.hx)), zS (Rat.num (b.hy)), zD (Rat.num (b.hy)), zS (dz (b.hy)), zD (dz (b.hy))]) ∧
      M X 13 [.agg [zS (Rat.num (b.lx)), zD (Rat.num (b.lx)), zS (dz (b.lx)), zD (dz (b.lx)), zS (Rat.num (b.ly)), zD (Rat.num (b.ly)), zS (dz (b.ly)), zD (dz (b.ly)), zS (Rat.num (b.hx)), zD (Rat.num (b.hx)), zS (dz (b.hx)), zD (dz (b.hx)), zS (Rat.num (b.hy)), zD (Rat.num (b.hy)), zS (dz (b.hy)), zD (dz (b.hy))], .agg [zS (Rat.num (b.lx)), zD (Rat.num (b.lx)), zS (dz (b.lx)), zD (dz (b.lx)), zS (Rat.num (b.ly)), zD (Rat.num (b.ly)), zS (dz (b.ly)), zD (dz (b.ly)), zS (Rat.num (b.hx)), zD (Rat.num (b.hx)), zS (dz (b.hx)), zD (dz (b.hx)), zS (Rat.num (b.hy)), zD (Rat.num (b.hy)), zS (dz (b.hy)), zD (dz (b.hy))]] = some (.bool true) := by
    intro m hm
    refine ⟨sweptQ c px py vx vy ax ay m, M_15 c c1 (by omega) m ⟨by omega, by omega⟩ (by omega), M_16 c c1 (by omega) m ⟨by omega, by omega⟩ (by omega), ?_⟩
    have rb := rb_swept (px := px) (py := py) (vx := vx) (vy := vy) (ax := ax) (ay := ay) c c1 m ⟨by omega, by omega⟩
    generalize sweptQ c px py vx vy ax ay m = b at *
    have s1 := M_13 (ax := b.lx) (ay := b.ly) (ax' := b.hx) (ay' := b.hy) (bx := b.lx) (by0 := b.ly) (bx' := b.hx) (by' := b.hy) (by omega)
    rw [decide_eq_true ⟨rfl, rfl, rfl, rfl⟩] at s1
    exact s1
  obtain ⟨b, q1, q2, q3⟩ := hq i1 (by omega)
  obtain ⟨d, q4, q5, q6⟩ := hq (i2 - 2) (by omega)
  obtain ⟨e, q7, q8, q9⟩ := hq 1048576 (by omega)
  refine M_of X (fn := Tryz.f3) Tryz.func3 rfl ok_3 mode_3 res_3 _ rfl _ ?_
  intro r hr
  rw [hr]
  simp (maxSteps := 4000000) (disch := first | omega | (simp only [List.length_set, List.length_replicate, List.length_append, List.length_take, List.length_drop, List.length_cons, List.length_nil]; omega)) only [go_sem, reduceCtorEq, Nat.reduceEqDiff, Nat.reduceAdd, Nat.reduceMul, Nat.reduceSub, ↓Nat.reduceBEq, Nat.reduceLT, Nat.reduceLeDiff, Int.reduceLT, Int.reduceLE, Int.reduceNeg, Int.reduceToNat, M_14, W_unroll, unQ_normal, unQ_ret, unQ_exit, Int.reduceAdd, Int.reduceSub, Int.reduceMul, replA_1, replA_2, replA_3, mode_10, hC, weaks_ptC, mode_11, v1, v2, v3, mode_12, a1, a2, mode_15, mode_16, mode_13, q1, q2, q3, q4, q5, q6, q7, q8, q9, mode_17, hL]
end Go.Proofs.YtjccikgdebgebaaGreatDoor.Abs
end
section
set_option linter.unusedSimpArgs false
namespace Go.Proofs.YtjccikgdebgebaaGreatDoor.Abs
open Go
theorem half_eq : (Rat.divInt 1 2 : Rat) + Rat.divInt 1 2 = 1 := by decide +kernel
theorem along_zero (p v a : Rat) : alongQ p v a 0 = p := by unfold alongQ; grind
theorem along_shift (p v a e s : Rat) : alongQ (alongQ p v a e) (v + a * e) a s = alongQ p v a (e + s) := by
  have h := half_eq
  unfold alongQ
  generalize (Rat.divInt 1 2 : Rat) = t at *
  grind
theorem mul_nn {x y : Rat} (hx : 0 ≤ x) (hy : 0 ≤ y) : 0 ≤ x * y := Rat.mul_nonneg hx hy
theorem turn_eq {v a : Rat} (ha : a ≠ 0) : v = - (a * turnQ v a) := by
  unfold turnQ
  have : v / a * a = v := Rat.div_mul_cancel ha
  grind
/-- Against the turning point. -/
theorem along_turn {p v a s : Rat} (ha : a ≠ 0) : alongQ p v a s = alongQ p v a (turnQ v a) + a * (Rat.divInt 1 2) * ((s - turnQ v a) * (s - turnQ v a)) := by
  have h := half_eq
  have hv := turn_eq (v := v) ha
  generalize turnQ v a = t at *
  subst hv
  unfold alongQ
  generalize (Rat.divInt 1 2 : Rat) = u at *
  grind
theorem half_nn : (0 : Rat) ≤ Rat.divInt 1 2 := by decide +kernel
theorem sq_nn (x : Rat) : 0 ≤ x * x := by
  rcases (Rat.le_total (a := 0) (b := x)) with h | h
  · exact mul_nn h h
  · have := mul_nn (x := -x) (y := -x) (by grind) (by grind)
    grind
/-- Between two times, without a turn, what lies between lies between. -/
theorem along_between {p v a e s : Rat} (hs : 0 ≤ s) (he : s ≤ e) (ht : ¬ turns v a e) : (p ≤ alongQ p v a s ∧ alongQ p v a s ≤ alongQ p v a e) ∨ (alongQ p v a s ≤ p ∧ alongQ p v a e ≤ alongQ p v a s) := by
  have h := half_eq
  have hn := half_nn
  unfold turns at ht
  have key : ∀ x y : Rat, alongQ p v a y - alongQ p v a x = (y - x) * (v + a * ((x + y) * Rat.divInt 1 2)) := by
    intro x y
    unfold alongQ
    generalize (Rat.divInt 1 2 : Rat) = u at *
    grind
  have k1 := key 0 s
  have k2 := key s e
  rw [along_zero] at k1
  by_cases ha : a = 0
  · subst ha
    rcases (Rat.le_total (a := 0) (b := v)) with hv | hv
    · left
      have m1 := mul_nn hs hv
      have m2 := mul_nn (x := e - s) (by grind) hv
      grind
    · right
      have m1 := mul_nn (y := -v) hs (by grind)
      have m2 := mul_nn (x := e - s) (y := -v) (by grind) (by grind)
      grind
  · have hv := turn_eq (v := v) ha
    have ht : turnQ v a ≤ 0 ∨ e ≤ turnQ v a := by
      by_cases h1 : 0 < turnQ v a
      · right
        exact Rat.not_lt.1 fun h2 => ht ⟨ha, h1, h2⟩
      · left; exact Rat.not_lt.1 h1
    generalize turnQ v a = t at *
    subst hv
    have e1 : (s + 0 - (t + t)) = s - 2 * t := by grind
    have f1 : - (a * t) + a * ((0 + s) * Rat.divInt 1 2) = a * ((s - (t + t)) * Rat.divInt 1 2) := by
      generalize (Rat.divInt 1 2 : Rat) = u at *
      grind
    have f2 : - (a * t) + a * ((s + e) * Rat.divInt 1 2) = a * ((s + e - (t + t)) * Rat.divInt 1 2) := by
      generalize (Rat.divInt 1 2 : Rat) = u at *
      grind
    rw [f1] at k1
    rw [f2] at k2
    rcases ht with ht | ht
    · have g1 : 0 ≤ (s - (t + t)) * Rat.divInt 1 2 := mul_nn (by grind) hn
      have g2 : 0 ≤ (s + e - (t + t)) * Rat.divInt 1 2 := mul_nn (by grind) hn
      generalize (s - (t + t)) * Rat.divInt 1 2 = w1 at *
      generalize (s + e - (t + t)) * Rat.divInt 1 2 = w2 at *
      rcases (Rat.le_total (a := 0) (b := a)) with h0 | h0
      · left
        have m1 := mul_nn (x := s) (y := a * w1) hs (mul_nn h0 g1)
        have m2 := mul_nn (x := e - s) (y := a * w2) (by grind) (mul_nn h0 g2)
        grind
      · right
        have m1 := mul_nn (x := s) (y := (-a) * w1) hs (mul_nn (by grind) g1)
        have m2 := mul_nn (x := e - s) (y := (-a) * w2) (by grind) (mul_nn (by grind) g2)
        grind
    · have g1 : 0 ≤ ((t + t) - s) * Rat.divInt 1 2 := mul_nn (by grind) hn
      have g2 : 0 ≤ ((t + t) - s - e) * Rat.divInt 1 2 := mul_nn (by grind) hn
      have h1 : (s - (t + t)) * Rat.divInt 1 2 = - (((t + t) - s) * Rat.divInt 1 2) := by
        generalize (Rat.divInt 1 2 : Rat) = u at *; grind
      have h2 : (s + e - (t + t)) * Rat.divInt 1 2 = - (((t + t) - s - e) * Rat.divInt 1 2) := by
        generalize (Rat.divInt 1 2 : Rat) = u at *; grind
      rw [h1] at k1
      rw [h2] at k2
      generalize ((t + t) - s) * Rat.divInt 1 2 = w1 at *
      generalize ((t + t) - s - e) * Rat.divInt 1 2 = w2 at *
      rcases (Rat.le_total (a := 0) (b := a)) with h0 | h0
      · right
        have m1 := mul_nn (x := s) (y := a * w1) hs (mul_nn h0 g1)
        have m2 := mul_nn (x := e - s) (y := a * w2) (by grind) (mul_nn h0 g2)
        grind
      · left
        have m1 := mul_nn (x := s) (y := (-a) * w1) hs (mul_nn (by grind) g1)
        have m2 := mul_nn (x := e - s) (y := (-a) * w2) (by grind) (mul_nn (by grind) g2)
        grind
theorem lo_le {p v a e s : Rat} (hs : 0 ≤ s) (he : s ≤ e) : loQ p v a e ≤ alongQ p v a s := by
  unfold loQ
  split
  · rename_i ht
    have h1 := along_turn (p := p) (v := v) (a := a) (s := s) ht.1
    have h2 := along_turn (p := p) (v := v) (a := a) (s := e) ht.1
    have h3 := along_turn (p := p) (v := v) (a := a) (s := 0) ht.1
    rw [along_zero] at h3
    obtain ⟨_, t1, t2⟩ := ht
    have hn := half_nn
    generalize turnQ v a = t at *
    generalize (Rat.divInt 1 2 : Rat) = u at *
    generalize alongQ p v a t = f0 at *
    generalize alongQ p v a s = f1 at *
    generalize alongQ p v a e = f2 at *
    rcases (Rat.le_total (a := 0) (b := a)) with h0 | h0
    · have := mul_nn (mul_nn h0 hn) (sq_nn (s - t))
      grind
    · have m0 := mul_nn (x := -a) (by grind) hn
      rcases (Rat.le_total (a := s) (b := t)) with hst | hst
      · -- at the left: above p
        have m1 := mul_nn m0 (mul_nn (x := s) (y := t + t - s) hs (by grind))
        have : f1 - p = -a * u * (s * (t + t - s)) := by rw [h1, h3]; grind
        grind
      · have m1 := mul_nn m0 (mul_nn (x := e - s) (y := e + s - t - t) (by grind) (by grind))
        have : f1 - f2 = -a * u * ((e - s) * (e + s - t - t)) := by rw [h1, h2]; grind
        grind
  · rename_i ht
    rcases along_between (p := p) hs he ht with ⟨h1, h2⟩ | ⟨h1, h2⟩ <;> grind
theorem hi_ge {p v a e s : Rat} (hs : 0 ≤ s) (he : s ≤ e) : alongQ p v a s ≤ hiQ p v a e := by
  unfold hiQ
  split
  · rename_i ht
    have h1 := along_turn (p := p) (v := v) (a := a) (s := s) ht.1
    have h2 := along_turn (p := p) (v := v) (a := a) (s := e) ht.1
    have h3 := along_turn (p := p) (v := v) (a := a) (s := 0) ht.1
    rw [along_zero] at h3
    obtain ⟨_, t1, t2⟩ := ht
    have hn := half_nn
    generalize turnQ v a = t at *
    generalize (Rat.divInt 1 2 : Rat) = u at *
    generalize alongQ p v a t = f0 at *
    generalize alongQ p v a s = f1 at *
    generalize alongQ p v a e = f2 at *
    rcases (Rat.le_total (a := a) (b := 0)) with h0 | h0
    · have := mul_nn (mul_nn (x := -a) (by grind) hn) (sq_nn (s - t))
      grind
    · have m0 := mul_nn h0 hn
      rcases (Rat.le_total (a := s) (b := t)) with hst | hst
      · have m1 := mul_nn m0 (mul_nn (x := s) (y := t + t - s) hs (by grind))
        have : p - f1 = a * u * (s * (t + t - s)) := by rw [h1, h3]; grind
        grind
      · have m1 := mul_nn m0 (mul_nn (x := e - s) (y := e + s - t - t) (by grind) (by grind))
        have : f2 - f1 = a * u * ((e - s) * (e + s - t - t)) := by rw [h1, h2]; grind
        grind
  · rename_i ht
    rcases along_between (p := p) hs he ht with ⟨h1, h2⟩ | ⟨h1, h2⟩ <;> grind
theorem lo_att {p v a e : Rat} (h : 0 ≤ e) : ∃ s, 0 ≤ s ∧ s ≤ e ∧ loQ p v a e = alongQ p v a s := by
  unfold loQ
  split
  · rename_i ht
    have h0 := along_zero p v a
    by_cases h1 : min p (alongQ p v a e) ≤ alongQ p v a (turnQ v a)
    · by_cases h2 : p ≤ alongQ p v a e
      · exact ⟨0, by grind, h, by grind⟩
      · exact ⟨e, h, by grind, by grind⟩
    · exact ⟨turnQ v a, by have := ht.2.1; grind, by have := ht.2.2; grind, by grind⟩
  · have h0 := along_zero p v a
    by_cases h2 : p ≤ alongQ p v a e
    · exact ⟨0, by grind, h, by grind⟩
    · exact ⟨e, h, by grind, by grind⟩
theorem hi_att {p v a e : Rat} (h : 0 ≤ e) : ∃ s, 0 ≤ s ∧ s ≤ e ∧ hiQ p v a e = alongQ p v a s := by
  unfold hiQ
  split
  · rename_i ht
    have h0 := along_zero p v a
    by_cases h1 : alongQ p v a (turnQ v a) ≤ max p (alongQ p v a e)
    · by_cases h2 : alongQ p v a e ≤ p
      · exact ⟨0, by grind, h, by grind⟩
      · exact ⟨e, h, by grind, by grind⟩
    · exact ⟨turnQ v a, by have := ht.2.1; grind, by have := ht.2.2; grind, by grind⟩
  · have h0 := along_zero p v a
    by_cases h2 : alongQ p v a e ≤ p
    · exact ⟨0, by grind, h, by grind⟩
    · exact ⟨e, h, by grind, by grind⟩
theorem lo_join (p v a e f : Rat) (he : 0 ≤ e) (hf : 0 ≤ f) : min (loQ p v a e) (loQ (alongQ p v a e) (v + a * e) a f) = loQ p v a (e + f) := by
  obtain ⟨s1, a1, a2, a3⟩ := lo_att (p := p) (v := v) (a := a) he
  obtain ⟨s2, b1, b2, b3⟩ := lo_att (p := alongQ p v a e) (v := v + a * e) (a := a) hf
  obtain ⟨s3, c1, c2, c3⟩ := lo_att (p := p) (v := v) (a := a) (e := e + f) (by grind)
  rw [along_shift] at b3
  have d1 := lo_le (p := p) (v := v) (a := a) (s := s1) (e := e + f) a1 (by grind)
  have d2 := lo_le (p := p) (v := v) (a := a) (s := e + s2) (e := e + f) (by grind) (by grind)
  by_cases h : s3 ≤ e
  · have := lo_le (p := p) (v := v) (a := a) c1 h
    grind
  · have := lo_le (p := alongQ p v a e) (v := v + a * e) (a := a) (s := s3 - e) (e := f) (by grind) (by grind)
    rw [along_shift, show e + (s3 - e) = s3 by grind] at this
    grind
theorem hi_join (p v a e f : Rat) (he : 0 ≤ e) (hf : 0 ≤ f) : max (hiQ p v a e) (hiQ (alongQ p v a e) (v + a * e) a f) = hiQ p v a (e + f) := by
  obtain ⟨s1, a1, a2, a3⟩ := hi_att (p := p) (v := v) (a := a) he
  obtain ⟨s2, b1, b2, b3⟩ := hi_att (p := alongQ p v a e) (v := v + a * e) (a := a) hf
  obtain ⟨s3, c1, c2, c3⟩ := hi_att (p := p) (v := v) (a := a) (e := e + f) (by grind)
  rw [along_shift] at b3
  have d1 := hi_ge (p := p) (v := v) (a := a) (s := s1) (e := e + f) a1 (by grind)
  have d2 := hi_ge (p := p) (v := v) (a := a) (s := e + s2) (e := e + f) (by grind) (by grind)
  by_cases h : s3 ≤ e
  · have := hi_ge (p := p) (v := v) (a := a) c1 h
    grind
  · have := hi_ge (p := alongQ p v a e) (v := v + a * e) (a := a) (s := s3 - e) (e := f) (by grind) (by grind)
    rw [along_shift, show e + (s3 - e) = s3 by grind] at this
    grind
theorem lo_hi (p v a e : Rat) : loQ p v a e ≤ hiQ p v a e := by
  unfold loQ hiQ
  split <;> grind
theorem lowZ_le (pr : Pt → Int) (l : List Pt) : ∀ n k, k ≤ n → lowZ pr l n ≤ pr (l.getD k (0, 0)) := by
  intro n
  induction n with
  | zero => intro k hk; obtain rfl : k = 0 := by omega
            exact Int.le_refl _
  | succ n ih =>
    intro k hk
    unfold lowZ
    by_cases h : k = n + 1
    · subst h; omega
    · have := ih k (by omega); omega
theorem topZ_ge (pr : Pt → Int) (l : List Pt) : ∀ n k, k ≤ n → pr (l.getD k (0, 0)) ≤ topZ pr l n := by
  intro n
  induction n with
  | zero => intro k hk; obtain rfl : k = 0 := by omega
            exact Int.le_refl _
  | succ n ih =>
    intro k hk
    unfold topZ
    by_cases h : k = n + 1
    · subst h; omega
    · have := ih k (by omega); omega
theorem divInt_c (m : Int) : Rat.divInt m 1 = (m : Rat) := by
  rw [Rat.divInt_eq_div]
  have : ((1 : Int) : Rat) = 1 := rfl
  rw [this]; grind
theorem divInt_le {m n : Int} (h : m ≤ n) : Rat.divInt m 1 ≤ Rat.divInt n 1 := by
  rw [divInt_c, divInt_c]; exact Rat.intCast_le_intCast.2 h
theorem divInt_add1 (m n : Int) : Rat.divInt (m + n) 1 = Rat.divInt m 1 + Rat.divInt n 1 := by
  rw [divInt_c, divInt_c, divInt_c, Rat.intCast_add]
theorem divInt_nn {n : Int} (h : 0 ≤ n) : 0 ≤ Rat.divInt n 1 := divInt_le h
end Go.Proofs.YtjccikgdebgebaaGreatDoor.Abs
end
section
set_option linter.unusedSimpArgs false
namespace Go.Proofs.YtjccikgdebgebaaGreatDoor.Abs
open Go
theorem meetB_in {ax ay ax' ay' x y : Rat} (h1 : ax ≤ x) (h2 : x ≤ ax') (h3 : ay ≤ y) (h4 : y ≤ ay') : meetB ax ay ax' ay' x y x y = true := by
  unfold meetB; rw [decide_eq_true_eq]; grind
/-- The three boxes of a way, its beginning and the rest. -/
structure Boxes3 (c : List Pt) (px py vx vy ax ay : Rat) (m k : Int) (w o t : BoxQ) : Prop where
  w1 : w = sweptQ c px py vx vy ax ay (m + k)
  o1 : o = sweptQ c px py vx vy ax ay m
  t1 : t = sweptQ c (alongQ px vx ax (Rat.divInt m 1)) (alongQ py vy ay (Rat.divInt m 1)) (vx + ax * Rat.divInt m 1) (vy + ay * Rat.divInt m 1) ax ay k
theorem low_top (pr : Pt → Int) (l : List Pt) (n : Nat) : lowZ pr l n ≤ topZ pr l n := Int.le_trans (lowZ_le pr l n n (Nat.le_refl _)) (topZ_ge pr l n n (Nat.le_refl _))
theorem boxes3 {c : List Pt} {px py vx vy ax ay : Rat} {m k : Int} {w o t : BoxQ} (h : Boxes3 c px py vx vy ax ay m k w o t) (hm : 0 ≤ m) (hk : 0 ≤ k) :
    (min o.lx t.lx = w.lx ∧ min o.ly t.ly = w.ly ∧ max o.hx t.hx = w.hx ∧ max o.hy t.hy = w.hy) ∧ (o.lx ≤ o.hx ∧ o.ly ≤ o.hy) ∧ (t.lx ≤ t.hx ∧ t.ly ≤ t.hy) := by
  obtain ⟨rfl, rfl, rfl⟩ := h
  have e1 := divInt_nn hm
  have e2 := divInt_nn hk
  unfold sweptQ
  simp only [if_neg (show ¬ m < 0 by omega), if_neg (show ¬ k < 0 by omega), if_neg (show ¬ m + k < 0 by omega), divInt_add1]
  generalize Rat.divInt m 1 = e at *
  generalize Rat.divInt k 1 = f at *
  have a1 := lo_join px vx ax e f e1 e2
  have a2 := lo_join py vy ay e f e1 e2
  have a3 := hi_join px vx ax e f e1 e2
  have a4 := hi_join py vy ay e f e1 e2
  have z1 := divInt_le (low_top prX c (c.length - 1))
  have z2 := divInt_le (low_top prY c (c.length - 1))
  have y1 := lo_hi px vx ax e
  have y2 := lo_hi py vy ay e
  have y3 := lo_hi (alongQ px vx ax e) (vx + ax * e) ax f
  have y4 := lo_hi (alongQ py vy ay e) (vy + ay * e) ay f
  generalize Rat.divInt (lowZ prX c (c.length - 1)) 1 = q1 at *
  generalize Rat.divInt (lowZ prY c (c.length - 1)) 1 = q2 at *
  generalize Rat.divInt (topZ prX c (c.length - 1)) 1 = q3 at *
  generalize Rat.divInt (topZ prY c (c.length - 1)) 1 = q4 at *
  grind
theorem point_in {c : List Pt} {px py vx vy ax ay s : Rat} {n : Int} {w : BoxQ} (hw : w = sweptQ c px py vx vy ax ay n) (hn : 0 ≤ n) (hs : 0 ≤ s) (he : s ≤ Rat.divInt n 1) (j : Nat) (hj : j < c.length) :
    meetB w.lx w.ly w.hx w.hy (alongQ px vx ax s + Rat.divInt (c.getD j (0, 0)).1 1) (alongQ py vy ay s + Rat.divInt (c.getD j (0, 0)).2 1) (alongQ px vx ax s + Rat.divInt (c.getD j (0, 0)).1 1) (alongQ py vy ay s + Rat.divInt (c.getD j (0, 0)).2 1) = true := by
  subst hw
  unfold sweptQ
  simp only [if_neg (show ¬ n < 0 by omega)]
  have a1 := lo_le (p := px) (v := vx) (a := ax) hs he
  have a2 := lo_le (p := py) (v := vy) (a := ay) hs he
  have a3 := hi_ge (p := px) (v := vx) (a := ax) hs he
  have a4 := hi_ge (p := py) (v := vy) (a := ay) hs he
  have z1 := divInt_le (lowZ_le prX c (c.length - 1) j (by omega))
  have z2 := divInt_le (lowZ_le prY c (c.length - 1) j (by omega))
  have z3 := divInt_le (topZ_ge prX c (c.length - 1) j (by omega))
  have z4 := divInt_le (topZ_ge prY c (c.length - 1) j (by omega))
  apply meetB_in <;> grind
set_option maxRecDepth 100000 in
set_option maxHeartbeats 16000000 in
theorem M_5 [SpC] (hS : SortedSays) (l : List Int) (n k at0 : Int) (hn : ok64 n) (hk : ok64 k) (hat : ok64 at0) (hl : okI l) (hlen : l.length < 2 ^ 60) : M X 5 [isl l, .int .i64 n, .int .i64 k, .int .i64 at0] = some (.bool true) := by
  have hL := M_17 hS
  have hC : M X 10 [isl l, .int .i64 6] = some (.ro (ptC (cornP l 6)) (cornP l 6).length false) := M_10 l hl hlen 6 (by omega)
  have c1 := okP_corn l 6
  have c2 := corn_len l 6
  have v1 := M_11 l 0 hl (by omega)
  have v2 := M_11 l 2 hl (by omega)
  have v3 := M_11 l 4 hl (by omega)
  have r1 := rs_numQ (atN l (0 : Int).toNat 4096)
  have r2 := rs_numQ (atN l ((0 : Int).toNat + 1) 4096)
  have r3 := rs_numQ (atN l (2 : Int).toNat 4096)
  have r4 := rs_numQ (atN l ((2 : Int).toNat + 1) 4096)
  have r5 := rs_numQ (atN l (4 : Int).toNat 4096)
  have r6 := rs_numQ (atN l ((4 : Int).toNat + 1) 4096)
  generalize numQ (atN l (0 : Int).toNat 4096) = px at *
  generalize numQ (atN l ((0 : Int).toNat + 1) 4096) = py at *
  generalize numQ (atN l (2 : Int).toNat 4096) = vx at *
  generalize numQ (atN l ((2 : Int).toNat + 1) 4096) = vy at *
  generalize numQ (atN l (4 : Int).toNat 4096) = ax at *
  generalize numQ (atN l ((4 : Int).toNat + 1) 4096) = ay at *
  generalize cornP l 6 = c at *
  have hcl := ptC_length c
  refine M_of X (fn := Tryz.f5) Tryz.func5 rfl ok_5 mode_5 res_5 _ rfl _ ?_
  intro r hr
  rw [hr]
  by_cases hc0 : c.length = 0
  · simp (maxSteps := 4000000) (disch := first | omega | (simp only [List.length_set, List.length_replicate, List.length_append, List.length_take, List.length_drop, List.length_cons, List.length_nil]; omega)) only [go_sem, reduceCtorEq, Nat.reduceEqDiff, Nat.reduceAdd, Nat.reduceMul, Nat.reduceSub, ↓Nat.reduceBEq, Nat.reduceLT, Nat.reduceLeDiff, Int.reduceLT, Int.reduceLE, Int.reduceNeg, Int.reduceToNat, mode_10, hC, hc0, hL]
  · have a1 := M_12 n 7 hn (by omega)
    have a2 := M_12 k 7 hk (by omega)
    have a3 := M_12 at0 64 hat (by omega)
    have b1 := arnd_bd n 7 (by omega)
    have b2 := arnd_bd k 7 (by omega)
    have b3 := arnd_bd at0 64 (by omega)
    generalize arnd n 7 = i1 at *
    generalize arnd k 7 = i2 at *
    generalize arnd at0 64 = i3 at *
    have o1 := M_28 i1 1 ⟨by omega, by omega⟩ ⟨by omega, by omega⟩
    have o2 := M_28 (i1 + i2) 1 ⟨by omega, by omega⟩ ⟨by omega, by omega⟩
    have o3 := M_28 i3 63 ⟨by omega, by omega⟩ ⟨by omega, by omega⟩
    have s1 : RS (Rat.divInt i1 1) 1 := rs_small (by omega) (by decide)
    have s2 : RS (Rat.divInt (i1 + i2) 1) 1 := rs_small (by omega) (by decide)
    have s3 : RS (Rat.divInt i3 63) 1 := rs_small (by omega) (by decide)
    have e1 := divInt_nn (n := i1) (by omega)
    have e2 := divInt_nn (n := i1 + i2) (by omega)
    have hs2 : 0 ≤ Rat.divInt i3 63 * Rat.divInt (i1 + i2) 1 ∧ Rat.divInt i3 63 * Rat.divInt (i1 + i2) 1 ≤ Rat.divInt (i1 + i2) 1 := by
      have d1 : 0 ≤ Rat.divInt i3 63 ∧ Rat.divInt i3 63 ≤ 1 := by
        have z : (0 : Rat) ≤ (i3 : Rat) := by have := (Rat.intCast_le_intCast (a := 0) (b := i3)).2 b3.1; simpa using this
        have z2 : (i3 : Rat) ≤ 63 := by have := (Rat.intCast_le_intCast (a := i3) (b := 63)).2 (by omega); simpa using this
        rw [Rat.divInt_eq_div]
        have : ((63 : Int) : Rat) = 63 := rfl
        rw [this]
        constructor
        · have := mul_nn z (y := 1 / 63) (by decide +kernel)
          grind
        · grind
      constructor
      · exact mul_nn d1.1 e2
      · have := mul_nn (x := 1 - Rat.divInt i3 63) (by grind) e2
        grind
    have mu := M_31 (x := Rat.divInt i3 63) (y := Rat.divInt (i1 + i2) 1) (by omega)
    have hA := M_29 (px := px) (py := py) (vx := vx) (vy := vy) (ax := ax) (ay := ay) (s := Rat.divInt i1 1) (by omega)
    have hm1 := M_31 (x := ax) (y := Rat.divInt i1 1) (by omega)
    have hm2 := M_31 (x := ay) (y := Rat.divInt i1 1) (by omega)
    have ha1 := M_30 (x := vx) (y := ax * Rat.divInt i1 1) (by omega)
    have ha2 := M_30 (x := vy) (y := ay * Rat.divInt i1 1) (by omega)
    have hb : ∃ w o t : BoxQ, Boxes3 c px py vx vy ax ay i1 i2 w o t := ⟨_, _, _, rfl, rfl, rfl⟩
    obtain ⟨w, o, t, hb⟩ := hb
    have rw1 : RB w 200 := by
      have := rb_swept (px := px) (py := py) (vx := vx) (vy := vy) (ax := ax) (ay := ay) c c1 (i1 + i2) ⟨by omega, by omega⟩
      rw [← hb.w1] at this
      exact ⟨this.r1.mono (by omega), this.r2.mono (by omega), this.r3.mono (by omega), this.r4.mono (by omega)⟩
    have ro1 : RB o 200 := by
      have := rb_swept (px := px) (py := py) (vx := vx) (vy := vy) (ax := ax) (ay := ay) c c1 i1 ⟨by omega, by omega⟩
      rw [← hb.o1] at this
      exact ⟨this.r1.mono (by omega), this.r2.mono (by omega), this.r3.mono (by omega), this.r4.mono (by omega)⟩
    have rt1 : RB t 1000 := by
      have := rb_swept (px := alongQ px vx ax (Rat.divInt i1 1)) (py := alongQ py vy ay (Rat.divInt i1 1)) (vx := vx + ax * Rat.divInt i1 1) (vy := vy + ay * Rat.divInt i1 1) (ax := ax) (ay := ay) c c1 i2 ⟨by omega, by omega⟩
      rw [← hb.t1] at this
      exact ⟨this.r1.mono (by omega), this.r2.mono (by omega), this.r3.mono (by omega), this.r4.mono (by omega)⟩
    have hw1 := M_15 (px := px) (py := py) (vx := vx) (vy := vy) (ax := ax) (ay := ay) c c1 (by omega) (i1 + i2) ⟨by omega, by omega⟩ (by omega)
    have ho1 := M_15 (px := px) (py := py) (vx := vx) (vy := vy) (ax := ax) (ay := ay) c c1 (by omega) i1 ⟨by omega, by omega⟩ (by omega)
    have ht1 := M_15 (px := alongQ px vx ax (Rat.divInt i1 1)) (py := alongQ py vy ay (Rat.divInt i1 1)) (vx := vx + ax * Rat.divInt i1 1) (vy := vy + ay * Rat.divInt i1 1) (ax := ax) (ay := ay) c c1 (by omega) i2 ⟨by omega, by omega⟩ (by omega)
    rw [← hb.w1] at hw1
    rw [← hb.o1] at ho1
    rw [← hb.t1] at ht1
    obtain ⟨⟨j1, j2, j3, j4⟩, ⟨g1, g2⟩, g3, g4⟩ := boxes3 hb b1.1 b2.1
    have hc1 := M_32 (ax := w.lx) (ay := w.ly) (ax' := w.hx) (ay' := w.hy) (x := o.lx) (y := o.ly) (x' := o.hx) (y' := o.hy) (by omega)
    have hc2 := M_32 (ax := w.lx) (ay := w.ly) (ax' := w.hx) (ay' := w.hy) (x := t.lx) (y := t.ly) (x' := t.hx) (y' := t.hy) (by omega)
    rw [meetB_in (by grind) (by grind) (by grind) (by grind), meetB_in (by grind) (by grind) (by grind) (by grind)] at hc1 hc2
    have hj := M_22 (ax := o.lx) (ay := o.ly) (ax' := o.hx) (ay' := o.hy) (bx := t.lx) (by0 := t.ly) (bx' := t.hx) (by' := t.hy) (by omega)
    rw [j1, j2, j3, j4] at hj
    have hsm := M_13 (ax := w.lx) (ay := w.ly) (ax' := w.hx) (ay' := w.hy) (bx := w.lx) (by0 := w.ly) (bx' := w.hx) (by' := w.hy) (by omega)
    rw [decide_eq_true ⟨rfl, rfl, rfl, rfl⟩] at hsm
    have hpt : ∀ s : Rat, RS s 2 → 0 ≤ s → s ≤ Rat.divInt (i1 + i2) 1 → ∀ j, j < c.length → ∃ ox oy x y : Rat,
        M X 29 [.agg [zS (Rat.num (px)), zD (Rat.num (px)), zS (dz (px)), zD (dz (px)), zS (Rat.num (py)), zD (Rat.num (py)), zS (dz (py)), zD (dz (py))], .agg [zS (Rat.num (vx)), zD (Rat.num (vx)), zS (dz (vx)), zD (dz (vx)), zS (Rat.num (vy)), zD (Rat.num (vy)), zS (dz (vy)), zD (dz (vy))], .agg [zS (Rat.num (ax)), zD (Rat.num (ax)), zS (dz (ax)), zD (dz (ax)), zS (Rat.num (ay)), zD (Rat.num (ay)), zS (dz (ay)), zD (dz (ay))], .agg [zS (Rat.num (s)), zD (Rat.num (s)), zS (dz (s)), zD (dz (s))]] = some (.agg [zS (Rat.num (ox)), zD (Rat.num (ox)), zS (dz (ox)), zD (dz (ox)), zS (Rat.num (oy)), zD (Rat.num (oy)), zS (dz (oy)), zD (dz (oy))]) ∧
        M X 28 [.int .i64 (c.getD j (0, 0)).1, .int .i64 1] = some (.agg [zS (Rat.num (Rat.divInt (c.getD j (0, 0)).1 1)), zD (Rat.num (Rat.divInt (c.getD j (0, 0)).1 1)), zS (dz (Rat.divInt (c.getD j (0, 0)).1 1)), zD (dz (Rat.divInt (c.getD j (0, 0)).1 1))]) ∧ M X 28 [.int .i64 (c.getD j (0, 0)).2, .int .i64 1] = some (.agg [zS (Rat.num (Rat.divInt (c.getD j (0, 0)).2 1)), zD (Rat.num (Rat.divInt (c.getD j (0, 0)).2 1)), zS (dz (Rat.divInt (c.getD j (0, 0)).2 1)), zD (dz (Rat.divInt (c.getD j (0, 0)).2 1))]) ∧
        M X 30 [.agg [zS (Rat.num (ox)), zD (Rat.num (ox)), zS (dz (ox)), zD (dz (ox))], .agg [zS (Rat.num (Rat.divInt (c.getD j (0, 0)).1 1)), zD (Rat.num (Rat.divInt (c.getD j (0, 0)).1 1)), zS (dz (Rat.divInt (c.getD j (0, 0)).1 1)), zD (dz (Rat.divInt (c.getD j (0, 0)).1 1))]] = some (.agg [zS (Rat.num (x)), zD (Rat.num (x)), zS (dz (x)), zD (dz (x))]) ∧ M X 30 [.agg [zS (Rat.num (oy)), zD (Rat.num (oy)), zS (dz (oy)), zD (dz (oy))], .agg [zS (Rat.num (Rat.divInt (c.getD j (0, 0)).2 1)), zD (Rat.num (Rat.divInt (c.getD j (0, 0)).2 1)), zS (dz (Rat.divInt (c.getD j (0, 0)).2 1)), zD (dz (Rat.divInt (c.getD j (0, 0)).2 1))]] = some (.agg [zS (Rat.num (y)), zD (Rat.num (y)), zS (dz (y)), zD (dz (y))]) ∧
        M X 33 [.agg [zS (Rat.num (w.lx)), zD (Rat.num (w.lx)), zS (dz (w.lx)), zD (dz (w.lx)), zS (Rat.num (w.ly)), zD (Rat.num (w.ly)), zS (dz (w.ly)), zD (dz (w.ly)), zS (Rat.num (w.hx)), zD (Rat.num (w.hx)), zS (dz (w.hx)), zD (dz (w.hx)), zS (Rat.num (w.hy)), zD (Rat.num (w.hy)), zS (dz (w.hy)), zD (dz (w.hy))], .agg [zS (Rat.num (x)), zD (Rat.num (x)), zS (dz (x)), zD (dz (x)), zS (Rat.num (y)), zD (Rat.num (y)), zS (dz (y)), zD (dz (y))]] = some (.bool true) := by
      intro s hs h0 he j hj
      obtain ⟨⟨k1, k2⟩, k3, k4⟩ := c1 j
      have q1 : RS (Rat.divInt (c.getD j (0, 0)).1 1) 3 := rs_divInt (by omega) (nd_lit (by simp only [Bn]; omega)) (nd_lit (by decide))
      have q2 : RS (Rat.divInt (c.getD j (0, 0)).2 1) 3 := rs_divInt (by omega) (nd_lit (by simp only [Bn]; omega)) (nd_lit (by decide))
      have hp := point_in hb.w1 (by omega) h0 he j hj
      refine ⟨alongQ px vx ax s, alongQ py vy ay s, alongQ px vx ax s + Rat.divInt (c.getD j (0, 0)).1 1, alongQ py vy ay s + Rat.divInt (c.getD j (0, 0)).2 1, M_29 (by omega), M_28 _ 1 ⟨by omega, by omega⟩ ⟨by omega, by omega⟩, M_28 _ 1 ⟨by omega, by omega⟩ ⟨by omega, by omega⟩, M_30 (by omega), M_30 (by omega), ?_⟩
      rw [← hp]
      exact M_33 (by omega)
    simp (maxSteps := 4000000) (disch := first | omega | (simp only [List.length_set, List.length_replicate, List.length_append, List.length_take, List.length_drop, List.length_cons, List.length_nil]; omega)) only [go_sem, reduceCtorEq, Nat.reduceEqDiff, Nat.reduceAdd, Nat.reduceMul, Nat.reduceSub, ↓Nat.reduceBEq, Nat.reduceLT, Nat.reduceLeDiff, Int.reduceLT, Int.reduceLE, Int.reduceNeg, Int.reduceToNat, M_14, mode_10, hC, v1, v2, v3, a1, a2, a3, o1, o2, o3, hw1, ho1, ht1, hA, hm1, hm2, ha1, ha2, hc1, hc2, hj, hsm, mu, weaks_ptC, replA_1, replA_2, replA_3]
    clear hC v1 v2 v3 a1 a2 a3 o1 o2 o3 hw1 ho1 ht1 hA hm1 hm2 ha1 ha2 hc1 hc2 hj mu
    have htm : [AV.bool false, .ro [] 0 false, .bool false, .ro [] 0 false, zS (Rat.num (Rat.divInt (i1 + i2) 1)), zD (Rat.num (Rat.divInt (i1 + i2) 1)), zS (dz (Rat.divInt (i1 + i2) 1)), zD (dz (Rat.divInt (i1 + i2) 1)), zS (Rat.num (Rat.divInt i3 63 * Rat.divInt (i1 + i2) 1)), zD (Rat.num (Rat.divInt i3 63 * Rat.divInt (i1 + i2) 1)), zS (dz (Rat.divInt i3 63 * Rat.divInt (i1 + i2) 1)), zD (dz (Rat.divInt i3 63 * Rat.divInt (i1 + i2) 1))] = ratC [0, Rat.divInt (i1 + i2) 1, Rat.divInt i3 63 * Rat.divInt (i1 + i2) 1] := by
      simp only [ratC, zS_n0, zS_d0, zD_n0, zD_d0]
    rw [htm]
    have hti : ∀ i, i < 3 → RS (([0, Rat.divInt (i1 + i2) 1, Rat.divInt i3 63 * Rat.divInt (i1 + i2) 1] : List Rat).getD i 0) 2 ∧ 0 ≤ (([0, Rat.divInt (i1 + i2) 1, Rat.divInt i3 63 * Rat.divInt (i1 + i2) 1] : List Rat).getD i 0) ∧ (([0, Rat.divInt (i1 + i2) 1, Rat.divInt i3 63 * Rat.divInt (i1 + i2) 1] : List Rat).getD i 0) ≤ Rat.divInt (i1 + i2) 1 := by
      intro i hi
      match i, hi with
      | 0, _ => exact ⟨rs_zero.mono (by omega), Rat.le_refl, e2⟩
      | 1, _ => exact ⟨s2.mono (by omega), e2, Rat.le_refl⟩
      | 2, _ => exact ⟨inferInstanceAs (RS (Rat.divInt i3 63 * Rat.divInt (i1 + i2) 1) 2), hs2.1, hs2.2⟩
    have htl : ([0, Rat.divInt (i1 + i2) 1, Rat.divInt i3 63 * Rat.divInt (i1 + i2) 1] : List Rat).length = 3 := rfl
    generalize ([0, Rat.divInt (i1 + i2) 1, Rat.divInt i3 63 * Rat.divInt (i1 + i2) 1] : List Rat) = tl at *
    have hrl := ratC_length tl
    rw [htl] at hrl
    refine W_loop X (fun (i : Nat) s => i ≤ 3 ∧ s.env 9 = .ro (ptC c) c.length false ∧ s.env 10 = .ptr 72 0 ∧ s.env 11 = .ptr 104 0 ∧ s.env 12 = .ptr 136 0 ∧ s.env 15 = .ptr 264 0 ∧ s.env 21 = .sl 928 0 3 (some 3) 4 ∧ s.env 22 = .int .i64 i ∧
      s.heap 72 = some (.cells [zS (Rat.num (px)), zD (Rat.num (px)), zS (dz (px)), zD (dz (px)), zS (Rat.num (py)), zD (Rat.num (py)), zS (dz (py)), zD (dz (py))] false false) ∧ s.heap 104 = some (.cells [zS (Rat.num (vx)), zD (Rat.num (vx)), zS (dz (vx)), zD (dz (vx)), zS (Rat.num (vy)), zD (Rat.num (vy)), zS (dz (vy)), zD (dz (vy))] false false) ∧ s.heap 136 = some (.cells [zS (Rat.num (ax)), zD (Rat.num (ax)), zS (dz (ax)), zD (dz (ax)), zS (Rat.num (ay)), zD (Rat.num (ay)), zS (dz (ay)), zD (dz (ay))] false false) ∧ s.heap 264 = some (.cells [zS (Rat.num (w.lx)), zD (Rat.num (w.lx)), zS (dz (w.lx)), zD (dz (w.lx)), zS (Rat.num (w.ly)), zD (Rat.num (w.ly)), zS (dz (w.ly)), zD (dz (w.ly)), zS (Rat.num (w.hx)), zD (Rat.num (w.hx)), zS (dz (w.hx)), zD (dz (w.hx)), zS (Rat.num (w.hy)), zD (Rat.num (w.hy)), zS (dz (w.hy)), zD (dz (w.hy))] false false) ∧
      s.heap 928 = some (.cells (ratC tl) false false) ∧ 952 ≤ s.next) (fun i => 3 - i) ?_ 0 _ ?_
    · rintro i ⟨env, heap, nx⟩ ⟨hi, g9, g10, g11, g12, g15, g21, g22, h72, h104, h136, h264, h928, hnx⟩
      simp only at g9 g10 g11 g12 g15 g21 g22 h72 h104 h136 h264 h928 hnx
      by_cases h1 : i < 3
      · obtain ⟨t1, t2, t3⟩ := hti i h1
        have d1 := ratC_drop tl i (by omega)
        generalize hs : tl.getD i 0 = s at *
        obtain ⟨ox, oy, _, _, q1, _, _, _, _, _⟩ := hpt s t1 t2 t3 0 (by omega)
        have q2 : ∀ j, j < c.length → ∃ x y : Rat, M X 28 [.int .i64 (c.getD j (0, 0)).1, .int .i64 1] = some (.agg [zS (Rat.num (Rat.divInt (c.getD j (0, 0)).1 1)), zD (Rat.num (Rat.divInt (c.getD j (0, 0)).1 1)), zS (dz (Rat.divInt (c.getD j (0, 0)).1 1)), zD (dz (Rat.divInt (c.getD j (0, 0)).1 1))]) ∧ M X 28 [.int .i64 (c.getD j (0, 0)).2, .int .i64 1] = some (.agg [zS (Rat.num (Rat.divInt (c.getD j (0, 0)).2 1)), zD (Rat.num (Rat.divInt (c.getD j (0, 0)).2 1)), zS (dz (Rat.divInt (c.getD j (0, 0)).2 1)), zD (dz (Rat.divInt (c.getD j (0, 0)).2 1))]) ∧
            M X 30 [.agg [zS (Rat.num (ox)), zD (Rat.num (ox)), zS (dz (ox)), zD (dz (ox))], .agg [zS (Rat.num (Rat.divInt (c.getD j (0, 0)).1 1)), zD (Rat.num (Rat.divInt (c.getD j (0, 0)).1 1)), zS (dz (Rat.divInt (c.getD j (0, 0)).1 1)), zD (dz (Rat.divInt (c.getD j (0, 0)).1 1))]] = some (.agg [zS (Rat.num (x)), zD (Rat.num (x)), zS (dz (x)), zD (dz (x))]) ∧ M X 30 [.agg [zS (Rat.num (oy)), zD (Rat.num (oy)), zS (dz (oy)), zD (dz (oy))], .agg [zS (Rat.num (Rat.divInt (c.getD j (0, 0)).2 1)), zD (Rat.num (Rat.divInt (c.getD j (0, 0)).2 1)), zS (dz (Rat.divInt (c.getD j (0, 0)).2 1)), zD (dz (Rat.divInt (c.getD j (0, 0)).2 1))]] = some (.agg [zS (Rat.num (y)), zD (Rat.num (y)), zS (dz (y)), zD (dz (y))]) ∧
            M X 33 [.agg [zS (Rat.num (w.lx)), zD (Rat.num (w.lx)), zS (dz (w.lx)), zD (dz (w.lx)), zS (Rat.num (w.ly)), zD (Rat.num (w.ly)), zS (dz (w.ly)), zD (dz (w.ly)), zS (Rat.num (w.hx)), zD (Rat.num (w.hx)), zS (dz (w.hx)), zD (dz (w.hx)), zS (Rat.num (w.hy)), zD (Rat.num (w.hy)), zS (dz (w.hy)), zD (dz (w.hy))], .agg [zS (Rat.num (x)), zD (Rat.num (x)), zS (dz (x)), zD (dz (x)), zS (Rat.num (y)), zD (Rat.num (y)), zS (dz (y)), zD (dz (y))]] = some (.bool true) := by
          intro j hj
          obtain ⟨ox', oy', x, y, k1, k2, k3, k4, k5, k6⟩ := hpt s t1 t2 t3 j hj
          rw [q1] at k1
          injection k1 with k1
          injection k1 with k1
          simp only [List.cons.injEq, and_true] at k1
          obtain ⟨u1, u2, u3, u4, u5, u6, u7, u8⟩ := k1
          rw [← u1, ← u2, ← u3, ← u4] at k4
          rw [← u5, ← u6, ← u7, ← u8] at k5
          exact ⟨x, y, k2, k3, k4, k5, k6⟩
        clear hpt hti
        simp (maxSteps := 4000000) (disch := first | omega | (simp only [List.length_set, List.length_replicate, List.length_append, List.length_take, List.length_drop, List.length_cons, List.length_nil]; omega)) only [go_sem, reduceCtorEq, Nat.reduceEqDiff, Nat.reduceAdd, Nat.reduceMul, Nat.reduceSub, ↓Nat.reduceBEq, Nat.reduceLT, Nat.reduceLeDiff, Int.reduceLT, Int.reduceLE, Int.reduceNeg, Int.reduceToNat, g9, g10, g11, g12, g15, g21, g22, h72, h104, h136, h264, h928, hrl, d1, q1]
        refine W_loop X (fun (j : Nat) s => j ≤ c.length ∧ s.env 9 = .ro (ptC c) c.length false ∧ s.env 10 = .ptr 72 0 ∧ s.env 11 = .ptr 104 0 ∧ s.env 12 = .ptr 136 0 ∧ s.env 15 = .ptr 264 0 ∧ s.env 21 = .sl 928 0 3 (some 3) 4 ∧ s.env 22 = .int .i64 i ∧ s.env 23 = .ptr (nx + 32 + 64) 0 ∧ s.env 24 = .int .i64 j ∧
          s.heap 72 = some (.cells [zS (Rat.num (px)), zD (Rat.num (px)), zS (dz (px)), zD (dz (px)), zS (Rat.num (py)), zD (Rat.num (py)), zS (dz (py)), zD (dz (py))] false false) ∧ s.heap 104 = some (.cells [zS (Rat.num (vx)), zD (Rat.num (vx)), zS (dz (vx)), zD (dz (vx)), zS (Rat.num (vy)), zD (Rat.num (vy)), zS (dz (vy)), zD (dz (vy))] false false) ∧ s.heap 136 = some (.cells [zS (Rat.num (ax)), zD (Rat.num (ax)), zS (dz (ax)), zD (dz (ax)), zS (Rat.num (ay)), zD (Rat.num (ay)), zS (dz (ay)), zD (dz (ay))] false false) ∧ s.heap 264 = some (.cells [zS (Rat.num (w.lx)), zD (Rat.num (w.lx)), zS (dz (w.lx)), zD (dz (w.lx)), zS (Rat.num (w.ly)), zD (Rat.num (w.ly)), zS (dz (w.ly)), zD (dz (w.ly)), zS (Rat.num (w.hx)), zD (Rat.num (w.hx)), zS (dz (w.hx)), zD (dz (w.hx)), zS (Rat.num (w.hy)), zD (Rat.num (w.hy)), zS (dz (w.hy)), zD (dz (w.hy))] false false) ∧
          s.heap 928 = some (.cells (ratC tl) false false) ∧ s.heap (nx + 32 + 64) = some (.cells [zS (Rat.num (ox)), zD (Rat.num (ox)), zS (dz (ox)), zD (dz (ox)), zS (Rat.num (oy)), zD (Rat.num (oy)), zS (dz (oy)), zD (dz (oy))] false false) ∧ nx + 32 + 80 ≤ s.next) (fun j => c.length - j) ?_ 0 _ ?_
        · rintro j ⟨env, heap, nx2⟩ ⟨hj, g9, g10, g11, g12, g15, g21, g22, g23, g24, h72, h104, h136, h264, h928, ho, hnx2⟩
          simp only at g9 g10 g11 g12 g15 g21 g22 g23 g24 h72 h104 h136 h264 h928 ho hnx2
          by_cases h2 : j < c.length
          · obtain ⟨x, y, k2, k3, k4, k5, k6⟩ := q2 j h2
            have d2 := ptC_drop c j h2
            generalize ptC (c.drop (j + 1)) = dd at *
            simp (maxSteps := 4000000) (disch := first | omega | (simp only [List.length_set, List.length_replicate, List.length_append, List.length_take, List.length_drop, List.length_cons, List.length_nil]; omega)) only [go_sem, reduceCtorEq, Nat.reduceEqDiff, Nat.reduceAdd, Nat.reduceMul, Nat.reduceSub, ↓Nat.reduceBEq, Nat.reduceLT, Nat.reduceLeDiff, Int.reduceLT, Int.reduceLE, Int.reduceNeg, Int.reduceToNat, M_14, g9, g15, g23, g24, h264, ho, hcl, d2, k2, k3, k4, k5, k6]
            exact ⟨j + 1, ⟨by omega, g10, g11, g12, g21, g22, rfl, h72, h104, h136, h928, by omega⟩, by omega⟩
          · simp (maxSteps := 4000000) (disch := first | omega | (simp only [List.length_set, List.length_replicate, List.length_append, List.length_take, List.length_drop, List.length_cons, List.length_nil]; omega)) only [go_sem, reduceCtorEq, Nat.reduceEqDiff, Nat.reduceAdd, Nat.reduceMul, Nat.reduceSub, ↓Nat.reduceBEq, Nat.reduceLT, Nat.reduceLeDiff, Int.reduceLT, Int.reduceLE, Int.reduceNeg, Int.reduceToNat, g9, g22, g24]
            exact ⟨i + 1, ⟨by omega, g10, g11, g12, g15, g21, rfl, h72, h104, h136, h264, h928, by omega⟩, by omega⟩
        · simp (maxSteps := 4000000) (disch := first | omega | (simp only [List.length_set, List.length_replicate, List.length_append, List.length_take, List.length_drop, List.length_cons, List.length_nil]; omega)) only [go_sem, reduceCtorEq, Nat.reduceEqDiff, Nat.reduceAdd, Nat.reduceMul, Nat.reduceSub, ↓Nat.reduceBEq, Nat.reduceLT, Nat.reduceLeDiff, Int.reduceLT, Int.reduceLE, Int.reduceNeg, Int.reduceToNat, g9, g10, g11, g12, g15, g21, g22, h72, h104, h136, h264, h928]
          omega
      · simp (maxSteps := 4000000) (disch := first | omega | (simp only [List.length_set, List.length_replicate, List.length_append, List.length_take, List.length_drop, List.length_cons, List.length_nil]; omega)) only [go_sem, reduceCtorEq, Nat.reduceEqDiff, Nat.reduceAdd, Nat.reduceMul, Nat.reduceSub, ↓Nat.reduceBEq, Nat.reduceLT, Nat.reduceLeDiff, Int.reduceLT, Int.reduceLE, Int.reduceNeg, Int.reduceToNat, g21, g22, hL]
    · simp (maxSteps := 4000000) (disch := first | omega | (simp only [List.length_set, List.length_replicate, List.length_append, List.length_take, List.length_drop, List.length_cons, List.length_nil]; omega)) only [go_sem, reduceCtorEq, Nat.reduceEqDiff, Nat.reduceAdd, Nat.reduceMul, Nat.reduceSub, ↓Nat.reduceBEq, Nat.reduceLT, Nat.reduceLeDiff, Int.reduceLT, Int.reduceLE, Int.reduceNeg, Int.reduceToNat]
end Go.Proofs.YtjccikgdebgebaaGreatDoor.Abs
end
