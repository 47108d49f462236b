/-
  The law BroadInside. Conditions: what Sorted answers in the example.
-/
import Derived.Test.YtjccikgdebgebaaGreatDoorQ16
set_option linter.unusedSimpArgs false
set_option linter.unusedVariables false
section
set_option linter.unusedSimpArgs false
namespace Go.Proofs.YtjccikgdebgebaaGreatDoor.Abs
open Go
theorem meetB_in {ax ay ax' ay' x y : Rat} (h1 : ax ≤ x) (h2 : x ≤ ax') (h3 : ay ≤ y) (h4 : y ≤ ay') : meetB ax ay ax' ay' x y x y = true := by
  unfold meetB; rw [decide_eq_true_eq]; grind
/-- The three boxes of a way, its beginning and the rest. -/
structure Boxes3 (c : List Pt) (px py vx vy ax ay : Rat) (m k : Int) (w o t : BoxQ) : Prop where
  w1 : w = sweptQ c px py vx vy ax ay (m + k)
  o1 : o = sweptQ c px py vx vy ax ay m
  t1 : t = sweptQ c (alongQ px vx ax (Rat.divInt m 1)) (alongQ py vy ay (Rat.divInt m 1)) (vx + ax * Rat.divInt m 1) (vy + ay * Rat.divInt m 1) ax ay k
theorem low_top (pr : Pt → Int) (l : List Pt) (n : Nat) : lowZ pr l n ≤ topZ pr l n := Int.le_trans (lowZ_le pr l n n (Nat.le_refl _)) (topZ_ge pr l n n (Nat.le_refl _))
theorem boxes3 {c : List Pt} {px py vx vy ax ay : Rat} {m k : Int} {w o t : BoxQ} (h : Boxes3 c px py vx vy ax ay m k w o t) (hm : 0 ≤ m) (hk : 0 ≤ k) :
    (min o.lx t.lx = w.lx ∧ min o.ly t.ly = w.ly ∧ max o.hx t.hx = w.hx ∧ max o.hy t.hy = w.hy) ∧ (o.lx ≤ o.hx ∧ o.ly ≤ o.hy) ∧ (t.lx ≤ t.hx ∧ t.ly ≤ t.hy) := by
  obtain ⟨rfl, rfl, rfl⟩ := h
  have e1 := divInt_nn hm
  have e2 := divInt_nn hk
  unfold sweptQ
  simp only [if_neg (show ¬ m < 0 by omega), if_neg (show ¬ k < 0 by omega), if_neg (show ¬ m + k < 0 by omega), divInt_add1]
  generalize Rat.divInt m 1 = e at *
  generalize Rat.divInt k 1 = f at *
  have a1 := lo_join px vx ax e f e1 e2
  have a2 := lo_join py vy ay e f e1 e2
  have a3 := hi_join px vx ax e f e1 e2
  have a4 := hi_join py vy ay e f e1 e2
  have z1 := divInt_le (low_top prX c (c.length - 1))
  have z2 := divInt_le (low_top prY c (c.length - 1))
  have y1 := lo_hi px vx ax e
  have y2 := lo_hi py vy ay e
  have y3 := lo_hi (alongQ px vx ax e) (vx + ax * e) ax f
  have y4 := lo_hi (alongQ py vy ay e) (vy + ay * e) ay f
  generalize Rat.divInt (lowZ prX c (c.length - 1)) 1 = q1 at *
  generalize Rat.divInt (lowZ prY c (c.length - 1)) 1 = q2 at *
  generalize Rat.divInt (topZ prX c (c.length - 1)) 1 = q3 at *
  generalize Rat.divInt (topZ prY c (c.length - 1)) 1 = q4 at *
  grind
theorem point_in {c : List Pt} {px py vx vy ax ay s : Rat} {n : Int} {w : BoxQ} (hw : w = sweptQ c px py vx vy ax ay n) (hn : 0 ≤ n) (hs : 0 ≤ s) (he : s ≤ Rat.divInt n 1) (j : Nat) (hj : j < c.length) :
    meetB w.lx w.ly w.hx w.hy (alongQ px vx ax s + Rat.divInt (c.getD j (0, 0)).1 1) (alongQ py vy ay s + Rat.divInt (c.getD j (0, 0)).2 1) (alongQ px vx ax s + Rat.divInt (c.getD j (0, 0)).1 1) (alongQ py vy ay s + Rat.divInt (c.getD j (0, 0)).2 1) = true := by
  subst hw
  unfold sweptQ
  simp only [if_neg (show ¬ n < 0 by omega)]
  have a1 := lo_le (p := px) (v := vx) (a := ax) hs he
  have a2 := lo_le (p := py) (v := vy) (a := ay) hs he
  have a3 := hi_ge (p := px) (v := vx) (a := ax) hs he
  have a4 := hi_ge (p := py) (v := vy) (a := ay) hs he
  have z1 := divInt_le (lowZ_le prX c (c.length - 1) j (by omega))
  have z2 := divInt_le (lowZ_le prY c (c.length - 1) j (by omega))
  have z3 := divInt_le (topZ_ge prX c (c.length - 1) j (by omega))
  have z4 := divInt_le (topZ_ge prY c (c.length - 1) j (by omega))
  apply meetB_in <;> grind
set_option maxRecDepth 100000 in
set_option maxHeartbeats 16000000 in
theorem M_5 [SpC] (hS : SortedSays) (l : List Int) (n k at0 : Int) (hn : ok64 n) (hk : ok64 k) (hat : ok64 at0) (hl : okI l) (hlen : l.length < 2 ^ 60) : M X 5 [isl l, .int .i64 n, .int .i64 k, .int .i64 at0] = some (.bool true) := by
  have hL := M_17 hS
  have hC : M X 10 [isl l, .int .i64 6] = some (.ro (ptC (cornP l 6)) (cornP l 6).length false) := M_10 l hl hlen 6 (by omega)
  have c1 := okP_corn l 6
  have c2 := corn_len l 6
  have v1 := M_11 l 0 hl (by omega)
  have v2 := M_11 l 2 hl (by omega)
  have v3 := M_11 l 4 hl (by omega)
  have r1 := rs_numQ (atN l (0 : Int).toNat 4096)
  have r2 := rs_numQ (atN l ((0 : Int).toNat + 1) 4096)
  have r3 := rs_numQ (atN l (2 : Int).toNat 4096)
  have r4 := rs_numQ (atN l ((2 : Int).toNat + 1) 4096)
  have r5 := rs_numQ (atN l (4 : Int).toNat 4096)
  have r6 := rs_numQ (atN l ((4 : Int).toNat + 1) 4096)
  generalize numQ (atN l (0 : Int).toNat 4096) = px at *
  generalize numQ (atN l ((0 : Int).toNat + 1) 4096) = py at *
  generalize numQ (atN l (2 : Int).toNat 4096) = vx at *
  generalize numQ (atN l ((2 : Int).toNat + 1) 4096) = vy at *
  generalize numQ (atN l (4 : Int).toNat 4096) = ax at *
  generalize numQ (atN l ((4 : Int).toNat + 1) 4096) = ay at *
  generalize cornP l 6 = c at *
  have hcl := ptC_length c
  refine M_of X (fn := Tryz.f5) Tryz.func5 rfl ok_5 mode_5 res_5 _ rfl _ ?_
  intro r hr
  rw [hr]
  by_cases hc0 : c.length = 0
  · simp (maxSteps := 4000000) (disch := first | omega | (simp only [List.length_set, List.length_replicate, List.length_append, List.length_take, List.length_drop, List.length_cons, List.length_nil]; omega)) only [go_sem, reduceCtorEq, Nat.reduceEqDiff, Nat.reduceAdd, Nat.reduceMul, Nat.reduceSub, ↓Nat.reduceBEq, Nat.reduceLT, Nat.reduceLeDiff, Int.reduceLT, Int.reduceLE, Int.reduceNeg, Int.reduceToNat, mode_10, hC, hc0, hL]
  · have a1 := M_12 n 7 hn (by omega)
    have a2 := M_12 k 7 hk (by omega)
    have a3 := M_12 at0 64 hat (by omega)
    have b1 := arnd_bd n 7 (by omega)
    have b2 := arnd_bd k 7 (by omega)
    have b3 := arnd_bd at0 64 (by omega)
    generalize arnd n 7 = i1 at *
    generalize arnd k 7 = i2 at *
    generalize arnd at0 64 = i3 at *
    have o1 := M_28 i1 1 ⟨by omega, by omega⟩ ⟨by omega, by omega⟩
    have o2 := M_28 (i1 + i2) 1 ⟨by omega, by omega⟩ ⟨by omega, by omega⟩
    have o3 := M_28 i3 63 ⟨by omega, by omega⟩ ⟨by omega, by omega⟩
    have s1 : RS (Rat.divInt i1 1) 1 := rs_small (by omega) (by decide)
    have s2 : RS (Rat.divInt (i1 + i2) 1) 1 := rs_small (by omega) (by decide)
    have s3 : RS (Rat.divInt i3 63) 1 := rs_small (by omega) (by decide)
    have e1 := divInt_nn (n := i1) (by omega)
    have e2 := divInt_nn (n := i1 + i2) (by omega)
    have hs2 : 0 ≤ Rat.divInt i3 63 * Rat.divInt (i1 + i2) 1 ∧ Rat.divInt i3 63 * Rat.divInt (i1 + i2) 1 ≤ Rat.divInt (i1 + i2) 1 := by
      have d1 : 0 ≤ Rat.divInt i3 63 ∧ Rat.divInt i3 63 ≤ 1 := by
        have z : (0 : Rat) ≤ (i3 : Rat) := by have := (Rat.intCast_le_intCast (a := 0) (b := i3)).2 b3.1; simpa using this
        have z2 : (i3 : Rat) ≤ 63 := by have := (Rat.intCast_le_intCast (a := i3) (b := 63)).2 (by omega); simpa using this
        rw [Rat.divInt_eq_div]
        have : ((63 : Int) : Rat) = 63 := rfl
        rw [this]
        constructor
        · have := mul_nn z (y := 1 / 63) (by decide +kernel)
          grind
        · grind
      constructor
      · exact mul_nn d1.1 e2
      · have := mul_nn (x := 1 - Rat.divInt i3 63) (by grind) e2
        grind
    have mu := M_31 (x := Rat.divInt i3 63) (y := Rat.divInt (i1 + i2) 1) (by omega)
    have hA := M_29 (px := px) (py := py) (vx := vx) (vy := vy) (ax := ax) (ay := ay) (s := Rat.divInt i1 1) (by omega)
    have hm1 := M_31 (x := ax) (y := Rat.divInt i1 1) (by omega)
    have hm2 := M_31 (x := ay) (y := Rat.divInt i1 1) (by omega)
    have ha1 := M_30 (x := vx) (y := ax * Rat.divInt i1 1) (by omega)
    have ha2 := M_30 (x := vy) (y := ay * Rat.divInt i1 1) (by omega)
    have hb : ∃ w o t : BoxQ, Boxes3 c px py vx vy ax ay i1 i2 w o t := ⟨_, _, _, rfl, rfl, rfl⟩
    obtain ⟨w, o, t, hb⟩ := hb
    have rw1 : RB w 200 := by
      have := rb_swept (px := px) (py := py) (vx := vx) (vy := vy) (ax := ax) (ay := ay) c c1 (i1 + i2) ⟨by omega, by omega⟩
      rw [← hb.w1] at this
      exact ⟨this.r1.mono (by omega), this.r2.mono (by omega), this.r3.mono (by omega), this.r4.mono (by omega)⟩
    have ro1 : RB o 200 := by
      have := rb_swept (px := px) (py := py) (vx := vx) (vy := vy) (ax := ax) (ay := ay) c c1 i1 ⟨by omega, by omega⟩
      rw [← hb.o1] at this
      exact ⟨this.r1.mono (by omega), this.r2.mono (by omega), this.r3.mono (by omega), this.r4.mono (by omega)⟩
    have rt1 : RB t 1000 := by
      have := rb_swept (px := alongQ px vx ax (Rat.divInt i1 1)) (py := alongQ py vy ay (Rat.divInt i1 1)) (vx := vx + ax * Rat.divInt i1 1) (vy := vy + ay * Rat.divInt i1 1) (ax := ax) (ay := ay) c c1 i2 ⟨by omega, by omega⟩
      rw [← hb.t1] at this
      exact ⟨this.r1.mono (by omega), this.r2.mono (by omega), this.r3.mono (by omega), this.r4.mono (by omega)⟩
    have hw1 := M_15 (px := px) (py := py) (vx := vx) (vy := vy) (ax := ax) (ay := ay) c c1 (by omega) (i1 + i2) ⟨by omega, by omega⟩ (by omega)
    have ho1 := M_15 (px := px) (py := py) (vx := vx) (vy := vy) (ax := ax) (ay := ay) c c1 (by omega) i1 ⟨by omega, by omega⟩ (by omega)
    have ht1 := M_15 (px := alongQ px vx ax (Rat.divInt i1 1)) (py := alongQ py vy ay (Rat.divInt i1 1)) (vx := vx + ax * Rat.divInt i1 1) (vy := vy + ay * Rat.divInt i1 1) (ax := ax) (ay := ay) c c1 (by omega) i2 ⟨by omega, by omega⟩ (by omega)
    rw [← hb.w1] at hw1
    rw [← hb.o1] at ho1
    rw [← hb.t1] at ht1
    obtain ⟨⟨j1, j2, j3, j4⟩, ⟨g1, g2⟩, g3, g4⟩ := boxes3 hb b1.1 b2.1
    have hc1 := M_32 (ax := w.lx) (ay := w.ly) (ax' := w.hx) (ay' := w.hy) (x := o.lx) (y := o.ly) (x' := o.hx) (y' := o.hy) (by omega)
    have hc2 := M_32 (ax := w.lx) (ay := w.ly) (ax' := w.hx) (ay' := w.hy) (x := t.lx) (y := t.ly) (x' := t.hx) (y' := t.hy) (by omega)
    rw [meetB_in (by grind) (by grind) (by grind) (by grind), meetB_in (by grind) (by grind) (by grind) (by grind)] at hc1 hc2
    have hj := M_22 (ax := o.lx) (ay := o.ly) (ax' := o.hx) (ay' := o.hy) (bx := t.lx) (by0 := t.ly) (bx' := t.hx) (by' := t.hy) (by omega)
    rw [j1, j2, j3, j4] at hj
    have hsm := M_13 (ax := w.lx) (ay := w.ly) (ax' := w.hx) (ay' := w.hy) (bx := w.lx) (by0 := w.ly) (bx' := w.hx) (by' := w.hy) (by omega)
    rw [decide_eq_true ⟨rfl, rfl, rfl, rfl⟩] at hsm
    have hpt : ∀ s : Rat, RS s 2 → 0 ≤ s → s ≤ Rat.divInt (i1 + i2) 1 → ∀ j, j < c.length → ∃ ox oy x y : Rat,
        M X 29 [.agg [zS (Rat.num (px)), zD (Rat.num (px)), zS (dz (px)), zD (dz (px)), zS (Rat.num (py)), zD (Rat.num (py)), zS (dz (py)), zD (dz (py))], .agg [zS (Rat.num (vx)), zD (Rat.num (vx)), zS (dz (vx)), zD (dz (vx)), zS (Rat.num (vy)), zD (Rat.num (vy)), zS (dz (vy)), zD (dz (vy))], .agg [zS (Rat.num (ax)), zD (Rat.num (ax)), zS (dz (ax)), zD (dz (ax)), zS (Rat.num (ay)), zD (Rat.num (ay)), zS (dz (ay)), zD (dz (ay))], .agg [zS (Rat.num (s)), zD (Rat.num (s)), zS (dz (s)), zD (dz (s))]] = some (.agg [zS (Rat.num (ox)), zD (Rat.num (ox)), zS (dz (ox)), zD (dz (ox)), zS (Rat.num (oy)), zD (Rat.num (oy)), zS (dz (oy)), zD (dz (oy))]) ∧
        M X 28 [.int .i64 (c.getD j (0, 0)).1, .int .i64 1] = some (.agg [zS (Rat.num (Rat.divInt (c.getD j (0, 0)).1 1)), zD (Rat.num (Rat.divInt (c.getD j (0, 0)).1 1)), zS (dz (Rat.divInt (c.getD j (0, 0)).1 1)), zD (dz (Rat.divInt (c.getD j (0, 0)).1 1))]) ∧ M X 28 [.int .i64 (c.getD j (0, 0)).2, .int .i64 1] = some (.agg [zS (Rat.num (Rat.divInt (c.getD j (0, 0)).2 1)), zD (Rat.num (Rat.divInt (c.getD j (0, 0)).2 1)), zS (dz (Rat.divInt (c.getD j (0, 0)).2 1)), zD (dz (Rat.divInt (c.getD j (0, 0)).2 1))]) ∧
        M X 30 [.agg [zS (Rat.num (ox)), zD (Rat.num (ox)), zS (dz (ox)), zD (dz (ox))], .agg [zS (Rat.num (Rat.divInt (c.getD j (0, 0)).1 1)), zD (Rat.num (Rat.divInt (c.getD j (0, 0)).1 1)), zS (dz (Rat.divInt (c.getD j (0, 0)).1 1)), zD (dz (Rat.divInt (c.getD j (0, 0)).1 1))]] = some (.agg [zS (Rat.num (x)), zD (Rat.num (x)), zS (dz (x)), zD (dz (x))]) ∧ M X 30 [.agg [zS (Rat.num (oy)), zD (Rat.num (oy)), zS (dz (oy)), zD (dz (oy))], .agg [zS (Rat.num (Rat.divInt (c.getD j (0, 0)).2 1)), zD (Rat.num (Rat.divInt (c.getD j (0, 0)).2 1)), zS (dz (Rat.divInt (c.getD j (0, 0)).2 1)), zD (dz (Rat.divInt (c.getD j (0, 0)).2 1))]] = some (.agg [zS (Rat.num (y)), zD (Rat.num (y)), zS (dz (y)), zD (dz (y))]) ∧
        M X 33 [.agg [zS (Rat.num (w.lx)), zD (Rat.num (w.lx)), zS (dz (w.lx)), zD (dz (w.lx)), zS (Rat.num (w.ly)), zD (Rat.num (w.ly)), zS (dz (w.ly)), zD (dz (w.ly)), zS (Rat.num (w.hx)), zD (Rat.num (w.hx)), zS (dz (w.hx)), zD (dz (w.hx)), zS (Rat.num (w.hy)), zD (Rat.num (w.hy)), zS (dz (w.hy)), zD (dz (w.hy))], .agg [zS (Rat.num (x)), zD (Rat.num (x)), zS (dz (x)), zD (dz (x)), zS (Rat.num (y)), zD (Rat.num (y)), zS (dz (y)), zD (dz (y))]] = some (.bool true) := by
      intro s hs h0 he j hj
      obtain ⟨⟨k1, k2⟩, k3, k4⟩ := c1 j
      have q1 : RS (Rat.divInt (c.getD j (0, 0)).1 1) 3 := rs_divInt (by omega) (nd_lit (by simp only [Bn]; omega)) (nd_lit (by decide))
      have q2 : RS (Rat.divInt (c.getD j (0, 0)).2 1) 3 := rs_divInt (by omega) (nd_lit (by simp only [Bn]; omega)) (nd_lit (by decide))
      have hp := point_in hb.w1 (by omega) h0 he j hj
      refine ⟨alongQ px vx ax s, alongQ py vy ay s, alongQ px vx ax s + Rat.divInt (c.getD j (0, 0)).1 1, alongQ py vy ay s + Rat.divInt (c.getD j (0, 0)).2 1, M_29 (by omega), M_28 _ 1 ⟨by omega, by omega⟩ ⟨by omega, by omega⟩, M_28 _ 1 ⟨by omega, by omega⟩ ⟨by omega, by omega⟩, M_30 (by omega), M_30 (by omega), ?_⟩
      rw [← hp]
      exact M_33 (by omega)
    simp (maxSteps := 4000000) (disch := first | omega | (simp only [List.length_set, List.length_replicate, List.length_append, List.length_take, List.length_drop, List.length_cons, List.length_nil]; omega)) only [go_sem, reduceCtorEq, Nat.reduceEqDiff, Nat.reduceAdd, Nat.reduceMul, Nat.reduceSub, ↓Nat.reduceBEq, Nat.reduceLT, Nat.reduceLeDiff, Int.reduceLT, Int.reduceLE, Int.reduceNeg, Int.reduceToNat, M_14, mode_10, hC, v1, v2, v3, a1, a2, a3, o1, o2, o3, hw1, ho1, ht1, hA, hm1, hm2, ha1, ha2, hc1, hc2, hj, hsm, mu, weaks_ptC, replA_1, replA_2, replA_3]
    clear hC v1 v2 v3 a1 a2 a3 o1 o2 o3 hw1 ho1 ht1 hA hm1 hm2 ha1 ha2 hc1 hc2 hj mu
    have htm : [AV.bool false, .ro [] 0 false, .bool false, .ro [] 0 false, zS (Rat.num (Rat.divInt (i1 + i2) 1)), zD (Rat.num (Rat.divInt (i1 + i2) 1)), zS (dz (Rat.divInt (i1 + i2) 1)), zD (dz (Rat.divInt (i1 + i2) 1)), zS (Rat.num (Rat.divInt i3 63 * Rat.divInt (i1 + i2) 1)), zD (Rat.num (Rat.divInt i3 63 * Rat.divInt (i1 + i2) 1)), zS (dz (Rat.divInt i3 63 * Rat.divInt (i1 + i2) 1)), zD (dz (Rat.divInt i3 63 * Rat.divInt (i1 + i2) 1))] = ratC [0, Rat.divInt (i1 + i2) 1, Rat.divInt i3 63 * Rat.divInt (i1 + i2) 1] := by
      simp only [ratC, zS_n0, zS_d0, zD_n0, zD_d0]
    rw [htm]
    have hti : ∀ i, i < 3 → RS (([0, Rat.divInt (i1 + i2) 1, Rat.divInt i3 63 * Rat.divInt (i1 + i2) 1] : List Rat).getD i 0) 2 ∧ 0 ≤ (([0, Rat.divInt (i1 + i2) 1, Rat.divInt i3 63 * Rat.divInt (i1 + i2) 1] : List Rat).getD i 0) ∧ (([0, Rat.divInt (i1 + i2) 1, Rat.divInt i3 63 * Rat.divInt (i1 + i2) 1] : List Rat).getD i 0) ≤ Rat.divInt (i1 + i2) 1 := by
      intro i hi
      match i, hi with
      | 0, _ => exact ⟨rs_zero.mono (by omega), Rat.le_refl, e2⟩
      | 1, _ => exact ⟨s2.mono (by omega), e2, Rat.le_refl⟩
      | 2, _ => exact ⟨inferInstanceAs (RS (Rat.divInt i3 63 * Rat.divInt (i1 + i2) 1) 2), hs2.1, hs2.2⟩
    have htl : ([0, Rat.divInt (i1 + i2) 1, Rat.divInt i3 63 * Rat.divInt (i1 + i2) 1] : List Rat).length = 3 := rfl
    generalize ([0, Rat.divInt (i1 + i2) 1, Rat.divInt i3 63 * Rat.divInt (i1 + i2) 1] : List Rat) = tl at *
    have hrl := ratC_length tl
    rw [htl] at hrl
    refine W_loop X (fun (i : Nat) s => i ≤ 3 ∧ s.env 9 = .ro (ptC c) c.length false ∧ s.env 10 = .ptr 72 0 ∧ s.env 11 = .ptr 104 0 ∧ s.env 12 = .ptr 136 0 ∧ s.env 15 = .ptr 264 0 ∧ s.env 21 = .sl 928 0 3 (some 3) 4 ∧ s.env 22 = .int .i64 i ∧
      s.heap 72 = some (.cells [zS (Rat.num (px)), zD (Rat.num (px)), zS (dz (px)), zD (dz (px)), zS (Rat.num (py)), zD (Rat.num (py)), zS (dz (py)), zD (dz (py))] false false) ∧ s.heap 104 = some (.cells [zS (Rat.num (vx)), zD (Rat.num (vx)), zS (dz (vx)), zD (dz (vx)), zS (Rat.num (vy)), zD (Rat.num (vy)), zS (dz (vy)), zD (dz (vy))] false false) ∧ s.heap 136 = some (.cells [zS (Rat.num (ax)), zD (Rat.num (ax)), zS (dz (ax)), zD (dz (ax)), zS (Rat.num (ay)), zD (Rat.num (ay)), zS (dz (ay)), zD (dz (ay))] false false) ∧ s.heap 264 = some (.cells [zS (Rat.num (w.lx)), zD (Rat.num (w.lx)), zS (dz (w.lx)), zD (dz (w.lx)), zS (Rat.num (w.ly)), zD (Rat.num (w.ly)), zS (dz (w.ly)), zD (dz (w.ly)), zS (Rat.num (w.hx)), zD (Rat.num (w.hx)), zS (dz (w.hx)), zD (dz (w.hx)), zS (Rat.num (w.hy)), zD (Rat.num (w.hy)), zS (dz (w.hy)), zD (dz (w.hy))] false false) ∧
      s.heap 928 = some (.cells (ratC tl) false false) ∧ 952 ≤ s.next) (fun i => 3 - i) ?_ 0 _ ?_
    · rintro i ⟨env, heap, nx⟩ ⟨hi, g9, g10, g11, g12, g15, g21, g22, h72, h104, h136, h264, h928, hnx⟩
      simp only at g9 g10 g11 g12 g15 g21 g22 h72 h104 h136 h264 h928 hnx
      by_cases h1 : i < 3
      · obtain ⟨t1, t2, t3⟩ := hti i h1
        have d1 := ratC_drop tl i (by omega)
        generalize hs : tl.getD i 0 = s at *
        obtain ⟨ox, oy, _, _, q1, _, _, _, _, _⟩ := hpt s t1 t2 t3 0 (by omega)
        have q2 : ∀ j, j < c.length → ∃ x y : Rat, M X 28 [.int .i64 (c.getD j (0, 0)).1, .int .i64 1] = some (.agg [zS (Rat.num (Rat.divInt (c.getD j (0, 0)).1 1)), zD (Rat.num (Rat.divInt (c.getD j (0, 0)).1 1)), zS (dz (Rat.divInt (c.getD j (0, 0)).1 1)), zD (dz (Rat.divInt (c.getD j (0, 0)).1 1))]) ∧ M X 28 [.int .i64 (c.getD j (0, 0)).2, .int .i64 1] = some (.agg [zS (Rat.num (Rat.divInt (c.getD j (0, 0)).2 1)), zD (Rat.num (Rat.divInt (c.getD j (0, 0)).2 1)), zS (dz (Rat.divInt (c.getD j (0, 0)).2 1)), zD (dz (Rat.divInt (c.getD j (0, 0)).2 1))]) ∧
            M X 30 [.agg [zS (Rat.num (ox)), zD (Rat.num (ox)), zS (dz (ox)), zD (dz (ox))], .agg [zS (Rat.num (Rat.divInt (c.getD j (0, 0)).1 1)), zD (Rat.num (Rat.divInt (c.getD j (0, 0)).1 1)), zS (dz (Rat.divInt (c.getD j (0, 0)).1 1)), zD (dz (Rat.divInt (c.getD j (0, 0)).1 1))]] = some (.agg [zS (Rat.num (x)), zD (Rat.num (x)), zS (dz (x)), zD (dz (x))]) ∧ M X 30 [.agg [zS (Rat.num (oy)), zD (Rat.num (oy)), zS (dz (oy)), zD (dz (oy))], .agg [zS (Rat.num (Rat.divInt (c.getD j (0, 0)).2 1)), zD (Rat.num (Rat.divInt (c.getD j (0, 0)).2 1)), zS (dz (Rat.divInt (c.getD j (0, 0)).2 1)), zD (dz (Rat.divInt (c.getD j (0, 0)).2 1))]] = some (.agg [zS (Rat.num (y)), zD (Rat.num (y)), zS (dz (y)), zD (dz (y))]) ∧
            M X 33 [.agg [zS (Rat.num (w.lx)), zD (Rat.num (w.lx)), zS (dz (w.lx)), zD (dz (w.lx)), zS (Rat.num (w.ly)), zD (Rat.num (w.ly)), zS (dz (w.ly)), zD (dz (w.ly)), zS (Rat.num (w.hx)), zD (Rat.num (w.hx)), zS (dz (w.hx)), zD (dz (w.hx)), zS (Rat.num (w.hy)), zD (Rat.num (w.hy)), zS (dz (w.hy)), zD (dz (w.hy))], .agg [zS (Rat.num (x)), zD (Rat.num (x)), zS (dz (x)), zD (dz (x)), zS (Rat.num (y)), zD (Rat.num (y)), zS (dz (y)), zD (dz (y))]] = some (.bool true) := by
          intro j hj
          obtain ⟨ox', oy', x, y, k1, k2, k3, k4, k5, k6⟩ := hpt s t1 t2 t3 j hj
          rw [q1] at k1
          injection k1 with k1
          injection k1 with k1
          simp only [List.cons.injEq, and_true] at k1
          obtain ⟨u1, u2, u3, u4, u5, u6, u7, u8⟩ := k1
          rw [← u1, ← u2, ← u3, ← u4] at k4
          rw [← u5, ← u6, ← u7, ← u8] at k5
          exact ⟨x, y, k2, k3, k4, k5, k6⟩
        clear hpt hti
        simp (maxSteps := 4000000) (disch := first | omega | (simp only [List.length_set, List.length_replicate, List.length_append, List.length_take, List.length_drop, List.length_cons, List.length_nil]; omega)) only [go_sem, reduceCtorEq, Nat.reduceEqDiff, Nat.reduceAdd, Nat.reduceMul, Nat.reduceSub, ↓Nat.reduceBEq, Nat.reduceLT, Nat.reduceLeDiff, Int.reduceLT, Int.reduceLE, Int.reduceNeg, Int.reduceToNat, g9, g10, g11, g12, g15, g21, g22, h72, h104, h136, h264, h928, hrl, d1, q1]
        refine W_loop X (fun (j : Nat) s => j ≤ c.length ∧ s.env 9 = .ro (ptC c) c.length false ∧ s.env 10 = .ptr 72 0 ∧ s.env 11 = .ptr 104 0 ∧ s.env 12 = .ptr 136 0 ∧ s.env 15 = .ptr 264 0 ∧ s.env 21 = .sl 928 0 3 (some 3) 4 ∧ s.env 22 = .int .i64 i ∧ s.env 23 = .ptr (nx + 32 + 64) 0 ∧ s.env 24 = .int .i64 j ∧
          s.heap 72 = some (.cells [zS (Rat.num (px)), zD (Rat.num (px)), zS (dz (px)), zD (dz (px)), zS (Rat.num (py)), zD (Rat.num (py)), zS (dz (py)), zD (dz (py))] false false) ∧ s.heap 104 = some (.cells [zS (Rat.num (vx)), zD (Rat.num (vx)), zS (dz (vx)), zD (dz (vx)), zS (Rat.num (vy)), zD (Rat.num (vy)), zS (dz (vy)), zD (dz (vy))] false false) ∧ s.heap 136 = some (.cells [zS (Rat.num (ax)), zD (Rat.num (ax)), zS (dz (ax)), zD (dz (ax)), zS (Rat.num (ay)), zD (Rat.num (ay)), zS (dz (ay)), zD (dz (ay))] false false) ∧ s.heap 264 = some (.cells [zS (Rat.num (w.lx)), zD (Rat.num (w.lx)), zS (dz (w.lx)), zD (dz (w.lx)), zS (Rat.num (w.ly)), zD (Rat.num (w.ly)), zS (dz (w.ly)), zD (dz (w.ly)), zS (Rat.num (w.hx)), zD (Rat.num (w.hx)), zS (dz (w.hx)), zD (dz (w.hx)), zS (Rat.num (w.hy)), zD (Rat.num (w.hy)), zS (dz (w.hy)), zD (dz (w.hy))] false false) ∧
          s.heap 928 = some (.cells (ratC tl) false false) ∧ s.heap (nx + 32 + 64) = some (.cells [zS (Rat.num (ox)), zD (Rat.num (ox)), zS (dz (ox)), zD (dz (ox)), zS (Rat.num (oy)), zD (Rat.num (oy)), zS (dz (oy)), zD (dz (oy))] false false) ∧ nx + 32 + 80 ≤ s.next) (fun j => c.length - j) ?_ 0 _ ?_
        · rintro j ⟨env, heap, nx2⟩ ⟨hj, g9, g10, g11, g12, g15, g21, g22, g23, g24, h72, h104, h136, h264, h928, ho, hnx2⟩
          simp only at g9 g10 g11 g12 g15 g21 g22 g23 g24 h72 h104 h136 h264 h928 ho hnx2
          by_cases h2 : j < c.length
          · obtain ⟨x, y, k2, k3, k4, k5, k6⟩ := q2 j h2
            have d2 := ptC_drop c j h2
            generalize ptC (c.drop (j + 1)) = dd at *
            simp (maxSteps := 4000000) (disch := first | omega | (simp only [List.length_set, List.length_replicate, List.length_append, List.length_take, List.length_drop, List.length_cons, List.length_nil]; omega)) only [go_sem, reduceCtorEq, Nat.reduceEqDiff, Nat.reduceAdd, Nat.reduceMul, Nat.reduceSub, ↓Nat.reduceBEq, Nat.reduceLT, Nat.reduceLeDiff, Int.reduceLT, Int.reduceLE, Int.reduceNeg, Int.reduceToNat, M_14, g9, g15, g23, g24, h264, ho, hcl, d2, k2, k3, k4, k5, k6]
            exact ⟨j + 1, ⟨by omega, g10, g11, g12, g21, g22, rfl, h72, h104, h136, h928, by omega⟩, by omega⟩
          · simp (maxSteps := 4000000) (disch := first | omega | (simp only [List.length_set, List.length_replicate, List.length_append, List.length_take, List.length_drop, List.length_cons, List.length_nil]; omega)) only [go_sem, reduceCtorEq, Nat.reduceEqDiff, Nat.reduceAdd, Nat.reduceMul, Nat.reduceSub, ↓Nat.reduceBEq, Nat.reduceLT, Nat.reduceLeDiff, Int.reduceLT, Int.reduceLE, Int.reduceNeg, Int.reduceToNat, g9, g22, g24]
            exact ⟨i + 1, ⟨by omega, g10, g11, g12, g15, g21, rfl, h72, h104, h136, h264, h928, by omega⟩, by omega⟩
        · simp (maxSteps := 4000000) (disch := first | omega | (simp only [List.length_set, List.length_replicate, List.length_append, List.length_take, List.length_drop, List.length_cons, List.length_nil]; omega)) only [go_sem, reduceCtorEq, Nat.reduceEqDiff, Nat.reduceAdd, Nat.reduceMul, Nat.reduceSub, ↓Nat.reduceBEq, Nat.reduceLT, Nat.reduceLeDiff, Int.reduceLT, Int.reduceLE, Int.reduceNeg, Int.reduceToNat, g9, g10, g11, g12, g15, g21, g22, h72, h104, h136, h264, h928]
          omega
      · simp (maxSteps := 4000000) (disch := first | omega | (simp only [List.length_set, List.length_replicate, List.length_append, List.length_take, List.length_drop, List.length_cons, List.length_nil]; omega)) only [go_sem, reduceCtorEq, Nat.reduceEqDiff, Nat.reduceAdd, Nat.reduceMul, Nat.reduceSub, ↓Nat.reduceBEq, Nat.reduceLT, Nat.reduceLeDiff, Int.reduceLT, Int.reduceLE, Int.reduceNeg, Int.reduceToNat, g21, g22, hL]
    · simp (maxSteps := 4000000) (disch := first | omega | (simp only [List.length_set, List.length_replicate, List.length_append, List.length_take, List.length_drop, List.length_cons, List.length_nil]; omega)) only [go_sem, reduceCtorEq, Nat.reduceEqDiff, Nat.reduceAdd, Nat.reduceMul, Nat.reduceSub, ↓Nat.reduceBEq, Nat.reduceLT, Nat.reduceLeDiff, Int.reduceLT, Int.reduceLE, Int.reduceNeg, Int.reduceToNat]
end Go.Proofs.YtjccikgdebgebaaGreatDoor.Abs
end
