/-
  Package rat: Add, Mul, Div, Compare, by value. No conditions. Package gantryref05: the reference model of package rat, by value. No conditions. Packages gantryref01 and gantryref14: numbers made from numbers, ways. No conditions. Ways: the least and the greatest value of a coordinate, in the program and in the reference model. No conditions. Package broad: extremes and way. No conditions.
-/
import Derived.Test.YtjccikgdebgebaaGreatDoorQ07
set_option linter.unusedSimpArgs false
set_option linter.unusedVariables false
section
set_option linter.unusedSimpArgs false
namespace Go.Proofs.YtjccikgdebgebaaGreatDoor.Abs
open Go
theorem num_add_one {x y : Rat} (hx : x.den = 1) (hy : y.den = 1) : (x + y).num = x.num + y.num ∧ dz (x + y) = 0 := by
  have e : x + y = Rat.divInt (x.num + y.num) 1 := by
    rw [add_divInt, hx, hy]; simp
  obtain ⟨e1, e2⟩ := dI (p := x.num + y.num) (q := 1) (by decide) (by simp [Int.gcd])
  rw [e]; exact ⟨e1, dz_one (by omega)⟩
theorem num_mul_one {x y : Rat} (hx : x.den = 1) (hy : y.den = 1) : (x * y).num = x.num * y.num ∧ dz (x * y) = 0 := by
  have e : x * y = Rat.divInt (x.num * y.num) 1 := by
    rw [mul_divInt, hx, hy]; simp
  obtain ⟨e1, e2⟩ := dI (p := x.num * y.num) (q := 1) (by decide) (by simp [Int.gcd])
  rw [e]; exact ⟨e1, dz_one (by omega)⟩
theorem zz_agg (a b : AV) : AV.agg [a, b, .bool false, .ro [] 0 false] = AV.agg [a, b, zS 0, zD 0] := by rw [zz_nil, zz_false]
set_option maxRecDepth 100000 in
theorem M_52 [SpC] {x y : Rat} {n m : Nat} [hx : RS x n] [hy : RS y m] (h : n + m < 2 ^ 26) : M X 52 [.agg [zS (Rat.num (x)), zD (Rat.num (x)), zS (dz (x)), zD (dz (x))], .agg [zS (Rat.num (y)), zD (Rat.num (y)), zS (dz (y)), zD (dz (y))]] = some (.agg [zS (Rat.num (x + y)), zD (Rat.num (x + y)), zS (dz (x + y)), zD (dz (x + y))]) := by
  refine M_of X (fn := Tryz.f52) Tryz.func52 rfl ok_52 mode_52 res_52 _ rfl _ ?_
  intro r hr
  have a1 := hx.num; have a2 := hx.den; have a3 := hy.num; have a4 := hy.den
  by_cases h1 : x.den = 1 ∧ y.den = 1
  · have z1 := nd_zero (dz x) (dz_one h1.1)
    have z2 := nd_zero (dz y) (dz_one h1.2)
    obtain ⟨e1, e2⟩ := num_add_one h1.1 h1.2
    have ha := M_93 x.num y.num (by omega) (by omega)
    simp (maxSteps := 4000000) (disch := first | omega | (simp only [List.length_set, List.length_replicate, List.length_append, List.length_take, List.length_drop, List.length_cons, List.length_nil]; omega)) only [go_sem, reduceCtorEq, Nat.reduceEqDiff, Nat.reduceAdd, Nat.reduceMul, Nat.reduceSub, ↓Nat.reduceBEq, Nat.reduceLT, Nat.reduceLeDiff, Int.reduceLT, Int.reduceLE, Int.reduceNeg, Int.reduceToNat, z1, z2, mode_93, ha]
    rw [hr, zz_agg, e1, e2]
  · have hz : (nd (dz x) = 0 ∧ ¬ nd (dz y) = 0) ∨ ¬ nd (dz x) = 0 := by
      have hp1 := den_pos x
      have hp2 := den_pos y
      by_cases hx1 : x.den = 1
      · have hy1 : y.den ≠ 1 := fun h => h1 ⟨hx1, h⟩
        have := nd_pos (dz y) (by rw [dz_ne hy1]; omega)
        exact .inl ⟨nd_zero _ (dz_one hx1), by omega⟩
      · have := nd_pos (dz x) (by rw [dz_ne hx1]; omega)
        exact .inr (by omega)
    by_cases h2 : x.num = 0
    · have z0 := nd_zero _ h2
      have e : x + y = y := by rw [(num_zero_iff x).1 h2, Rat.zero_add]
      rcases hz with ⟨z1, z2⟩ | z1
      all_goals
        simp (maxSteps := 4000000) (disch := first | omega | (simp only [List.length_set, List.length_replicate, List.length_append, List.length_take, List.length_drop, List.length_cons, List.length_nil]; omega)) only [go_sem, reduceCtorEq, Nat.reduceEqDiff, Nat.reduceAdd, Nat.reduceMul, Nat.reduceSub, ↓Nat.reduceBEq, Nat.reduceLT, Nat.reduceLeDiff, Int.reduceLT, Int.reduceLE, Int.reduceNeg, Int.reduceToNat, z1, z0]
        rw [hr, e]
    · have p0 := nd_pos _ h2
      by_cases h3 : y.num = 0
      · have z0 := nd_zero _ h3
        have e : x + y = x := by rw [(num_zero_iff y).1 h3, Rat.add_zero]
        rcases hz with ⟨z1, z2⟩ | z1
        all_goals
          simp (maxSteps := 4000000) (disch := first | omega | (simp only [List.length_set, List.length_replicate, List.length_append, List.length_take, List.length_drop, List.length_cons, List.length_nil]; omega)) only [go_sem, reduceCtorEq, Nat.reduceEqDiff, Nat.reduceAdd, Nat.reduceMul, Nat.reduceSub, ↓Nat.reduceBEq, Nat.reduceLT, Nat.reduceLeDiff, Int.reduceLT, Int.reduceLE, Int.reduceNeg, Int.reduceToNat, z1, z0]
          rw [hr, e]
      · have p1 := nd_pos _ h3
        have b1 := nd_mul x.num y.den; have b2 := nd_mul y.num x.den; have b3 := nd_mul (x.den : Int) y.den
        have b4 := nd_add (x.num * y.den) (y.num * x.den)
        have m1 := M_96 x.num y.den (by omega) (by omega)
        have m2 := M_96 y.num x.den (by omega) (by omega)
        have m3 := M_96 x.den y.den (by omega) (by omega)
        have m4 := M_93 (x.num * y.den) (y.num * x.den) (by omega) (by omega)
        have m5 := M_95 (x.num * y.den + y.num * x.den) (x.den * y.den) (by omega) (by omega)
        have d1 := M_94 x
        have d2 := M_94 y
        rw [← add_divInt] at m5
        rcases hz with ⟨z1, z2⟩ | z1
        all_goals
          simp (maxSteps := 4000000) (disch := first | omega | (simp only [List.length_set, List.length_replicate, List.length_append, List.length_take, List.length_drop, List.length_cons, List.length_nil]; omega)) only [go_sem, reduceCtorEq, Nat.reduceEqDiff, Nat.reduceAdd, Nat.reduceMul, Nat.reduceSub, ↓Nat.reduceBEq, Nat.reduceLT, Nat.reduceLeDiff, Int.reduceLT, Int.reduceLE, Int.reduceNeg, Int.reduceToNat, z1, mode_94, mode_95, mode_96, mode_93, d1, d2, m1, m2, m3, m4, m5]
          rw [hr]
theorem red (x : Rat) : Int.gcd x.num x.den = 1 := x.reduced
theorem num_divInt_dvd {p q : Int} (hq : 0 < q) : (Rat.divInt p q).num ∣ p ∧ ((Rat.divInt p q).den : Int) ∣ q := by
  obtain ⟨h1, h2, h3⟩ := divInt_gcd (p := p) (q := q) (by omega)
  have k1 : p / Int.gcd p q * Int.gcd p q = p := Int.ediv_mul_cancel (Int.gcd_dvd_left ..)
  have k2 : q / Int.gcd p q * Int.gcd p q = q := Int.ediv_mul_cancel (Int.gcd_dvd_right ..)
  have hpos : 0 < q / Int.gcd p q := by
    have : 0 ≤ q / Int.gcd p q := Int.ediv_nonneg (by omega) (by omega)
    omega
  obtain ⟨e1, e2⟩ := dI hpos h2
  rw [h1] at e1 e2
  rw [e1, e2]
  exact ⟨⟨_, k1.symm⟩, ⟨_, k2.symm⟩⟩
theorem gcd_mul_one {a b c : Nat} (h1 : Nat.gcd a c = 1) (h2 : Nat.gcd b c = 1) : Nat.gcd (a * b) c = 1 := Nat.Coprime.mul_left h1 h2
theorem cop_dvd {a b c d : Nat} (h1 : a ∣ c) (h2 : b ∣ d) (h : Nat.gcd c d = 1) : Nat.gcd a b = 1 :=
  Nat.dvd_one.1 (h ▸ Nat.dvd_gcd (Nat.dvd_trans (Nat.gcd_dvd_left a b) h1) (Nat.dvd_trans (Nat.gcd_dvd_right a b) h2))
theorem mul_lowest (x y : Rat) : x * y = Rat.divInt ((Rat.divInt x.num y.den).num * (Rat.divInt y.num x.den).num) ((Rat.divInt x.num y.den).den * (Rat.divInt y.num x.den).den) ∧
    Int.gcd ((Rat.divInt x.num y.den).num * (Rat.divInt y.num x.den).num) ((Rat.divInt x.num y.den).den * (Rat.divInt y.num x.den).den) = 1 := by
  have hx := den_pos x
  have hy := den_pos y
  obtain ⟨u1, u2⟩ := num_divInt_dvd (p := x.num) (q := y.den) (by omega)
  obtain ⟨v1, v2⟩ := num_divInt_dvd (p := y.num) (q := x.den) (by omega)
  have hu := red (Rat.divInt x.num y.den)
  have hv := red (Rat.divInt y.num x.den)
  have e : x * y = Rat.divInt x.num y.den * Rat.divInt y.num x.den := by
    rw [Rat.divInt_mul_divInt, mul_divInt, Int.mul_comm (x.den : Int)]
  refine ⟨by rw [e, mul_divInt], ?_⟩
  generalize Rat.divInt x.num y.den = u at *
  generalize Rat.divInt y.num x.den = v at *
  have rx := red x
  have ry := red y
  unfold Int.gcd at *
  rw [Int.natAbs_mul, Int.natAbs_mul]
  rw [Int.natAbs_natCast] at *
  have w1 : Nat.gcd u.num.natAbs v.den = 1 := cop_dvd (Int.natAbs_dvd_natAbs.2 u1) (by exact_mod_cast v2) rx
  have w2 : Nat.gcd v.num.natAbs u.den = 1 := cop_dvd (Int.natAbs_dvd_natAbs.2 v1) (by exact_mod_cast u2) ry
  refine Nat.Coprime.mul_left (Nat.Coprime.mul_right hu w1) (Nat.Coprime.mul_right w2 hv)
set_option maxRecDepth 100000 in
theorem M_123 [SpC] {x y : Rat} {n m : Nat} [hx : RS x n] [hy : RS y m] (h : n + m < 2 ^ 26) : M X 123 [.agg [zS (Rat.num (x)), zD (Rat.num (x)), zS (dz (x)), zD (dz (x))], .agg [zS (Rat.num (y)), zD (Rat.num (y)), zS (dz (y)), zD (dz (y))]] = some (.agg [zS (Rat.num (x * y)), zD (Rat.num (x * y)), zS (dz (x * y)), zD (dz (x * y))]) := by
  refine M_of X (fn := Tryz.f123) Tryz.func123 rfl ok_123 mode_123 res_123 _ rfl _ ?_
  intro r hr
  have a1 := hx.num; have a2 := hx.den; have a3 := hy.num; have a4 := hy.den
  by_cases h2 : x.num = 0
  · have z0 := nd_zero _ h2
    simp (maxSteps := 4000000) (disch := first | omega | (simp only [List.length_set, List.length_replicate, List.length_append, List.length_take, List.length_drop, List.length_cons, List.length_nil]; omega)) only [go_sem, reduceCtorEq, Nat.reduceEqDiff, Nat.reduceAdd, Nat.reduceMul, Nat.reduceSub, ↓Nat.reduceBEq, Nat.reduceLT, Nat.reduceLeDiff, Int.reduceLT, Int.reduceLE, Int.reduceNeg, Int.reduceToNat, z0]
    rw [hr, zz_rat, (num_zero_iff x).1 h2, Rat.zero_mul]
  · have p0 := nd_pos _ h2
    by_cases h3 : y.num = 0
    · have z0 := nd_zero _ h3
      simp (maxSteps := 4000000) (disch := first | omega | (simp only [List.length_set, List.length_replicate, List.length_append, List.length_take, List.length_drop, List.length_cons, List.length_nil]; omega)) only [go_sem, reduceCtorEq, Nat.reduceEqDiff, Nat.reduceAdd, Nat.reduceMul, Nat.reduceSub, ↓Nat.reduceBEq, Nat.reduceLT, Nat.reduceLeDiff, Int.reduceLT, Int.reduceLE, Int.reduceNeg, Int.reduceToNat, z0]
      rw [hr, zz_rat, (num_zero_iff y).1 h3, Rat.mul_zero]
    · have p1 := nd_pos _ h3
      have b0 := nd_mul x.num y.num
      by_cases h1 : x.den = 1 ∧ y.den = 1
      · have z1 := nd_zero (dz x) (dz_one h1.1)
        have z2 := nd_zero (dz y) (dz_one h1.2)
        obtain ⟨e1, e2⟩ := num_mul_one h1.1 h1.2
        have ha := M_96 x.num y.num (by omega) (by omega)
        simp (maxSteps := 4000000) (disch := first | omega | (simp only [List.length_set, List.length_replicate, List.length_append, List.length_take, List.length_drop, List.length_cons, List.length_nil]; omega)) only [go_sem, reduceCtorEq, Nat.reduceEqDiff, Nat.reduceAdd, Nat.reduceMul, Nat.reduceSub, ↓Nat.reduceBEq, Nat.reduceLT, Nat.reduceLeDiff, Int.reduceLT, Int.reduceLE, Int.reduceNeg, Int.reduceToNat, z1, z2, mode_96, ha]
        rw [hr, zz_agg, e1, e2]
      · have hz : (nd (dz x) = 0 ∧ ¬ nd (dz y) = 0) ∨ ¬ nd (dz x) = 0 := by
          have hp1 := den_pos x
          have hp2 := den_pos y
          by_cases hx1 : x.den = 1
          · have hy1 : y.den ≠ 1 := fun h => h1 ⟨hx1, h⟩
            have := nd_pos (dz y) (by rw [dz_ne hy1]; omega)
            exact .inl ⟨nd_zero _ (dz_one hx1), by omega⟩
          · have := nd_pos (dz x) (by rw [dz_ne hx1]; omega)
            exact .inr (by omega)
        obtain ⟨e1, e2⟩ := mul_lowest x y
        have k1 := M_95 x.num y.den (by omega) (by omega)
        have k2 := M_95 y.num x.den (by omega) (by omega)
        have ru := rs_divInt (p := x.num) (q := y.den) (n := n + m) (by omega) (by omega) (by omega)
        have rv := rs_divInt (p := y.num) (q := x.den) (n := n + m) (by omega) (by omega) (by omega)
        have d1 := M_94 x
        have d2 := M_94 y
        have d3 := M_94 (Rat.divInt x.num y.den)
        have d4 := M_94 (Rat.divInt y.num x.den)
        have c1 := ru.num; have c2 := ru.den; have c3 := rv.num; have c4 := rv.den
        have c5 := den_pos (Rat.divInt x.num y.den)
        have c6 := den_pos (Rat.divInt y.num x.den)
        have c7 : (((Rat.divInt x.num y.den).den : Int) * (Rat.divInt y.num x.den).den) ≠ 0 := Int.mul_ne_zero (by omega) (by omega)
        generalize Rat.divInt x.num y.den = u at *
        generalize Rat.divInt y.num x.den = v at *
        have b1 := nd_mul u.num v.num; have b2 := nd_mul (u.den : Int) v.den
        have m1 := M_96 u.num v.num (by omega) (by omega)
        have m2 := M_96 u.den v.den (by omega) (by omega)
        have m3 := M_125 (u.num * v.num) (u.den * v.den) (by omega) (by omega) c7 e2
        rw [← e1] at m3
        rcases hz with ⟨z1, z2⟩ | z1
        all_goals
          simp (maxSteps := 4000000) (disch := first | omega | (simp only [List.length_set, List.length_replicate, List.length_append, List.length_take, List.length_drop, List.length_cons, List.length_nil]; omega)) only [go_sem, reduceCtorEq, Nat.reduceEqDiff, Nat.reduceAdd, Nat.reduceMul, Nat.reduceSub, ↓Nat.reduceBEq, Nat.reduceLT, Nat.reduceLeDiff, Int.reduceLT, Int.reduceLE, Int.reduceNeg, Int.reduceToNat, z1, mode_94, mode_95, mode_96, mode_125, d1, d2, d3, d4, k1, k2, m1, m2, m3]
          rw [hr]
theorem inv_divInt' (x : Rat) : x⁻¹ = Rat.divInt x.den x.num := Rat.inv_def x
instance rs_inv {x : Rat} {n : Nat} [hx : RS x n] : RS (x⁻¹) n := by
  have := nd_den_pos x
  have a2 := hx.den
  rw [inv_divInt']; exact rs_divInt (by omega) hx.den hx.num
set_option maxRecDepth 100000 in
theorem M_92 [SpC] {x y : Rat} {n m : Nat} [hx : RS x n] [hy : RS y m] (h : n + m < 2 ^ 26) : M X 92 [.agg [zS (Rat.num (x)), zD (Rat.num (x)), zS (dz (x)), zD (dz (x))], .agg [zS (Rat.num (y)), zD (Rat.num (y)), zS (dz (y)), zD (dz (y))]] = some (.agg [zS (Rat.num (x / y)), zD (Rat.num (x / y)), zS (dz (x / y)), zD (dz (x / y))]) := by
  refine M_of X (fn := Tryz.f92) Tryz.func92 rfl ok_92 mode_92 res_92 _ rfl _ ?_
  intro r hr
  have a1 := hx.num; have a2 := hx.den; have a3 := hy.num; have a4 := hy.den
  by_cases h2 : y.num = 0
  · have z0 := nd_zero _ h2
    simp (maxSteps := 4000000) (disch := first | omega | (simp only [List.length_set, List.length_replicate, List.length_append, List.length_take, List.length_drop, List.length_cons, List.length_nil]; omega)) only [go_sem, reduceCtorEq, Nat.reduceEqDiff, Nat.reduceAdd, Nat.reduceMul, Nat.reduceSub, ↓Nat.reduceBEq, Nat.reduceLT, Nat.reduceLeDiff, Int.reduceLT, Int.reduceLE, Int.reduceNeg, Int.reduceToNat, z0]
    rw [hr, zz_rat, (num_zero_iff y).1 h2, Rat.div_def, Rat.inv_zero, Rat.mul_zero]
  · have p0 := nd_pos _ h2
    have d := M_94 y
    have l := M_125 y.den y.num (by omega) (by omega) h2 (by rw [Int.gcd_comm]; exact red y)
    have k := M_123 (x := x) (y := y⁻¹) (n := n) (m := m) (by omega)
    rw [← Rat.div_def] at k
    rw [← inv_divInt'] at l
    simp (maxSteps := 4000000) (disch := first | omega | (simp only [List.length_set, List.length_replicate, List.length_append, List.length_take, List.length_drop, List.length_cons, List.length_nil]; omega)) only [go_sem, reduceCtorEq, Nat.reduceEqDiff, Nat.reduceAdd, Nat.reduceMul, Nat.reduceSub, ↓Nat.reduceBEq, Nat.reduceLT, Nat.reduceLeDiff, Int.reduceLT, Int.reduceLE, Int.reduceNeg, Int.reduceToNat, mode_94, mode_125, mode_123, d, l, k]
    rw [hr]
theorem cmpQ_of_sign {x y : Rat} (h : cmpQ x 0 ≠ cmpQ y 0 ∨ cmpQ x 0 = 0) : cmpZ (cmpQ x 0) (cmpQ y 0) = cmpQ x y := by
  unfold cmpQ cmpZ at *
  grind
set_option maxRecDepth 100000 in
theorem M_59 [SpC] {x y : Rat} {n m : Nat} [hx : RS x n] [hy : RS y m] (h : n + m < 2 ^ 26) : M X 59 [.agg [zS (Rat.num (x)), zD (Rat.num (x)), zS (dz (x)), zD (dz (x))], .agg [zS (Rat.num (y)), zD (Rat.num (y)), zS (dz (y)), zD (dz (y))]] = some (.int .i64 (cmpQ x y)) := by
  refine M_of X (fn := Tryz.f59) Tryz.func59 rfl ok_59 mode_59 res_59 _ rfl _ ?_
  intro r hr
  have a1 := hx.num; have a2 := hx.den; have a3 := hy.num; have a4 := hy.den
  have s1 := M_82 x
  have s2 := M_82 y
  have bx : -1 ≤ cmpQ x 0 ∧ cmpQ x 0 ≤ 1 := by unfold cmpQ; split <;> (try split) <;> omega
  have by' : -1 ≤ cmpQ y 0 ∧ cmpQ y 0 ≤ 1 := by unfold cmpQ; split <;> (try split) <;> omega
  have hs := @cmpQ_of_sign x y
  by_cases h1 : cmpQ x 0 ≠ cmpQ y 0 ∨ cmpQ x 0 = 0
  · have hs := hs h1
    generalize cmpQ x 0 = sx at *
    generalize cmpQ y 0 = sy at *
    have o1 := M_97 sx (by omega)
    have o2 := M_97 sy (by omega)
    have n1 := nd_small sx (by omega)
    have n2 := nd_small sy (by omega)
    have c := M_101 sx sy (by omega) (by omega)
    rw [hs] at c
    by_cases h2 : sx = sy
    · have h3 : sx = 0 := by rcases h1 with h | h; exact absurd h2 h; exact h
      simp (maxSteps := 4000000) (disch := first | omega | (simp only [List.length_set, List.length_replicate, List.length_append, List.length_take, List.length_drop, List.length_cons, List.length_nil]; omega)) only [go_sem, reduceCtorEq, Nat.reduceEqDiff, Nat.reduceAdd, Nat.reduceMul, Nat.reduceSub, ↓Nat.reduceBEq, Nat.reduceLT, Nat.reduceLeDiff, Int.reduceLT, Int.reduceLE, Int.reduceNeg, Int.reduceToNat, mode_82, mode_97, mode_101, s1, s2, o1, o2, c]
      rw [hr]
    · simp (maxSteps := 4000000) (disch := first | omega | (simp only [List.length_set, List.length_replicate, List.length_append, List.length_take, List.length_drop, List.length_cons, List.length_nil]; omega)) only [go_sem, reduceCtorEq, Nat.reduceEqDiff, Nat.reduceAdd, Nat.reduceMul, Nat.reduceSub, ↓Nat.reduceBEq, Nat.reduceLT, Nat.reduceLeDiff, Int.reduceLT, Int.reduceLE, Int.reduceNeg, Int.reduceToNat, mode_82, mode_97, mode_101, s1, s2, o1, o2, c]
      rw [hr]
  · have h2 : cmpQ x 0 = cmpQ y 0 := Classical.byContradiction fun hh => h1 (.inl hh)
    have h3 : cmpQ x 0 ≠ 0 := fun hh => h1 (.inr hh)
    clear hs h1
    generalize cmpQ x 0 = sx at *
    generalize cmpQ y 0 = sy at *
    have b1 := nd_mul x.num y.den; have b2 := nd_mul y.num x.den
    have d1 := M_94 x
    have d2 := M_94 y
    have m1 := M_96 x.num y.den (by omega) (by omega)
    have m2 := M_96 y.num x.den (by omega) (by omega)
    have c := M_101 (x.num * y.den) (y.num * x.den) (by omega) (by omega)
    rw [cmpQ_num] at c
    simp (maxSteps := 4000000) (disch := first | omega | (simp only [List.length_set, List.length_replicate, List.length_append, List.length_take, List.length_drop, List.length_cons, List.length_nil]; omega)) only [go_sem, reduceCtorEq, Nat.reduceEqDiff, Nat.reduceAdd, Nat.reduceMul, Nat.reduceSub, ↓Nat.reduceBEq, Nat.reduceLT, Nat.reduceLeDiff, Int.reduceLT, Int.reduceLE, Int.reduceNeg, Int.reduceToNat, mode_82, mode_94, mode_96, mode_101, s1, s2, d1, d2, m1, m2, c]
    rw [hr]
end Go.Proofs.YtjccikgdebgebaaGreatDoor.Abs
end
section
set_option linter.unusedSimpArgs false
namespace Go.Proofs.YtjccikgdebgebaaGreatDoor.Abs
open Go
set_option maxRecDepth 100000 in
theorem M_105 [SpC] (x : Int) (hx : nd x < 2 ^ 40) : M X 105 [.agg [zS x, zD x]] = some (.bool (decide (x = 1))) := by
  refine M_of X (fn := Tryz.f105) Tryz.func105 rfl ok_105 mode_105 res_105 _ rfl _ ?_
  intro r hr
  by_cases h0 : x = 0
  · have := nd_zero x h0
    simp (maxSteps := 4000000) (disch := first | omega | (simp only [List.length_set, List.length_replicate, List.length_append, List.length_take, List.length_drop, List.length_cons, List.length_nil]; omega)) only [go_sem, reduceCtorEq, Nat.reduceEqDiff, Nat.reduceAdd, Nat.reduceMul, Nat.reduceSub, ↓Nat.reduceBEq, Nat.reduceLT, Nat.reduceLeDiff, Int.reduceLT, Int.reduceLE, Int.reduceNeg, Int.reduceToNat, zS_pos x (by omega)]
    rw [hr, decide_eq_false (by omega)]
  · by_cases h1 : x.natAbs < 1000000000
    · rw [zD_one x h0 h1]
      by_cases h2 : x < 0
      · simp (maxSteps := 4000000) (disch := first | omega | (simp only [List.length_set, List.length_replicate, List.length_append, List.length_take, List.length_drop, List.length_cons, List.length_nil]; omega)) only [go_sem, reduceCtorEq, Nat.reduceEqDiff, Nat.reduceAdd, Nat.reduceMul, Nat.reduceSub, ↓Nat.reduceBEq, Nat.reduceLT, Nat.reduceLeDiff, Int.reduceLT, Int.reduceLE, Int.reduceNeg, Int.reduceToNat, zS_neg x h2]
        rw [hr, decide_eq_false (by omega)]
      · by_cases h3 : x = 1
        · subst h3
          simp (maxSteps := 4000000) (disch := first | omega | (simp only [List.length_set, List.length_replicate, List.length_append, List.length_take, List.length_drop, List.length_cons, List.length_nil]; omega)) only [go_sem, reduceCtorEq, Nat.reduceEqDiff, Nat.reduceAdd, Nat.reduceMul, Nat.reduceSub, ↓Nat.reduceBEq, Nat.reduceLT, Nat.reduceLeDiff, Int.reduceLT, Int.reduceLE, Int.reduceNeg, Int.reduceToNat, zS_pos 1 (by omega)]
          rw [hr]; rfl
        · simp (maxSteps := 4000000) (disch := first | omega | (simp only [List.length_set, List.length_replicate, List.length_append, List.length_take, List.length_drop, List.length_cons, List.length_nil]; omega)) only [go_sem, reduceCtorEq, Nat.reduceEqDiff, Nat.reduceAdd, Nat.reduceMul, Nat.reduceSub, ↓Nat.reduceBEq, Nat.reduceLT, Nat.reduceLeDiff, Int.reduceLT, Int.reduceLE, Int.reduceNeg, Int.reduceToNat, zS_pos x (Int.not_lt.1 h2)]
          rw [hr, decide_eq_false h3]
    · have := nd_le_one x
      by_cases h2 : x < 0
      · simp (maxSteps := 4000000) (disch := first | omega | (simp only [List.length_set, List.length_replicate, List.length_append, List.length_take, List.length_drop, List.length_cons, List.length_nil]; omega)) only [go_sem, reduceCtorEq, Nat.reduceEqDiff, Nat.reduceAdd, Nat.reduceMul, Nat.reduceSub, ↓Nat.reduceBEq, Nat.reduceLT, Nat.reduceLeDiff, Int.reduceLT, Int.reduceLE, Int.reduceNeg, Int.reduceToNat, zS_neg x h2]
        rw [hr, decide_eq_false (by omega)]
      · simp (maxSteps := 4000000) (disch := first | omega | (simp only [List.length_set, List.length_replicate, List.length_append, List.length_take, List.length_drop, List.length_cons, List.length_nil]; omega)) only [go_sem, reduceCtorEq, Nat.reduceEqDiff, Nat.reduceAdd, Nat.reduceMul, Nat.reduceSub, ↓Nat.reduceBEq, Nat.reduceLT, Nat.reduceLeDiff, Int.reduceLT, Int.reduceLE, Int.reduceNeg, Int.reduceToNat, zS_pos x (Int.not_lt.1 h2)]
        rw [hr, decide_eq_false (by omega)]
set_option maxRecDepth 100000 in
theorem M_67 [SpC] (x : Rat) : M X 67 [.agg [zS (Rat.num (x)), zD (Rat.num (x)), zS (dz (x)), zD (dz (x))]] = some (.agg [zS x.den, zD x.den]) := by
  refine M_of X (fn := Tryz.f67) Tryz.func67 rfl ok_67 mode_67 res_67 _ rfl _ ?_
  intro r hr
  by_cases h : x.den = 1
  · have h0 := nd_zero (dz x) (dz_one h)
    have h1 := M_64 1 (by omega)
    simp (maxSteps := 4000000) (disch := first | omega | (simp only [List.length_set, List.length_replicate, List.length_append, List.length_take, List.length_drop, List.length_cons, List.length_nil]; omega)) only [go_sem, reduceCtorEq, Nat.reduceEqDiff, Nat.reduceAdd, Nat.reduceMul, Nat.reduceSub, ↓Nat.reduceBEq, Nat.reduceLT, Nat.reduceLeDiff, Int.reduceLT, Int.reduceLE, Int.reduceNeg, Int.reduceToNat, h0, mode_64, h1]
    rw [hr, h]; rfl
  · have e := dz_ne h
    have h0 := nd_pos (dz x) (by have := den_pos x; omega)
    simp (maxSteps := 4000000) (disch := first | omega | (simp only [List.length_set, List.length_replicate, List.length_append, List.length_take, List.length_drop, List.length_cons, List.length_nil]; omega)) only [go_sem, reduceCtorEq, Nat.reduceEqDiff, Nat.reduceAdd, Nat.reduceMul, Nat.reduceSub, ↓Nat.reduceBEq, Nat.reduceLT, Nat.reduceLeDiff, Int.reduceLT, Int.reduceLE, Int.reduceNeg, Int.reduceToNat]
    rw [hr, e]
set_option maxRecDepth 100000 in
theorem M_63 [SpC] (p q : Int) (hp : nd p < 2 ^ 26) (hq : nd q < 2 ^ 26) : M X 63 [.agg [zS p, zD p], .agg [zS q, zD q]] = some (.agg [zS (Rat.num (Rat.divInt p q)), zD (Rat.num (Rat.divInt p q)), zS (dz (Rat.divInt p q)), zD (dz (Rat.divInt p q))]) := by
  refine M_of X (fn := Tryz.f63) Tryz.func63 rfl ok_63 mode_63 res_63 _ rfl _ ?_
  intro r hr
  by_cases h0 : q = 0
  · have n0 := nd_zero q h0
    simp (maxSteps := 4000000) (disch := first | omega | (simp only [List.length_set, List.length_replicate, List.length_append, List.length_take, List.length_drop, List.length_cons, List.length_nil]; omega)) only [go_sem, reduceCtorEq, Nat.reduceEqDiff, Nat.reduceAdd, Nat.reduceMul, Nat.reduceSub, ↓Nat.reduceBEq, Nat.reduceLT, Nat.reduceLeDiff, Int.reduceLT, Int.reduceLE, Int.reduceNeg, Int.reduceToNat, n0]
    rw [hr, zz_rat, h0, Rat.divInt_zero]
  · have nq := nd_pos q h0
    by_cases h1 : p = 0
    · have n0 := nd_zero p h1
      simp (maxSteps := 4000000) (disch := first | omega | (simp only [List.length_set, List.length_replicate, List.length_append, List.length_take, List.length_drop, List.length_cons, List.length_nil]; omega)) only [go_sem, reduceCtorEq, Nat.reduceEqDiff, Nat.reduceAdd, Nat.reduceMul, Nat.reduceSub, ↓Nat.reduceBEq, Nat.reduceLT, Nat.reduceLeDiff, Int.reduceLT, Int.reduceLE, Int.reduceNeg, Int.reduceToNat, n0]
      rw [hr, zz_rat, h1, Rat.zero_divInt]
    · have np := nd_pos p h1
      have hg := M_102 p q (by omega) (by omega)
      have gl : nd (Int.gcd p q : Int) ≤ nd q := nd_mono (by have := Nat.le_of_dvd (by omega) (Nat.gcd_dvd_right p.natAbs q.natAbs); exact this)
      obtain ⟨g1, g2, g3⟩ := divInt_gcd (p := p) h0
      have g0 : (Int.gcd p q : Int) ≠ 0 := by
        intro h
        have : Int.gcd p q = 0 := by omega
        exact h0 (Int.gcd_eq_zero_iff.1 this).2
      have hd1 := M_103 p (Int.gcd p q) (by omega) (by omega) g0
      have hd2 := M_103 q (Int.gcd p q) (by omega) (by omega) g0
      have k1 : nd (p / Int.gcd p q) ≤ nd p := nd_mono (by rw [Int.natAbs_ediv_of_dvd (Int.gcd_dvd_left ..)]; exact Nat.div_le_self _ _)
      have k2 : nd (q / Int.gcd p q) ≤ nd q := nd_mono (by rw [Int.natAbs_ediv_of_dvd (Int.gcd_dvd_right ..)]; exact Nat.div_le_self _ _)
      rw [← g1] at hr
      generalize p / Int.gcd p q = a at *
      generalize q / Int.gcd p q = b at *
      by_cases hb : b < 0
      · have n1 := M_104 a (by omega)
        have n2 := M_104 b (by omega)
        have u := M_105 (-b) (by rw [nd_neg]; omega)
        obtain ⟨e1, e2⟩ := dI (p := -a) (q := -b) (by omega) (by rw [gcd_neg_neg]; exact g2)
        rw [divInt_neg_neg] at e1 e2
        rw [zS_neg b hb] at hd2 n2
        by_cases h2 : -b = 1
        · rw [decide_eq_true h2] at u
          simp (maxSteps := 4000000) (disch := first | omega | (simp only [List.length_set, List.length_replicate, List.length_append, List.length_take, List.length_drop, List.length_cons, List.length_nil]; omega)) only [go_sem, reduceCtorEq, Nat.reduceEqDiff, Nat.reduceAdd, Nat.reduceMul, Nat.reduceSub, ↓Nat.reduceBEq, Nat.reduceLT, Nat.reduceLeDiff, Int.reduceLT, Int.reduceLE, Int.reduceNeg, Int.reduceToNat, mode_102, mode_103, mode_104, mode_105, hg, hd1, hd2, n1, n2, u]
          rw [hr, dz_one (by omega), e1, zz_nil, zz_false]
        · rw [decide_eq_false h2] at u
          simp (maxSteps := 4000000) (disch := first | omega | (simp only [List.length_set, List.length_replicate, List.length_append, List.length_take, List.length_drop, List.length_cons, List.length_nil]; omega)) only [go_sem, reduceCtorEq, Nat.reduceEqDiff, Nat.reduceAdd, Nat.reduceMul, Nat.reduceSub, ↓Nat.reduceBEq, Nat.reduceLT, Nat.reduceLeDiff, Int.reduceLT, Int.reduceLE, Int.reduceNeg, Int.reduceToNat, mode_102, mode_103, mode_104, mode_105, hg, hd1, hd2, n1, n2, u]
          rw [hr, dz_ne (by omega), e1, e2]
      · have u := M_105 b (by omega)
        obtain ⟨e1, e2⟩ := dI (p := a) (q := b) (by omega) g2
        have hs := zS_pos b (Int.not_lt.1 hb)
        by_cases h2 : b = 1
        · rw [decide_eq_true h2] at u
          rw [hs] at u hd2
          simp (maxSteps := 4000000) (disch := first | omega | (simp only [List.length_set, List.length_replicate, List.length_append, List.length_take, List.length_drop, List.length_cons, List.length_nil]; omega)) only [go_sem, reduceCtorEq, Nat.reduceEqDiff, Nat.reduceAdd, Nat.reduceMul, Nat.reduceSub, ↓Nat.reduceBEq, Nat.reduceLT, Nat.reduceLeDiff, Int.reduceLT, Int.reduceLE, Int.reduceNeg, Int.reduceToNat, mode_102, mode_103, mode_105, hg, hd1, hd2, u]
          rw [hr, dz_one (by omega), e1, zz_nil, zz_false]
        · rw [decide_eq_false h2] at u
          rw [hs] at u hd2
          simp (maxSteps := 4000000) (disch := first | omega | (simp only [List.length_set, List.length_replicate, List.length_append, List.length_take, List.length_drop, List.length_cons, List.length_nil]; omega)) only [go_sem, reduceCtorEq, Nat.reduceEqDiff, Nat.reduceAdd, Nat.reduceMul, Nat.reduceSub, ↓Nat.reduceBEq, Nat.reduceLT, Nat.reduceLeDiff, Int.reduceLT, Int.reduceLE, Int.reduceNeg, Int.reduceToNat, mode_102, mode_103, mode_105, hg, hd1, hd2, u]
          rw [hr, dz_ne (by omega), e1, e2, hs]
set_option maxRecDepth 100000 in
theorem M_28 [SpC] (p q : Int) (hp : -9223372036854775808 ≤ p ∧ p ≤ 9223372036854775807) (hq : -9223372036854775808 ≤ q ∧ q ≤ 9223372036854775807) : M X 28 [.int .i64 p, .int .i64 q] = some (.agg [zS (Rat.num (Rat.divInt p q)), zD (Rat.num (Rat.divInt p q)), zS (dz (Rat.divInt p q)), zD (dz (Rat.divInt p q))]) := by
  refine M_of X (fn := Tryz.f28) Tryz.func28 rfl ok_28 mode_28 res_28 _ rfl _ ?_
  intro r hr
  have h1 := M_64 p hp
  have h2 := M_64 q hq
  have b1 := nd_small p (by omega)
  have b2 := nd_small q (by omega)
  have h3 := M_63 p q (by omega) (by omega)
  simp (maxSteps := 4000000) (disch := first | omega | (simp only [List.length_set, List.length_replicate, List.length_append, List.length_take, List.length_drop, List.length_cons, List.length_nil]; omega)) only [go_sem, reduceCtorEq, Nat.reduceEqDiff, Nat.reduceAdd, Nat.reduceMul, Nat.reduceSub, ↓Nat.reduceBEq, Nat.reduceLT, Nat.reduceLeDiff, Int.reduceLT, Int.reduceLE, Int.reduceNeg, Int.reduceToNat, mode_64, mode_63, h1, h2, h3]
  rw [hr]
set_option maxRecDepth 100000 in
theorem M_98 [SpC] {x : Rat} {n : Nat} [hx : RS x n] (h : n < 2 ^ 26) : M X 98 [.agg [zS (Rat.num (x)), zD (Rat.num (x)), zS (dz (x)), zD (dz (x))]] = some (.int .i64 (cmpQ x 0)) := by
  refine M_of X (fn := Tryz.f98) Tryz.func98 rfl ok_98 mode_98 res_98 _ rfl _ ?_
  intro r hr
  have a1 := hx.num
  have h := M_135 x.num (by omega)
  rw [cmpQ_sign] at h
  simp (maxSteps := 4000000) (disch := first | omega | (simp only [List.length_set, List.length_replicate, List.length_append, List.length_take, List.length_drop, List.length_cons, List.length_nil]; omega)) only [go_sem, reduceCtorEq, Nat.reduceEqDiff, Nat.reduceAdd, Nat.reduceMul, Nat.reduceSub, ↓Nat.reduceBEq, Nat.reduceLT, Nat.reduceLeDiff, Int.reduceLT, Int.reduceLE, Int.reduceNeg, Int.reduceToNat, mode_135, h]
  rw [hr]
set_option maxRecDepth 100000 in
theorem M_79 [SpC] {x : Rat} {n : Nat} [hx : RS x n] (h : n < 2 ^ 26) : M X 79 [.agg [zS (Rat.num (x)), zD (Rat.num (x)), zS (dz (x)), zD (dz (x))]] = some (.agg [zS (Rat.num (-x)), zD (Rat.num (-x)), zS (dz (-x)), zD (dz (-x))]) := by
  refine M_of X (fn := Tryz.f79) Tryz.func79 rfl ok_79 mode_79 res_79 _ rfl _ ?_
  intro r hr
  have a1 := hx.num
  have h := M_104 x.num (by omega)
  simp (maxSteps := 4000000) (disch := first | omega | (simp only [List.length_set, List.length_replicate, List.length_append, List.length_take, List.length_drop, List.length_cons, List.length_nil]; omega)) only [go_sem, reduceCtorEq, Nat.reduceEqDiff, Nat.reduceAdd, Nat.reduceMul, Nat.reduceSub, ↓Nat.reduceBEq, Nat.reduceLT, Nat.reduceLeDiff, Int.reduceLT, Int.reduceLE, Int.reduceNeg, Int.reduceToNat, mode_104, h]
  rw [hr, dz_neg, Rat.neg_num]
set_option maxRecDepth 100000 in
theorem M_30 [SpC] {x y : Rat} {n m : Nat} [hx : RS x n] [hy : RS y m] (h : n + m < 2 ^ 25) : M X 30 [.agg [zS (Rat.num (x)), zD (Rat.num (x)), zS (dz (x)), zD (dz (x))], .agg [zS (Rat.num (y)), zD (Rat.num (y)), zS (dz (y)), zD (dz (y))]] = some (.agg [zS (Rat.num (x + y)), zD (Rat.num (x + y)), zS (dz (x + y)), zD (dz (x + y))]) := by
  refine M_of X (fn := Tryz.f30) Tryz.func30 rfl ok_30 mode_30 res_30 _ rfl _ ?_
  intro r hr
  have a1 := hx.num; have a2 := hx.den; have a3 := hy.num; have a4 := hy.den
  have b1 := nd_mul x.num y.den; have b2 := nd_mul y.num x.den; have b3 := nd_mul (x.den : Int) y.den
  have b4 := nd_add (x.num * y.den) (y.num * x.den)
  have m1 := M_66 x.num y.den (by omega) (by omega)
  have m2 := M_66 y.num x.den (by omega) (by omega)
  have m3 := M_66 x.den y.den (by omega) (by omega)
  have m4 := M_68 (x.num * y.den) (y.num * x.den) (by omega) (by omega)
  have m5 := M_63 (x.num * y.den + y.num * x.den) (x.den * y.den) (by omega) (by omega)
  have d1 := M_67 x
  have d2 := M_67 y
  rw [← add_divInt] at m5
  simp (maxSteps := 4000000) (disch := first | omega | (simp only [List.length_set, List.length_replicate, List.length_append, List.length_take, List.length_drop, List.length_cons, List.length_nil]; omega)) only [go_sem, reduceCtorEq, Nat.reduceEqDiff, Nat.reduceAdd, Nat.reduceMul, Nat.reduceSub, ↓Nat.reduceBEq, Nat.reduceLT, Nat.reduceLeDiff, Int.reduceLT, Int.reduceLE, Int.reduceNeg, Int.reduceToNat, mode_67, mode_63, mode_66, mode_68, d1, d2, m1, m2, m3, m4, m5]
  rw [hr]
set_option maxRecDepth 100000 in
theorem M_40 [SpC] {x y : Rat} {n m : Nat} [hx : RS x n] [hy : RS y m] (h : n + m < 2 ^ 25) : M X 40 [.agg [zS (Rat.num (x)), zD (Rat.num (x)), zS (dz (x)), zD (dz (x))], .agg [zS (Rat.num (y)), zD (Rat.num (y)), zS (dz (y)), zD (dz (y))]] = some (.agg [zS (Rat.num (x - y)), zD (Rat.num (x - y)), zS (dz (x - y)), zD (dz (x - y))]) := by
  refine M_of X (fn := Tryz.f40) Tryz.func40 rfl ok_40 mode_40 res_40 _ rfl _ ?_
  intro r hr
  have n1 := M_79 (x := y) (by omega)
  have m1 := M_30 (x := x) (y := -y) (n := n) (m := m) h
  rw [← Rat.sub_eq_add_neg] at m1
  simp (maxSteps := 4000000) (disch := first | omega | (simp only [List.length_set, List.length_replicate, List.length_append, List.length_take, List.length_drop, List.length_cons, List.length_nil]; omega)) only [go_sem, reduceCtorEq, Nat.reduceEqDiff, Nat.reduceAdd, Nat.reduceMul, Nat.reduceSub, ↓Nat.reduceBEq, Nat.reduceLT, Nat.reduceLeDiff, Int.reduceLT, Int.reduceLE, Int.reduceNeg, Int.reduceToNat, mode_79, mode_30, n1, m1]
  rw [hr]
set_option maxRecDepth 100000 in
theorem M_31 [SpC] {x y : Rat} {n m : Nat} [hx : RS x n] [hy : RS y m] (h : n + m < 2 ^ 25) : M X 31 [.agg [zS (Rat.num (x)), zD (Rat.num (x)), zS (dz (x)), zD (dz (x))], .agg [zS (Rat.num (y)), zD (Rat.num (y)), zS (dz (y)), zD (dz (y))]] = some (.agg [zS (Rat.num (x * y)), zD (Rat.num (x * y)), zS (dz (x * y)), zD (dz (x * y))]) := by
  refine M_of X (fn := Tryz.f31) Tryz.func31 rfl ok_31 mode_31 res_31 _ rfl _ ?_
  intro r hr
  have a1 := hx.num; have a2 := hx.den; have a3 := hy.num; have a4 := hy.den
  have b1 := nd_mul x.num y.num; have b3 := nd_mul (x.den : Int) y.den
  have m1 := M_66 x.num y.num (by omega) (by omega)
  have m3 := M_66 x.den y.den (by omega) (by omega)
  have m5 := M_63 (x.num * y.num) (x.den * y.den) (by omega) (by omega)
  have d1 := M_67 x
  have d2 := M_67 y
  rw [← mul_divInt] at m5
  simp (maxSteps := 4000000) (disch := first | omega | (simp only [List.length_set, List.length_replicate, List.length_append, List.length_take, List.length_drop, List.length_cons, List.length_nil]; omega)) only [go_sem, reduceCtorEq, Nat.reduceEqDiff, Nat.reduceAdd, Nat.reduceMul, Nat.reduceSub, ↓Nat.reduceBEq, Nat.reduceLT, Nat.reduceLeDiff, Int.reduceLT, Int.reduceLE, Int.reduceNeg, Int.reduceToNat, mode_67, mode_63, mode_66, d1, d2, m1, m3, m5]
  rw [hr]
set_option maxRecDepth 100000 in
theorem M_99 [SpC] {x y : Rat} {n m : Nat} [hx : RS x n] [hy : RS y m] (h : n + m < 2 ^ 25) : M X 99 [.agg [zS (Rat.num (x)), zD (Rat.num (x)), zS (dz (x)), zD (dz (x))], .agg [zS (Rat.num (y)), zD (Rat.num (y)), zS (dz (y)), zD (dz (y))]] = some (.agg [zS (Rat.num (x / y)), zD (Rat.num (x / y)), zS (dz (x / y)), zD (dz (x / y))]) := by
  refine M_of X (fn := Tryz.f99) Tryz.func99 rfl ok_99 mode_99 res_99 _ rfl _ ?_
  intro r hr
  have a1 := hx.num; have a2 := hx.den; have a3 := hy.num; have a4 := hy.den
  have b1 := nd_mul x.num y.den; have b3 := nd_mul (x.den : Int) y.num
  have m1 := M_66 x.num y.den (by omega) (by omega)
  have m3 := M_66 x.den y.num (by omega) (by omega)
  have m5 := M_63 (x.num * y.den) (x.den * y.num) (by omega) (by omega)
  have d1 := M_67 x
  have d2 := M_67 y
  rw [← div_divInt] at m5
  simp (maxSteps := 4000000) (disch := first | omega | (simp only [List.length_set, List.length_replicate, List.length_append, List.length_take, List.length_drop, List.length_cons, List.length_nil]; omega)) only [go_sem, reduceCtorEq, Nat.reduceEqDiff, Nat.reduceAdd, Nat.reduceMul, Nat.reduceSub, ↓Nat.reduceBEq, Nat.reduceLT, Nat.reduceLeDiff, Int.reduceLT, Int.reduceLE, Int.reduceNeg, Int.reduceToNat, mode_67, mode_63, mode_66, d1, d2, m1, m3, m5]
  rw [hr]
set_option maxRecDepth 100000 in
theorem M_45 [SpC] {x y : Rat} {n m : Nat} [hx : RS x n] [hy : RS y m] (h : n + m < 2 ^ 25) : M X 45 [.agg [zS (Rat.num (x)), zD (Rat.num (x)), zS (dz (x)), zD (dz (x))], .agg [zS (Rat.num (y)), zD (Rat.num (y)), zS (dz (y)), zD (dz (y))]] = some (.int .i64 (cmpQ x y)) := by
  refine M_of X (fn := Tryz.f45) Tryz.func45 rfl ok_45 mode_45 res_45 _ rfl _ ?_
  intro r hr
  have a1 := hx.num; have a2 := hx.den; have a3 := hy.num; have a4 := hy.den
  have b1 := nd_mul x.num y.den; have b2 := nd_mul y.num x.den
  have m1 := M_66 x.num y.den (by omega) (by omega)
  have m2 := M_66 y.num x.den (by omega) (by omega)
  have c := M_88 (x.num * y.den) (y.num * x.den) (by omega) (by omega)
  have d1 := M_67 x
  have d2 := M_67 y
  rw [cmpQ_num] at c
  simp (maxSteps := 4000000) (disch := first | omega | (simp only [List.length_set, List.length_replicate, List.length_append, List.length_take, List.length_drop, List.length_cons, List.length_nil]; omega)) only [go_sem, reduceCtorEq, Nat.reduceEqDiff, Nat.reduceAdd, Nat.reduceMul, Nat.reduceSub, ↓Nat.reduceBEq, Nat.reduceLT, Nat.reduceLeDiff, Int.reduceLT, Int.reduceLE, Int.reduceNeg, Int.reduceToNat, mode_67, mode_66, mode_88, d1, d2, m1, m2, c]
  rw [hr]
end Go.Proofs.YtjccikgdebgebaaGreatDoor.Abs
end
section
set_option linter.unusedSimpArgs false
namespace Go.Proofs.YtjccikgdebgebaaGreatDoor.Abs
open Go
/-! ### Loops that are walked round by round -/
def unQ (Y : Ctx) [b : HC] (E : Ex → St → Prop) : Ex → St → Prop
  | .normal, s => @W Y ⟨.loop b.code⟩ s E
  | e, s => E e s
theorem W_unroll {Y : Ctx} {b : Code} {s : St} {E : Ex → St → Prop} : @W Y ⟨.loop b⟩ s E = @W Y ⟨b⟩ s (@unQ Y ⟨b⟩ E) := by
  have hD : D Y (.loop b) s = nx (D Y b s) fun | (.normal, st') => D Y (.loop b) st' | r => some r := by rw [D_eq, runWith]; rfl
  show PD (D Y (.loop b) s) E = PD (D Y b s) _
  rw [hD]
  cases D Y b s with
  | none => rw [nx_none, PD_none, PD_none]
  | some r =>
    obtain ⟨e, s'⟩ := r
    rw [nx_some, PD_some]
    cases e with
    | normal => rfl
    | exit i => exact PD_some _ _ _
    | ret => exact PD_some _ _ _
theorem unQ_normal {Y : Ctx} {b : Code} {E : Ex → St → Prop} {s : St} : @unQ Y ⟨b⟩ E .normal s = @W Y ⟨.loop b⟩ s E := nr rfl
theorem unQ_ret {Y : Ctx} [b : HC] {E : Ex → St → Prop} {s : St} : unQ Y E .ret s = E .ret s := nr rfl
theorem unQ_exit {Y : Ctx} [b : HC] {E : Ex → St → Prop} {i : Nat} {s : St} : unQ Y E (.exit i) s = E (.exit i) s := nr rfl
/-! ### Numbers made from numbers -/
/-- gantryref01.Around. -/
def arnd (n m : Int) : Int := (if n < 0 then -(n + 1) else n) % m
theorem arnd_bd (n m : Int) (h : 0 < m) : 0 ≤ arnd n m ∧ arnd n m < m := ⟨Int.emod_nonneg _ (by omega), Int.emod_lt_of_pos _ h⟩
def ok64 (n : Int) : Prop := -9223372036854775808 ≤ n ∧ n ≤ 9223372036854775807
def okI (l : List Int) : Prop := ∀ x ∈ l, ok64 x
theorem okI_getD {l : List Int} (h : okI l) (k : Nat) : ok64 (l.getD k 0) := by
  rw [List.getD_eq_getElem?_getD]
  by_cases hk : k < l.length
  · rw [List.getElem?_eq_getElem hk]; exact h _ (List.getElem_mem hk)
  · rw [List.getElem?_eq_none (by omega)]; simp [ok64]
set_option maxRecDepth 100000 in
theorem M_12 [SpC] (n m : Int) (hn : ok64 n) (hm : 0 < m) : M X 12 [.int .i64 n, .int .i64 m] = some (.int .i64 (arnd n m)) := by
  refine M_of X (fn := Tryz.f12) Tryz.func12 rfl ok_12 mode_12 res_12 _ rfl _ ?_
  intro r hr
  obtain ⟨h1, h2⟩ := hn
  by_cases h0 : n < 0
  · simp (maxSteps := 4000000) (disch := first | omega | (simp only [List.length_set, List.length_replicate, List.length_append, List.length_take, List.length_drop, List.length_cons, List.length_nil]; omega)) only [go_sem, reduceCtorEq, Nat.reduceEqDiff, Nat.reduceAdd, Nat.reduceMul, Nat.reduceSub, ↓Nat.reduceBEq, Nat.reduceLT, Nat.reduceLeDiff, Int.reduceLT, Int.reduceLE, Int.reduceNeg, Int.reduceToNat]
    rw [hr, arnd, if_pos h0]
    congr 2
    omega
  · simp (maxSteps := 4000000) (disch := first | omega | (simp only [List.length_set, List.length_replicate, List.length_append, List.length_take, List.length_drop, List.length_cons, List.length_nil]; omega)) only [go_sem, reduceCtorEq, Nat.reduceEqDiff, Nat.reduceAdd, Nat.reduceMul, Nat.reduceSub, ↓Nat.reduceBEq, Nat.reduceLT, Nat.reduceLeDiff, Int.reduceLT, Int.reduceLE, Int.reduceNeg, Int.reduceToNat]
    rw [hr, arnd, if_neg h0]
/-- gantryref01.At, from a place on. -/
def atN (l : List Int) (k : Nat) (m : Int) : Int := arnd (l.getD k 0) m
theorem atN_bd (l : List Int) (k : Nat) (m : Int) (h : 0 < m) : 0 ≤ atN l k m ∧ atN l k m < m := arnd_bd _ _ h
set_option maxRecDepth 100000 in
theorem M_43 [SpC] (l : List Int) (k m : Int) (hl : okI l) (hk : 0 ≤ k) (hm : 0 < m) : M X 43 [isl l, .int .i64 k, .int .i64 m] = some (.int .i64 (atN l k.toNat m)) := by
  refine M_of X (fn := Tryz.f43) Tryz.func43 rfl ok_43 mode_43 res_43 _ rfl _ ?_
  intro r hr
  have ha := M_12 (l.getD k.toNat 0) m (okI_getD hl _) hm
  by_cases h1 : k < l.length
  · simp (maxSteps := 4000000) (disch := first | omega | (simp only [List.length_set, List.length_replicate, List.length_append, List.length_take, List.length_drop, List.length_cons, List.length_nil]; omega)) only [go_sem, reduceCtorEq, Nat.reduceEqDiff, Nat.reduceAdd, Nat.reduceMul, Nat.reduceSub, ↓Nat.reduceBEq, Nat.reduceLT, Nat.reduceLeDiff, Int.reduceLT, Int.reduceLE, Int.reduceNeg, Int.reduceToNat, mode_12, ha]
    rw [hr]; rfl
  · simp (maxSteps := 4000000) (disch := first | omega | (simp only [List.length_set, List.length_replicate, List.length_append, List.length_take, List.length_drop, List.length_cons, List.length_nil]; omega)) only [go_sem, reduceCtorEq, Nat.reduceEqDiff, Nat.reduceAdd, Nat.reduceMul, Nat.reduceSub, ↓Nat.reduceBEq, Nat.reduceLT, Nat.reduceLeDiff, Int.reduceLT, Int.reduceLE, Int.reduceNeg, Int.reduceToNat]
    rw [hr, atN, getD_over _ _ (by omega), arnd]; simp
theorem nd_lit {x : Int} {k : Nat} (h : x.natAbs < Bn ^ k) : nd x ≤ k := nd_le_of h
instance rs_half : RS (Rat.divInt 1 2) 1 := rs_divInt (by omega) (nd_lit (by decide)) (nd_lit (by decide))
/-- gantryref14.Number. -/
def numQ (n : Int) : Rat := Rat.divInt (arnd n 41 - 20) (([1, 1, 2, 3, 5, 8] : List Int).getD (arnd (n / 41) 6).toNat 0)
theorem six (k : Nat) (h : k < 6) : 1 ≤ ([1, 1, 2, 3, 5, 8] : List Int).getD k 0 ∧ ([1, 1, 2, 3, 5, 8] : List Int).getD k 0 ≤ 8 := by
  rcases k with _ | _ | _ | _ | _ | _ | k <;> first | (simp; done) | omega
instance rs_numQ (n : Int) : RS (numQ n) 1 := by
  have h1 := arnd_bd n 41 (by omega)
  have h2 := arnd_bd (n / 41) 6 (by omega)
  have h3 := six (arnd (n / 41) 6).toNat (by omega)
  unfold numQ
  exact rs_divInt (by omega) (nd_lit (by simp only [Bn]; omega)) (nd_lit (by simp only [Bn]; omega))
set_option maxRecDepth 100000 in
theorem M_44 [SpC] (n : Int) (hn : 0 ≤ n ∧ n < 4096) : M X 44 [.int .i64 n] = some (.agg [zS (Rat.num (numQ n)), zD (Rat.num (numQ n)), zS (dz (numQ n)), zD (dz (numQ n))]) := by
  refine M_of X (fn := Tryz.f44) Tryz.func44 rfl ok_44 mode_44 res_44 _ rfl _ ?_
  intro r hr
  have a1 := M_12 n 41 ⟨by omega, by omega⟩ (by omega)
  have a2 := M_12 (n / 41) 6 ⟨by omega, by omega⟩ (by omega)
  have h1 := arnd_bd n 41 (by omega)
  have h2 := arnd_bd (n / 41) 6 (by omega)
  have h3 := six (arnd (n / 41) 6).toNat (by omega)
  have o1 := M_28 (arnd n 41 - 20) (([1, 1, 2, 3, 5, 8] : List Int).getD (arnd (n / 41) 6).toNat 0) (by omega) (by omega)
  rw [hr]
  unfold numQ
  obtain ⟨L, hL⟩ : ∃ L : List Int, L = [1, 1, 2, 3, 5, 8] := ⟨_, rfl⟩
  have hl : L.length = 6 := by rw [hL]; rfl
  have hc : [AV.int .i64 1, AV.int .i64 1, AV.int .i64 2, AV.int .i64 3, AV.int .i64 5, AV.int .i64 8] = ints L := by rw [hL]; rfl
  rw [← hL] at o1 h3 ⊢
  generalize arnd n 41 = d1 at *
  generalize arnd (n / 41) 6 = d2 at *
  simp (maxSteps := 4000000) (disch := first | omega | (simp only [List.length_set, List.length_replicate, List.length_append, List.length_take, List.length_drop, List.length_cons, List.length_nil]; omega)) only [go_sem, reduceCtorEq, Nat.reduceEqDiff, Nat.reduceAdd, Nat.reduceMul, Nat.reduceSub, ↓Nat.reduceBEq, Nat.reduceLT, Nat.reduceLeDiff, Int.reduceLT, Int.reduceLE, Int.reduceNeg, Int.reduceToNat, hc, hl, mode_12, mode_28, a1, a2, o1]
set_option maxRecDepth 100000 in
theorem M_11 [SpC] (l : List Int) (k : Int) (hl : okI l) (hk : 0 ≤ k ∧ k < 1000000) : M X 11 [isl l, .int .i64 k] = some (.agg [zS (Rat.num (numQ (atN l k.toNat 4096))), zD (Rat.num (numQ (atN l k.toNat 4096))), zS (dz (numQ (atN l k.toNat 4096))), zD (dz (numQ (atN l k.toNat 4096))), zS (Rat.num (numQ (atN l (k.toNat + 1) 4096))), zD (Rat.num (numQ (atN l (k.toNat + 1) 4096))), zS (dz (numQ (atN l (k.toNat + 1) 4096))), zD (dz (numQ (atN l (k.toNat + 1) 4096)))]) := by
  refine M_of X (fn := Tryz.f11) Tryz.func11 rfl ok_11 mode_11 res_11 _ rfl _ ?_
  intro r hr
  have a1 := M_43 l k 4096 hl hk.1 (by omega)
  have a2 := M_43 l (k + 1) 4096 hl (by omega) (by omega)
  rw [show (k + 1).toNat = k.toNat + 1 by omega] at a2
  have n1 := M_44 (atN l k.toNat 4096) (atN_bd _ _ _ (by omega))
  have n2 := M_44 (atN l (k.toNat + 1) 4096) (atN_bd _ _ _ (by omega))
  simp (maxSteps := 4000000) (disch := first | omega | (simp only [List.length_set, List.length_replicate, List.length_append, List.length_take, List.length_drop, List.length_cons, List.length_nil]; omega)) only [go_sem, reduceCtorEq, Nat.reduceEqDiff, Nat.reduceAdd, Nat.reduceMul, Nat.reduceSub, ↓Nat.reduceBEq, Nat.reduceLT, Nat.reduceLeDiff, Int.reduceLT, Int.reduceLE, Int.reduceNeg, Int.reduceToNat, mode_43, mode_44, a1, a2, n1, n2]
  rw [hr]
set_option maxRecDepth 100000 in
theorem M_55 [SpC] (n : Int) (hn : ok64 n) : M X 55 [.int .i64 n] = some (.agg [zS (Rat.num (Rat.divInt n 1)), zD (Rat.num (Rat.divInt n 1)), zS (dz (Rat.divInt n 1)), zD (dz (Rat.divInt n 1))]) := by
  refine M_of X (fn := Tryz.f55) Tryz.func55 rfl ok_55 mode_55 res_55 _ rfl _ ?_
  intro r hr
  have o1 := M_28 n 1 hn (by omega)
  simp (maxSteps := 4000000) (disch := first | omega | (simp only [List.length_set, List.length_replicate, List.length_append, List.length_take, List.length_drop, List.length_cons, List.length_nil]; omega)) only [go_sem, reduceCtorEq, Nat.reduceEqDiff, Nat.reduceAdd, Nat.reduceMul, Nat.reduceSub, ↓Nat.reduceBEq, Nat.reduceLT, Nat.reduceLeDiff, Int.reduceLT, Int.reduceLE, Int.reduceNeg, Int.reduceToNat, mode_28, o1]
  rw [hr]
theorem min_lt {x y : Rat} (h : y < x) : min x y = y := by rw [Rat.min_def, if_neg (Rat.not_le.2 h)]
theorem min_ge {x y : Rat} (h : ¬ y < x) : min x y = x := by rw [Rat.min_def, if_pos (Rat.not_lt.1 h)]
theorem max_gt {x y : Rat} (h : x < y) : max x y = y := by rw [Rat.max_def, if_pos (Rat.le_of_lt h)]
theorem max_le' {x y : Rat} (h : ¬ x < y) : max x y = x := by
  rw [Rat.max_def]
  have h1 := Rat.not_lt.1 h
  by_cases h2 : x ≤ y
  · rw [if_pos h2]; exact Rat.le_antisymm h1 h2
  · rw [if_neg h2]
instance rs_min {x y : Rat} {n m : Nat} [hx : RS x n] [hy : RS y m] : RS (min x y) (n + m) := by
  rw [Rat.min_def]; split
  · exact hx.mono (by omega)
  · exact hy.mono (by omega)
instance rs_max {x y : Rat} {n m : Nat} [hx : RS x n] [hy : RS y m] : RS (max x y) (n + m) := by
  rw [Rat.max_def]; split
  · exact hy.mono (by omega)
  · exact hx.mono (by omega)
theorem cmpQ_lt {x y : Rat} (h : x < y) : cmpQ x y = -1 := if_pos h
theorem cmpQ_gt {x y : Rat} (h : y < x) : cmpQ x y = 1 := by rw [cmpQ, if_neg (Rat.not_lt.2 (Rat.le_of_lt h)), if_pos h]
theorem cmpQ_nlt {x y : Rat} (h : ¬ x < y) : 0 ≤ cmpQ x y := by rw [cmpQ, if_neg h]; split <;> omega
theorem cmpQ_ngt {x y : Rat} (h : ¬ y < x) : cmpQ x y ≤ 0 := by
  unfold cmpQ; split
  · omega
  · simp [h]
set_option maxRecDepth 100000 in
theorem M_61 [SpC] {x y : Rat} {n m : Nat} [hx : RS x n] [hy : RS y m] (h : n + m < 2 ^ 25) : M X 61 [.agg [zS (Rat.num (x)), zD (Rat.num (x)), zS (dz (x)), zD (dz (x))], .agg [zS (Rat.num (y)), zD (Rat.num (y)), zS (dz (y)), zD (dz (y))]] = some (.agg [zS (Rat.num (min x y)), zD (Rat.num (min x y)), zS (dz (min x y)), zD (dz (min x y))]) := by
  refine M_of X (fn := Tryz.f61) Tryz.func61 rfl ok_61 mode_61 res_61 _ rfl _ ?_
  intro r hr
  have c := M_45 (x := y) (y := x) (by omega)
  by_cases h1 : y < x
  · rw [cmpQ_lt h1] at c
    simp (maxSteps := 4000000) (disch := first | omega | (simp only [List.length_set, List.length_replicate, List.length_append, List.length_take, List.length_drop, List.length_cons, List.length_nil]; omega)) only [go_sem, reduceCtorEq, Nat.reduceEqDiff, Nat.reduceAdd, Nat.reduceMul, Nat.reduceSub, ↓Nat.reduceBEq, Nat.reduceLT, Nat.reduceLeDiff, Int.reduceLT, Int.reduceLE, Int.reduceNeg, Int.reduceToNat, mode_45, c]
    rw [hr, min_lt h1]
  · have c' := cmpQ_nlt h1
    simp (maxSteps := 4000000) (disch := first | omega | (simp only [List.length_set, List.length_replicate, List.length_append, List.length_take, List.length_drop, List.length_cons, List.length_nil]; omega)) only [go_sem, reduceCtorEq, Nat.reduceEqDiff, Nat.reduceAdd, Nat.reduceMul, Nat.reduceSub, ↓Nat.reduceBEq, Nat.reduceLT, Nat.reduceLeDiff, Int.reduceLT, Int.reduceLE, Int.reduceNeg, Int.reduceToNat, mode_45, c]
    rw [hr, min_ge h1]
set_option maxRecDepth 100000 in
theorem M_62 [SpC] {x y : Rat} {n m : Nat} [hx : RS x n] [hy : RS y m] (h : n + m < 2 ^ 25) : M X 62 [.agg [zS (Rat.num (x)), zD (Rat.num (x)), zS (dz (x)), zD (dz (x))], .agg [zS (Rat.num (y)), zD (Rat.num (y)), zS (dz (y)), zD (dz (y))]] = some (.agg [zS (Rat.num (max x y)), zD (Rat.num (max x y)), zS (dz (max x y)), zD (dz (max x y))]) := by
  refine M_of X (fn := Tryz.f62) Tryz.func62 rfl ok_62 mode_62 res_62 _ rfl _ ?_
  intro r hr
  have c := M_45 (x := y) (y := x) (by omega)
  by_cases h1 : x < y
  · rw [cmpQ_gt h1] at c
    simp (maxSteps := 4000000) (disch := first | omega | (simp only [List.length_set, List.length_replicate, List.length_append, List.length_take, List.length_drop, List.length_cons, List.length_nil]; omega)) only [go_sem, reduceCtorEq, Nat.reduceEqDiff, Nat.reduceAdd, Nat.reduceMul, Nat.reduceSub, ↓Nat.reduceBEq, Nat.reduceLT, Nat.reduceLeDiff, Int.reduceLT, Int.reduceLE, Int.reduceNeg, Int.reduceToNat, mode_45, c]
    rw [hr, max_gt h1]
  · have c' := cmpQ_ngt h1
    simp (maxSteps := 4000000) (disch := first | omega | (simp only [List.length_set, List.length_replicate, List.length_append, List.length_take, List.length_drop, List.length_cons, List.length_nil]; omega)) only [go_sem, reduceCtorEq, Nat.reduceEqDiff, Nat.reduceAdd, Nat.reduceMul, Nat.reduceSub, ↓Nat.reduceBEq, Nat.reduceLT, Nat.reduceLeDiff, Int.reduceLT, Int.reduceLE, Int.reduceNeg, Int.reduceToNat, mode_45, c]
    rw [hr, max_le' h1]
set_option maxRecDepth 100000 in
theorem M_65 [SpC] {p v a s : Rat} {n1 n2 n3 n4 : Nat} [RS p n1] [RS v n2] [RS a n3] [RS s n4] (h : n1 + n2 + n3 + n4 < 2 ^ 20) : M X 65 [.agg [zS (Rat.num (p)), zD (Rat.num (p)), zS (dz (p)), zD (dz (p))], .agg [zS (Rat.num (v)), zD (Rat.num (v)), zS (dz (v)), zD (dz (v))], .agg [zS (Rat.num (a)), zD (Rat.num (a)), zS (dz (a)), zD (dz (a))], .agg [zS (Rat.num (s)), zD (Rat.num (s)), zS (dz (s)), zD (dz (s))]] = some (.agg [zS (Rat.num (p + (v * s + a * (s * s * Rat.divInt 1 2)))), zD (Rat.num (p + (v * s + a * (s * s * Rat.divInt 1 2)))), zS (dz (p + (v * s + a * (s * s * Rat.divInt 1 2)))), zD (dz (p + (v * s + a * (s * s * Rat.divInt 1 2))))]) := by
  refine M_of X (fn := Tryz.f65) Tryz.func65 rfl ok_65 mode_65 res_65 _ rfl _ ?_
  intro r hr
  have o := M_28 1 2 (by omega) (by omega)
  simp (maxSteps := 4000000) (disch := first | omega | (simp only [List.length_set, List.length_replicate, List.length_append, List.length_take, List.length_drop, List.length_cons, List.length_nil]; omega)) only [go_sem, reduceCtorEq, Nat.reduceEqDiff, Nat.reduceAdd, Nat.reduceMul, Nat.reduceSub, ↓Nat.reduceBEq, Nat.reduceLT, Nat.reduceLeDiff, Int.reduceLT, Int.reduceLE, Int.reduceNeg, Int.reduceToNat, M_31, M_30, mode_28, o]
  rw [hr]
end Go.Proofs.YtjccikgdebgebaaGreatDoor.Abs
end
section
set_option linter.unusedSimpArgs false
namespace Go.Proofs.YtjccikgdebgebaaGreatDoor.Abs
open Go
/-- p + v s + a s s / 2. -/
def alongQ (p v a s : Rat) : Rat := p + (v * s + a * (s * s * Rat.divInt 1 2))
theorem along_eq (p v a s : Rat) : p + (v * s + a * (s * s * Rat.divInt 1 2)) = alongQ p v a s := rfl
theorem along_at (p v a s : Rat) : p + s * (v + Rat.divInt 1 2 * (a * s)) = alongQ p v a s := by
  unfold alongQ; generalize Rat.divInt 1 2 = h; grind
instance rs_along {p v a s : Rat} {n1 n2 n3 n4 : Nat} [RS p n1] [RS v n2] [RS a n3] [RS s n4] : RS (alongQ p v a s) (n1 + (n2 + n4 + (n3 + (n4 + n4 + 1)) + 1) + 1) := by
  unfold alongQ; infer_instance
/-- The time of the turn, if there is one. -/
def turnQ (v a : Rat) : Rat := -(v / a)
instance rs_turn {v a : Rat} {n2 n3 : Nat} [RS v n2] [RS a n3] : RS (turnQ v a) (n2 + n3) := by unfold turnQ; infer_instance
def turns (v a e : Rat) : Prop := a ≠ 0 ∧ 0 < turnQ v a ∧ turnQ v a < e
noncomputable def loQ (p v a e : Rat) : Rat := open Classical in if turns v a e then min (min p (alongQ p v a e)) (alongQ p v a (turnQ v a)) else min p (alongQ p v a e)
noncomputable def hiQ (p v a e : Rat) : Rat := open Classical in if turns v a e then max (max p (alongQ p v a e)) (alongQ p v a (turnQ v a)) else max p (alongQ p v a e)
instance rs_lo {p v a e : Rat} {n1 n2 n3 n4 : Nat} [RS p n1] [RS v n2] [RS a n3] [RS e n4] : RS (loQ p v a e) (8 * (n1 + n2 + n3 + n4) + 8) := by
  unfold loQ; split
  · exact RS.mono (inferInstance : RS (min (min p (alongQ p v a e)) (alongQ p v a (turnQ v a))) _) (by omega)
  · exact RS.mono (inferInstance : RS (min p (alongQ p v a e)) _) (by omega)
instance rs_hi {p v a e : Rat} {n1 n2 n3 n4 : Nat} [RS p n1] [RS v n2] [RS a n3] [RS e n4] : RS (hiQ p v a e) (8 * (n1 + n2 + n3 + n4) + 8) := by
  unfold hiQ; split
  · exact RS.mono (inferInstance : RS (max (max p (alongQ p v a e)) (alongQ p v a (turnQ v a))) _) (by omega)
  · exact RS.mono (inferInstance : RS (max p (alongQ p v a e)) _) (by omega)
theorem cmpQ_zero (x : Rat) : cmpQ x 0 = 0 ↔ x = 0 := by unfold cmpQ; grind
theorem cmpQ_pos (x : Rat) : 0 < cmpQ x 0 ↔ 0 < x := by unfold cmpQ; grind
theorem cmpQ_neg (x y : Rat) : cmpQ x y < 0 ↔ x < y := by unfold cmpQ; grind
set_option maxRecDepth 100000 in
theorem M_90 [SpC] {p v a s : Rat} {n1 n2 n3 n4 : Nat} [RS p n1] [RS v n2] [RS a n3] [RS s n4] (h : n1 + n2 + n3 + n4 < 2 ^ 20) : M X 90 [.agg [zS (Rat.num (p)), zD (Rat.num (p)), zS (dz (p)), zD (dz (p))], .agg [zS (Rat.num (v)), zD (Rat.num (v)), zS (dz (v)), zD (dz (v))], .agg [zS (Rat.num (a)), zD (Rat.num (a)), zS (dz (a)), zD (dz (a))], .agg [zS (Rat.num (s)), zD (Rat.num (s)), zS (dz (s)), zD (dz (s))]] = some (.agg [zS (Rat.num (alongQ p v a s)), zD (Rat.num (alongQ p v a s)), zS (dz (alongQ p v a s)), zD (dz (alongQ p v a s))]) := by
  refine M_of X (fn := Tryz.f90) Tryz.func90 rfl ok_90 mode_90 res_90 _ rfl _ ?_
  intro r hr
  have o := M_53 1 2 (by omega) (by omega)
  simp (maxSteps := 4000000) (disch := first | omega | (simp only [List.length_set, List.length_replicate, List.length_append, List.length_take, List.length_drop, List.length_cons, List.length_nil]; omega)) only [go_sem, reduceCtorEq, Nat.reduceEqDiff, Nat.reduceAdd, Nat.reduceMul, Nat.reduceSub, ↓Nat.reduceBEq, Nat.reduceLT, Nat.reduceLeDiff, Int.reduceLT, Int.reduceLE, Int.reduceNeg, Int.reduceToNat, M_123, M_52, mode_53, o, along_at]
  rw [hr]
set_option maxRecDepth 100000 in
set_option maxHeartbeats 1000000 in
theorem M_54 [SpC] {p v a : Rat} {n : Int} {n1 n2 n3 : Nat} [RS p n1] [RS v n2] [RS a n3] (hn : ok64 n) (h : n1 + n2 + n3 < 2 ^ 14) : M X 54 [.agg [zS (Rat.num (p)), zD (Rat.num (p)), zS (dz (p)), zD (dz (p))], .agg [zS (Rat.num (v)), zD (Rat.num (v)), zS (dz (v)), zD (dz (v))], .agg [zS (Rat.num (a)), zD (Rat.num (a)), zS (dz (a)), zD (dz (a))], .int .i64 n] =
    some (.tuple [.agg [zS (Rat.num (loQ p v a (Rat.divInt (if n < 0 then 0 else n) 1))), zD (Rat.num (loQ p v a (Rat.divInt (if n < 0 then 0 else n) 1))), zS (dz (loQ p v a (Rat.divInt (if n < 0 then 0 else n) 1))), zD (dz (loQ p v a (Rat.divInt (if n < 0 then 0 else n) 1)))], .agg [zS (Rat.num (hiQ p v a (Rat.divInt (if n < 0 then 0 else n) 1))), zD (Rat.num (hiQ p v a (Rat.divInt (if n < 0 then 0 else n) 1))), zS (dz (hiQ p v a (Rat.divInt (if n < 0 then 0 else n) 1))), zD (dz (hiQ p v a (Rat.divInt (if n < 0 then 0 else n) 1)))]]) := by
  refine M_of X (fn := Tryz.f54) Tryz.func54 rfl ok_54 mode_54 res_54 _ rfl _ ?_
  intro r hr
  obtain ⟨k1, k2⟩ := hn
  have hen : ok64 (if n < 0 then 0 else n) := by unfold ok64; split <;> omega
  obtain ⟨e, he⟩ : ∃ e, e = (if n < 0 then 0 else n) := ⟨_, rfl⟩
  rw [← he] at hen hr
  have w := M_55 e hen
  obtain ⟨k3, k4⟩ := hen
  have re : RS (Rat.divInt e 1) 3 := rs_divInt (by omega) (nd_lit (by simp only [Bn]; omega)) (nd_lit (by decide))
  generalize Rat.divInt e 1 = en at *
  have s1 := M_98 (x := a) (by omega)
  by_cases h0 : a = 0
  · have c0 := (cmpQ_zero a).2 h0
    rw [c0] at s1
    simp (maxSteps := 4000000) (disch := first | omega | (simp only [List.length_set, List.length_replicate, List.length_append, List.length_take, List.length_drop, List.length_cons, List.length_nil]; omega)) only [go_sem, reduceCtorEq, Nat.reduceEqDiff, Nat.reduceAdd, Nat.reduceMul, Nat.reduceSub, ↓Nat.reduceBEq, Nat.reduceLT, Nat.reduceLeDiff, Int.reduceLT, Int.reduceLE, Int.reduceNeg, Int.reduceToNat, M_61, M_62, M_65, mode_55, mode_98, s1, ← he, w, along_eq]
    rw [hr, loQ, hiQ, if_neg (fun h => h.1 h0), if_neg (fun h => h.1 h0)]
  · have c0 : cmpQ a 0 ≠ 0 := fun h => h0 ((cmpQ_zero a).1 h)
    generalize cmpQ a 0 = ca at *
    have dv := M_99 (x := v) (y := a) (by omega)
    have ng := M_79 (x := v / a) (by omega)
    have rt := @rs_turn v a n2 n3 _ _
    rw [show -(v / a) = turnQ v a from rfl] at ng
    have s2 := M_98 (x := turnQ v a) (by omega)
    have c2 := M_45 (x := turnQ v a) (y := en) (by omega)
    have f2 := cmpQ_pos (turnQ v a)
    have f3 := cmpQ_neg (turnQ v a) en
    generalize cmpQ (turnQ v a) 0 = ct at *
    generalize cmpQ (turnQ v a) en = ce at *
    by_cases h1 : 0 < ct
    · by_cases h2 : ce < 0
      · have ht : turns v a en := ⟨h0, f2.1 h1, f3.1 h2⟩
        simp (maxSteps := 4000000) (disch := first | omega | (simp only [List.length_set, List.length_replicate, List.length_append, List.length_take, List.length_drop, List.length_cons, List.length_nil]; omega)) only [go_sem, reduceCtorEq, Nat.reduceEqDiff, Nat.reduceAdd, Nat.reduceMul, Nat.reduceSub, ↓Nat.reduceBEq, Nat.reduceLT, Nat.reduceLeDiff, Int.reduceLT, Int.reduceLE, Int.reduceNeg, Int.reduceToNat, M_61, M_62, M_65, mode_55, mode_98, mode_99, mode_79, mode_45, s1, s2, c2, dv, ng, ← he, w, along_eq]
        rw [hr, loQ, hiQ, if_pos ht, if_pos ht]
      · have ht : ¬ turns v a en := fun h => h2 (f3.2 h.2.2)
        simp (maxSteps := 4000000) (disch := first | omega | (simp only [List.length_set, List.length_replicate, List.length_append, List.length_take, List.length_drop, List.length_cons, List.length_nil]; omega)) only [go_sem, reduceCtorEq, Nat.reduceEqDiff, Nat.reduceAdd, Nat.reduceMul, Nat.reduceSub, ↓Nat.reduceBEq, Nat.reduceLT, Nat.reduceLeDiff, Int.reduceLT, Int.reduceLE, Int.reduceNeg, Int.reduceToNat, M_61, M_62, M_65, mode_55, mode_98, mode_99, mode_79, mode_45, s1, s2, c2, dv, ng, ← he, w, along_eq]
        rw [hr, loQ, hiQ, if_neg ht, if_neg ht]
    · have ht : ¬ turns v a en := fun h => h1 (f2.2 h.2.1)
      simp (maxSteps := 4000000) (disch := first | omega | (simp only [List.length_set, List.length_replicate, List.length_append, List.length_take, List.length_drop, List.length_cons, List.length_nil]; omega)) only [go_sem, reduceCtorEq, Nat.reduceEqDiff, Nat.reduceAdd, Nat.reduceMul, Nat.reduceSub, ↓Nat.reduceBEq, Nat.reduceLT, Nat.reduceLeDiff, Int.reduceLT, Int.reduceLE, Int.reduceNeg, Int.reduceToNat, M_61, M_62, M_65, mode_55, mode_98, mode_99, mode_79, mode_45, s1, s2, c2, dv, ng, ← he, w, along_eq]
      rw [hr, loQ, hiQ, if_neg ht, if_neg ht]
end Go.Proofs.YtjccikgdebgebaaGreatDoor.Abs
end
section
set_option linter.unusedSimpArgs false
namespace Go.Proofs.YtjccikgdebgebaaGreatDoor.Abs
open Go
theorem replA_1 (zc : List AV) : replA 1 zc = zc := by simp [replA]
theorem replA_2 (zc : List AV) : replA 2 zc = zc ++ zc := by simp [replA, List.replicate]
theorem replA_3 (zc : List AV) : replA 3 zc = zc ++ (zc ++ zc) := by simp [replA, List.replicate]
theorem replA_4 (zc : List AV) : replA 4 zc = zc ++ (zc ++ (zc ++ zc)) := by simp [replA, List.replicate]
/-- A list of rational numbers as cells. -/
def ratC : List Rat → List AV
  | [] => []
  | x :: l => zS x.num :: zD x.num :: zS (dz x) :: zD (dz x) :: ratC l
theorem ratC_nil : ratC [] = [] := nr rfl
theorem ratC_cons (x : Rat) (l : List Rat) : ratC (x :: l) = zS x.num :: zD x.num :: zS (dz x) :: zD (dz x) :: ratC l := nr rfl
theorem ratC_length (l : List Rat) : (ratC l).length = 4 * l.length := by
  induction l with
  | nil => rfl
  | cons x l ih => simp [ratC, ih]; omega
theorem ratC_drop (l : List Rat) (k : Nat) (h : k < l.length) : List.drop (k * 4) (ratC l) = zS (l.getD k 0).num :: zD (l.getD k 0).num :: zS (dz (l.getD k 0)) :: zD (dz (l.getD k 0)) :: ratC (l.drop (k + 1)) := by
  induction l generalizing k with
  | nil => simp at h
  | cons x l ih =>
    cases k with
    | zero => simp [ratC]
    | succ k =>
      have := ih k (by simpa using h)
      rw [show (k + 1) * 4 = k * 4 + 4 by omega]
      simpa [ratC] using this
theorem foldl_take_succ (f : Rat → Rat → Rat) (p : Rat) (l : List Rat) (k : Nat) (h : k < l.length) : (l.take (k + 1)).foldl f p = f ((l.take k).foldl f p) (l.getD k 0) := by
  have hd : l.getD k 0 = l[k] := by simp [List.getD_eq_getElem?_getD, List.getElem?_eq_getElem h]
  rw [List.take_succ_eq_append_getElem h, List.foldl_append, hd]; rfl
theorem rs_min1 {x y : Rat} {n : Nat} (hx : RS x n) (hy : RS y n) : RS (min x y) n := by rw [Rat.min_def]; split <;> first | exact hx | exact hy
theorem rs_max1 {x y : Rat} {n : Nat} (hx : RS x n) (hy : RS y n) : RS (max x y) n := by rw [Rat.max_def]; split <;> first | exact hx | exact hy
set_option maxRecDepth 100000 in
set_option maxHeartbeats 1000000 in
theorem M_60 [SpC] (p : Rat) (l : List Rat) (N : Nat) (hp : RS p N) (hl : ∀ x ∈ l, RS x N) (hN : N < 2 ^ 24) (hlen : l.length < 2 ^ 30) : M X 60 [.agg [zS (Rat.num (p)), zD (Rat.num (p)), zS (dz (p)), zD (dz (p))], .ro (ratC l) l.length false] =
    some (.tuple [.agg [zS (Rat.num (l.foldl min p)), zD (Rat.num (l.foldl min p)), zS (dz (l.foldl min p)), zD (dz (l.foldl min p))], .agg [zS (Rat.num (l.foldl max p)), zD (Rat.num (l.foldl max p)), zS (dz (l.foldl max p)), zD (dz (l.foldl max p))]]) := by
  refine M_of X (fn := Tryz.f60) Tryz.func60 rfl ok_60 mode_60 res_60 _ rfl _ ?_
  intro r hr
  simp (maxSteps := 4000000) (disch := first | omega | (simp only [List.length_set, List.length_replicate, List.length_append, List.length_take, List.length_drop, List.length_cons, List.length_nil]; omega)) only [go_sem, reduceCtorEq, Nat.reduceEqDiff, Nat.reduceAdd, Nat.reduceMul, Nat.reduceSub, ↓Nat.reduceBEq, Nat.reduceLT, Nat.reduceLeDiff, Int.reduceLT, Int.reduceLE, Int.reduceNeg, Int.reduceToNat]
  refine W_loop X (fun (k : Nat) s => k ≤ l.length ∧ s.env 4 = .ptr 8 0 ∧ s.env 5 = .ptr 16 0 ∧ s.env 6 = .ptr 40 0 ∧ s.env 7 = .ptr 48 0 ∧ s.env 12 = .ro (ratC l) l.length false ∧ s.env 13 = .int .i64 l.length ∧ s.env 14 = .int .i64 k ∧ 48 < s.next ∧
    s.heap 8 = some (.cells [.bool false, .ro [] 0 false, .bool false, .ro [] 0 false] false false) ∧ s.heap 16 = some (.cells [.bool false, .ro [] 0 false, .bool false, .ro [] 0 false] false false) ∧
    ∃ lo hi : Rat, s.heap 40 = some (.cells [zS (Rat.num (lo)), zD (Rat.num (lo)), zS (dz (lo)), zD (dz (lo))] false false) ∧ s.heap 48 = some (.cells [zS (Rat.num (hi)), zD (Rat.num (hi)), zS (dz (hi)), zD (dz (hi))] false false) ∧ RS lo N ∧ RS hi N ∧ lo = (l.take k).foldl min p ∧ hi = (l.take k).foldl max p) (fun k => l.length - k) ?_ 0 _ ?_
  · rintro k ⟨env, heap, nx⟩ ⟨hk, g4, g5, g6, g7, g12, g13, g14, hnx, h8, h16, lo, hi, h40, h48, rlo, rhi, elo, ehi⟩
    simp only at g4 g5 g6 g7 g12 g13 g14 hnx h8 h16 h40 h48
    by_cases hlt : k < l.length
    · have hx : RS (l.getD k 0) N := by
        have hd : l.getD k 0 = l[k] := by simp [List.getD_eq_getElem?_getD, List.getElem?_eq_getElem hlt]
        rw [hd]; exact hl _ (List.getElem_mem hlt)
      have e1 := foldl_take_succ min p l k hlt
      have e2 := foldl_take_succ max p l k hlt
      rw [← elo] at e1
      rw [← ehi] at e2
      have hdrop := ratC_drop l k hlt
      generalize l.getD k 0 = x at *
      have c1 := M_59 (x := x) (y := lo) (n := N) (m := N) (by omega)
      have c2 := M_59 (x := x) (y := hi) (n := N) (m := N) (by omega)
      have rl := rs_min1 rlo hx
      have rh := rs_max1 rhi hx
      have f1 := cmpQ_neg x lo
      have f2 : 0 < cmpQ x hi ↔ hi < x := by unfold cmpQ; grind
      generalize cmpQ x lo = v1 at *
      generalize cmpQ x hi = v2 at *
      by_cases b1 : v1 < 0
      · have m1 := min_lt (f1.1 b1)
        by_cases b2 : 0 < v2
        · have m2 := max_gt (f2.1 b2)
          simp (maxSteps := 4000000) (disch := first | omega | (simp only [List.length_set, List.length_replicate, List.length_append, List.length_take, List.length_drop, List.length_cons, List.length_nil]; omega)) only [go_sem, reduceCtorEq, Nat.reduceEqDiff, Nat.reduceAdd, Nat.reduceMul, Nat.reduceSub, ↓Nat.reduceBEq, Nat.reduceLT, Nat.reduceLeDiff, Int.reduceLT, Int.reduceLE, Int.reduceNeg, Int.reduceToNat, g4, g5, g6, g7, g12, g13, g14, h8, h16, h40, h48, hdrop, mode_59, c1, c2]
          exact ⟨k + 1, ⟨by omega, rfl, by omega, x, x, rfl, rfl, hx, hx, by rw [e1, m1], by rw [e2, m2]⟩, by omega⟩
        · have m2 := max_le' (fun h => b2 (f2.2 h))
          simp (maxSteps := 4000000) (disch := first | omega | (simp only [List.length_set, List.length_replicate, List.length_append, List.length_take, List.length_drop, List.length_cons, List.length_nil]; omega)) only [go_sem, reduceCtorEq, Nat.reduceEqDiff, Nat.reduceAdd, Nat.reduceMul, Nat.reduceSub, ↓Nat.reduceBEq, Nat.reduceLT, Nat.reduceLeDiff, Int.reduceLT, Int.reduceLE, Int.reduceNeg, Int.reduceToNat, g4, g5, g6, g7, g12, g13, g14, h8, h16, h40, h48, hdrop, mode_59, c1, c2]
          exact ⟨k + 1, ⟨by omega, rfl, by omega, x, hi, rfl, rfl, hx, rhi, by rw [e1, m1], by rw [e2, m2]⟩, by omega⟩
      · have m1 := min_ge (fun h => b1 (f1.2 h))
        by_cases b2 : 0 < v2
        · have m2 := max_gt (f2.1 b2)
          simp (maxSteps := 4000000) (disch := first | omega | (simp only [List.length_set, List.length_replicate, List.length_append, List.length_take, List.length_drop, List.length_cons, List.length_nil]; omega)) only [go_sem, reduceCtorEq, Nat.reduceEqDiff, Nat.reduceAdd, Nat.reduceMul, Nat.reduceSub, ↓Nat.reduceBEq, Nat.reduceLT, Nat.reduceLeDiff, Int.reduceLT, Int.reduceLE, Int.reduceNeg, Int.reduceToNat, g4, g5, g6, g7, g12, g13, g14, h8, h16, h40, h48, hdrop, mode_59, c1, c2]
          exact ⟨k + 1, ⟨by omega, rfl, by omega, lo, x, rfl, rfl, rlo, hx, by rw [e1, m1], by rw [e2, m2]⟩, by omega⟩
        · have m2 := max_le' (fun h => b2 (f2.2 h))
          simp (maxSteps := 4000000) (disch := first | omega | (simp only [List.length_set, List.length_replicate, List.length_append, List.length_take, List.length_drop, List.length_cons, List.length_nil]; omega)) only [go_sem, reduceCtorEq, Nat.reduceEqDiff, Nat.reduceAdd, Nat.reduceMul, Nat.reduceSub, ↓Nat.reduceBEq, Nat.reduceLT, Nat.reduceLeDiff, Int.reduceLT, Int.reduceLE, Int.reduceNeg, Int.reduceToNat, g4, g5, g6, g7, g12, g13, g14, h8, h16, h40, h48, hdrop, mode_59, c1, c2]
          exact ⟨k + 1, ⟨by omega, rfl, by omega, lo, hi, rfl, rfl, rlo, rhi, by rw [e1, m1], by rw [e2, m2]⟩, by omega⟩
    · have hk' : k = l.length := by omega
      subst hk'
      simp (maxSteps := 4000000) (disch := first | omega | (simp only [List.length_set, List.length_replicate, List.length_append, List.length_take, List.length_drop, List.length_cons, List.length_nil]; omega)) only [go_sem, reduceCtorEq, Nat.reduceEqDiff, Nat.reduceAdd, Nat.reduceMul, Nat.reduceSub, ↓Nat.reduceBEq, Nat.reduceLT, Nat.reduceLeDiff, Int.reduceLT, Int.reduceLE, Int.reduceNeg, Int.reduceToNat, g4, g5, g6, g7, g12, g13, g14, h8, h16, h40, h48]
      rw [List.take_length] at elo ehi
      rw [hr, elo, ehi]
  · simp (maxSteps := 4000000) (disch := first | omega | (simp only [List.length_set, List.length_replicate, List.length_append, List.length_take, List.length_drop, List.length_cons, List.length_nil]; omega)) only [go_sem, reduceCtorEq, Nat.reduceEqDiff, Nat.reduceAdd, Nat.reduceMul, Nat.reduceSub, ↓Nat.reduceBEq, Nat.reduceLT, Nat.reduceLeDiff, Int.reduceLT, Int.reduceLE, Int.reduceNeg, Int.reduceToNat]
    exact ⟨p, p, rfl, rfl, hp, hp, rfl, rfl⟩
theorem ext1 [SpC] {p x : Rat} {N : Nat} (hp : RS p N) (hx : RS x N) (hN : N < 2 ^ 24) : M X 60 [.agg [zS (Rat.num (p)), zD (Rat.num (p)), zS (dz (p)), zD (dz (p))], .ro [zS (Rat.num (x)), zD (Rat.num (x)), zS (dz (x)), zD (dz (x))] 1 false] = some (.tuple [.agg [zS (Rat.num (min p x)), zD (Rat.num (min p x)), zS (dz (min p x)), zD (dz (min p x))], .agg [zS (Rat.num (max p x)), zD (Rat.num (max p x)), zS (dz (max p x)), zD (dz (max p x))]]) :=
  M_60 p [x] N hp (by intro y hy; simp at hy; subst hy; exact hx) hN (by simp)
theorem ext2 [SpC] {p x y : Rat} {N : Nat} (hp : RS p N) (hx : RS x N) (hy : RS y N) (hN : N < 2 ^ 24) : M X 60 [.agg [zS (Rat.num (p)), zD (Rat.num (p)), zS (dz (p)), zD (dz (p))], .ro [zS (Rat.num (x)), zD (Rat.num (x)), zS (dz (x)), zD (dz (x)), zS (Rat.num (y)), zD (Rat.num (y)), zS (dz (y)), zD (dz (y))] 2 false] = some (.tuple [.agg [zS (Rat.num (min (min p x) y)), zD (Rat.num (min (min p x) y)), zS (dz (min (min p x) y)), zD (dz (min (min p x) y))], .agg [zS (Rat.num (max (max p x) y)), zD (Rat.num (max (max p x) y)), zS (dz (max (max p x) y)), zD (dz (max (max p x) y))]]) :=
  M_60 p [x, y] N hp (by intro z hz; simp at hz; rcases hz with rfl | rfl <;> assumption) hN (by simp)
set_option maxRecDepth 100000 in
set_option maxHeartbeats 1000000 in
theorem M_51 [SpC] {p v a : Rat} {n : Int} {n1 n2 n3 : Nat} [hp : RS p n1] [hv : RS v n2] [ha : RS a n3] (hn : ok64 n) (h : n1 + n2 + n3 < 2 ^ 14) : M X 51 [.agg [zS (Rat.num (p)), zD (Rat.num (p)), zS (dz (p)), zD (dz (p))], .agg [zS (Rat.num (v)), zD (Rat.num (v)), zS (dz (v)), zD (dz (v))], .agg [zS (Rat.num (a)), zD (Rat.num (a)), zS (dz (a)), zD (dz (a))], .int .i64 n] =
    some (.tuple [.agg [zS (Rat.num (loQ p v a (Rat.divInt (if n < 0 then 0 else n) 1))), zD (Rat.num (loQ p v a (Rat.divInt (if n < 0 then 0 else n) 1))), zS (dz (loQ p v a (Rat.divInt (if n < 0 then 0 else n) 1))), zD (dz (loQ p v a (Rat.divInt (if n < 0 then 0 else n) 1)))], .agg [zS (Rat.num (hiQ p v a (Rat.divInt (if n < 0 then 0 else n) 1))), zD (Rat.num (hiQ p v a (Rat.divInt (if n < 0 then 0 else n) 1))), zS (dz (hiQ p v a (Rat.divInt (if n < 0 then 0 else n) 1))), zD (dz (hiQ p v a (Rat.divInt (if n < 0 then 0 else n) 1)))]]) := by
  refine M_of X (fn := Tryz.f51) Tryz.func51 rfl ok_51 mode_51 res_51 _ rfl _ ?_
  intro r hr
  obtain ⟨k1, k2⟩ := hn
  have hen : ok64 (if n < 0 then 0 else n) := by unfold ok64; split <;> omega
  obtain ⟨e, he⟩ : ∃ e, e = (if n < 0 then 0 else n) := ⟨_, rfl⟩
  rw [← he] at hen hr
  have w := M_53 e 1 hen (by omega)
  obtain ⟨k3, k4⟩ := hen
  have re : RS (Rat.divInt e 1) 3 := rs_divInt (by omega) (nd_lit (by simp only [Bn]; omega)) (nd_lit (by decide))
  generalize Rat.divInt e 1 = en at *
  have s1 := M_82 a
  have dv := M_92 (x := v) (y := a) (by omega)
  have ng := M_91 (v / a)
  have rt := @rs_turn v a n2 n3 _ _
  rw [show -(v / a) = turnQ v a from rfl] at ng
  have s2 := M_82 (turnQ v a)
  have c2 := M_59 (x := turnQ v a) (y := en) (by omega)
  have f1 := cmpQ_zero a
  have f2 := cmpQ_pos (turnQ v a)
  have f3 := cmpQ_neg (turnQ v a) en
  have a1 := M_90 (p := p) (v := v) (a := a) (s := en) (by omega)
  have a2 := M_90 (p := p) (v := v) (a := a) (s := turnQ v a) (by omega)
  have r1 : RS (alongQ p v a en) (2 ^ 20) := RS.mono (inferInstance : RS (alongQ p v a en) _) (by omega)
  have r2 : RS (alongQ p v a (turnQ v a)) (2 ^ 20) := RS.mono (inferInstance : RS (alongQ p v a (turnQ v a)) _) (by omega)
  have e1 := ext1 (p := p) (x := alongQ p v a en) (hp.mono (by omega)) r1 (by decide)
  have e2 := ext2 (p := p) (x := alongQ p v a en) (y := alongQ p v a (turnQ v a)) (hp.mono (by omega)) r1 r2 (by decide)
  rw [hr, loQ, hiQ]
  clear r1 r2
  have ht : turns v a en ↔ (cmpQ a 0 ≠ 0 ∧ 0 < cmpQ (turnQ v a) 0 ∧ cmpQ (turnQ v a) en < 0) := by
    rw [f2, f3]; unfold turns; rw [Ne, Ne, f1]
  generalize cmpQ a 0 = ca at *
  generalize cmpQ (turnQ v a) 0 = ct at *
  generalize cmpQ (turnQ v a) en = ce at *
  generalize alongQ p v a en = x1 at *
  generalize alongQ p v a (turnQ v a) = x2 at *
  by_cases h0 : ca = 0
  · rw [if_neg (fun hh => (ht.1 hh).1 h0), if_neg (fun hh => (ht.1 hh).1 h0)]
    simp (maxSteps := 4000000) (disch := first | omega | (simp only [List.length_set, List.length_replicate, List.length_append, List.length_take, List.length_drop, List.length_cons, List.length_nil]; omega)) only [go_sem, reduceCtorEq, Nat.reduceEqDiff, Nat.reduceAdd, Nat.reduceMul, Nat.reduceSub, ↓Nat.reduceBEq, Nat.reduceLT, Nat.reduceLeDiff, Int.reduceLT, Int.reduceLE, Int.reduceNeg, Int.reduceToNat, replA_1, mode_53, mode_82, mode_92, mode_91, mode_59, mode_90, mode_60, s1, s2, c2, dv, ng, ← he, w, a1, a2, e1]
  · by_cases h1 : 0 < ct
    · by_cases h2 : ce < 0
      · rw [if_pos (ht.2 ⟨h0, h1, h2⟩), if_pos (ht.2 ⟨h0, h1, h2⟩)]
        simp (maxSteps := 4000000) (disch := first | omega | (simp only [List.length_set, List.length_replicate, List.length_append, List.length_take, List.length_drop, List.length_cons, List.length_nil]; omega)) only [go_sem, reduceCtorEq, Nat.reduceEqDiff, Nat.reduceAdd, Nat.reduceMul, Nat.reduceSub, ↓Nat.reduceBEq, Nat.reduceLT, Nat.reduceLeDiff, Int.reduceLT, Int.reduceLE, Int.reduceNeg, Int.reduceToNat, replA_1, mode_53, mode_82, mode_92, mode_91, mode_59, mode_90, mode_60, s1, s2, c2, dv, ng, ← he, w, a1, a2, e2]
      · rw [if_neg (fun hh => h2 (ht.1 hh).2.2), if_neg (fun hh => h2 (ht.1 hh).2.2)]
        simp (maxSteps := 4000000) (disch := first | omega | (simp only [List.length_set, List.length_replicate, List.length_append, List.length_take, List.length_drop, List.length_cons, List.length_nil]; omega)) only [go_sem, reduceCtorEq, Nat.reduceEqDiff, Nat.reduceAdd, Nat.reduceMul, Nat.reduceSub, ↓Nat.reduceBEq, Nat.reduceLT, Nat.reduceLeDiff, Int.reduceLT, Int.reduceLE, Int.reduceNeg, Int.reduceToNat, replA_1, mode_53, mode_82, mode_92, mode_91, mode_59, mode_90, mode_60, s1, s2, c2, dv, ng, ← he, w, a1, a2, e1]
    · rw [if_neg (fun hh => h1 (ht.1 hh).2.1), if_neg (fun hh => h1 (ht.1 hh).2.1)]
      simp (maxSteps := 4000000) (disch := first | omega | (simp only [List.length_set, List.length_replicate, List.length_append, List.length_take, List.length_drop, List.length_cons, List.length_nil]; omega)) only [go_sem, reduceCtorEq, Nat.reduceEqDiff, Nat.reduceAdd, Nat.reduceMul, Nat.reduceSub, ↓Nat.reduceBEq, Nat.reduceLT, Nat.reduceLeDiff, Int.reduceLT, Int.reduceLE, Int.reduceNeg, Int.reduceToNat, replA_1, mode_53, mode_82, mode_92, mode_91, mode_59, mode_90, mode_60, s1, s2, c2, dv, ng, ← he, w, a1, a2, e1]
end Go.Proofs.YtjccikgdebgebaaGreatDoor.Abs
end
