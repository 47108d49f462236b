/-
  Package rat: unit, one, lowest, Make, Of, Den, Sign, Neg, by value. No conditions. Package rat: Add, Mul, Div, Compare, by value. No conditions. Package gantryref05: the reference model of package rat, by value. No conditions. What the texts of the packages model and observe share: loops walked round by round, numbers made from numbers, lists of points, growing slices, lists of records. No conditions. Packages integer and convex: Small, gcd, Norm, next, cross. No conditions. Models and states as plain data, and the cells in which they lie. No conditions. The generator of models as a plain function. No conditions. Package convex: Valid answers true for a shape that is convex and whose sides have whole lengths. No conditions. Package convex: dot, Most, turned; lists of edges and what ContainsFunc finds in them. No conditions. Package convex: Sides. No conditions.
-/
import Derived.Test.YtenhjccadhlgoaaGreatQ05
set_option linter.unusedSimpArgs false
set_option linter.unusedVariables false
set_option maxRecDepth 100000
set_option maxHeartbeats 16000000
namespace Go.Proofs.YtenhjccadhlgoaaGreat.Abs
open Go
theorem M_160 [SpC] (x : Int) (hx : nd x < 2 ^ 40) : M X 160 [.agg [zS x, zD x]] = some (.bool (decide (x = 1))) := by
 refine M_of X (fn := Tryz.f160) Tryz.func160 rfl ok_160 mode_160 res_160 _ rfl _ ?_
 intro r hr
 by_cases h0 : x = 0
 ·have := nd_zero x h0
  simp (maxSteps := 4000000) (disch := first | omega | (simp only [LL]; omega)) only [go_sem, zS_pos x (by omega)]
  rw [hr, decide_eq_false (by omega)]
 ·by_cases h1 : x.natAbs < 1000000000
  ·rw [zD_one x h0 h1]
   by_cases h2 : x < 0
   ·simp (maxSteps := 4000000) (disch := first | omega | (simp only [LL]; omega)) only [go_sem, zS_neg x h2]
    rw [hr, decide_eq_false (by omega)]
   ·by_cases h3 : x = 1
    ·subst h3
     simp (maxSteps := 4000000) (disch := first | omega | (simp only [LL]; omega)) only [go_sem, zS_pos 1 (by omega)]
     rw [hr]; rfl
    ·simp (maxSteps := 4000000) (disch := first | omega | (simp only [LL]; omega)) only [go_sem, zS_pos x (Int.not_lt.1 h2)]
     rw [hr, decide_eq_false h3]
  ·have := nd_le_one x
   by_cases h2 : x < 0
   ·simp (maxSteps := 4000000) (disch := first | omega | (simp only [LL]; omega)) only [go_sem, zS_neg x h2]
    rw [hr, decide_eq_false (by omega)]
   ·simp (maxSteps := 4000000) (disch := first | omega | (simp only [LL]; omega)) only [go_sem, zS_pos x (Int.not_lt.1 h2)]
    rw [hr, decide_eq_false (by omega)]
theorem M_158 [SpC] : M X 158 [] = some (.agg [zS 1, zD 1]) := by
 refine M_of X (fn := Tryz.f158) Tryz.func158 rfl ok_158 mode_158 res_158 _ rfl _ ?_
 intro r hr
 have h := M_147 1 (by omega)
 simp (maxSteps := 4000000) (disch := first | omega | (simp only [LL]; omega)) only [go_sem, mode_147, h]
 rw [hr]
theorem M_162 [SpC] (p q : Int) (_ : nd p < 2 ^ 28) (hq : nd q < 2 ^ 28) (h0 : q ≠ 0) (hc : Int.gcd p q = 1) : M X 162 [.agg [zS p, zD p], .agg [zS q, zD q]] = some (.agg [zS (Rat.num (Rat.divInt p q)), zD (Rat.num (Rat.divInt p q)), zS (dz (Rat.divInt p q)), zD (dz (Rat.divInt p q))]) := by
 refine M_of X (fn := Tryz.f162) Tryz.func162 rfl ok_162 mode_162 res_162 _ rfl _ ?_
 intro r hr
 by_cases h1 : q < 0
 ·have n1 := M_220 p
  have n2 := M_220 q
  have u := M_160 (-q) (by rw [nd_neg]; omega)
  obtain ⟨e1, e2⟩ := dI (p := -p) (q := -q) (by omega) (by rw [gcd_neg_neg]; exact hc)
  rw [divInt_neg_neg] at e1 e2
  rw [zS_neg q h1] at n2 ⊢
  by_cases h2 : -q = 1
  ·rw [decide_eq_true h2] at u
   simp (maxSteps := 4000000) (disch := first | omega | (simp only [LL]; omega)) only [go_sem, mode_220, mode_160, n1, n2, u]
   rw [hr, dz_one (by omega), e1, zz_nil, zz_false]
  ·rw [decide_eq_false h2] at u
   simp (maxSteps := 4000000) (disch := first | omega | (simp only [LL]; omega)) only [go_sem, mode_220, mode_160, n1, n2, u]
   rw [hr, dz_ne (by omega), e1, e2]
 ·have u := M_160 q (by omega)
  obtain ⟨e1, e2⟩ := dI (p := p) (q := q) (by omega) hc
  have hs := zS_pos q (Int.not_lt.1 h1)
  by_cases h2 : q = 1
  ·rw [decide_eq_true h2] at u
   rw [hs] at u ⊢
   simp (maxSteps := 4000000) (disch := first | omega | (simp only [LL]; omega)) only [go_sem, mode_160, u]
   rw [hr, dz_one (by omega), e1, zz_nil, zz_false]
  ·rw [decide_eq_false h2] at u
   rw [hs] at u ⊢
   simp (maxSteps := 4000000) (disch := first | omega | (simp only [LL]; omega)) only [go_sem, mode_160, u]
   rw [hr, dz_ne (by omega), e1, e2, hs]
theorem M_79 [SpC] (p q : Int) (hp : nd p < 2 ^ 27) (hq : nd q < 2 ^ 27) : M X 79 [.agg [zS p, zD p], .agg [zS q, zD q]] = some (.agg [zS (Rat.num (Rat.divInt p q)), zD (Rat.num (Rat.divInt p q)), zS (dz (Rat.divInt p q)), zD (dz (Rat.divInt p q))]) := by
 refine M_of X (fn := Tryz.f79) Tryz.func79 rfl ok_79 mode_79 res_79 _ rfl _ ?_
 intro r hr
 by_cases h0 : q = 0
 ·have n0 := nd_zero q h0
  simp (maxSteps := 4000000) (disch := first | omega | (simp only [LL]; omega)) only [go_sem, n0]
  rw [hr, zz_rat, h0, Rat.divInt_zero]
 ·have nq := nd_pos q h0
  by_cases h1 : p = 0
  ·have n0 := nd_zero p h1
   simp (maxSteps := 4000000) (disch := first | omega | (simp only [LL]; omega)) only [go_sem, n0]
   rw [hr, zz_rat, h1, Rat.zero_divInt]
  ·have np := nd_pos p h1
   have hg := M_159 p q (by omega) (by omega)
   have gl : nd (Int.gcd p q : Int) ≤ nd q := nd_mono (by have := Nat.le_of_dvd (by omega) (Nat.gcd_dvd_right p.natAbs q.natAbs); exact this)
   have hu := M_160 (Int.gcd p q : Int) (by omega)
   obtain ⟨g1, g2, g3⟩ := divInt_gcd (p := p) h0
   by_cases h2 : Int.gcd p q = 1
   ·rw [h2, decide_eq_true (by rfl)] at hu
    rw [h2] at hg
    have hl := M_162 p q (by omega) (by omega) h0 h2
    simp (maxSteps := 4000000) (disch := first | omega | (simp only [LL]; omega)) only [go_sem, mode_159, mode_160, mode_162, hg, hu, hl]
    rw [hr]
   ·rw [decide_eq_false (by omega)] at hu
    have g0 : (Int.gcd p q : Int) ≠ 0 := by
     intro h
     have : Int.gcd p q = 0 := by omega
     exact h0 (Int.gcd_eq_zero_iff.1 this).2
    have hd1 := M_161 p (Int.gcd p q) (by omega) (by omega) g0
    have hd2 := M_161 q (Int.gcd p q) (by omega) (by omega) g0
    have k1 : nd (p / Int.gcd p q) ≤ nd p := nd_mono (by rw [Int.natAbs_ediv_of_dvd (Int.gcd_dvd_left ..)]; exact Nat.div_le_self _ _)
    have k2 : nd (q / Int.gcd p q) ≤ nd q := nd_mono (by rw [Int.natAbs_ediv_of_dvd (Int.gcd_dvd_right ..)]; exact Nat.div_le_self _ _)
    have hl := M_162 (p / Int.gcd p q) (q / Int.gcd p q) (by omega) (by omega) g3 g2
    rw [g1] at hl
    simp (maxSteps := 4000000) (disch := first | omega | (simp only [LL]; omega)) only [go_sem, mode_159, mode_161, mode_160, mode_162, hg, hu, hl, hd1, hd2]
    rw [hr]
theorem M_151 [SpC] (p q : Int) (hp : -9223372036854775808 ≤ p ∧ p ≤ 9223372036854775807) (hq : -9223372036854775808 ≤ q ∧ q ≤ 9223372036854775807) : M X 151 [.int .i64 p, .int .i64 q] = some (.agg [zS (Rat.num (Rat.divInt p q)), zD (Rat.num (Rat.divInt p q)), zS (dz (Rat.divInt p q)), zD (dz (Rat.divInt p q))]) := by
 refine M_of X (fn := Tryz.f151) Tryz.func151 rfl ok_151 mode_151 res_151 _ rfl _ ?_
 intro r hr
 have h1 := M_147 p hp
 have h2 := M_147 q hq
 have b1 := nd_small p (by omega)
 have b2 := nd_small q (by omega)
 have h3 := M_79 p q (by omega) (by omega)
 simp (maxSteps := 4000000) (disch := first | omega | (simp only [LL]; omega)) only [go_sem, mode_147, mode_79, h1, h2, h3]
 rw [hr]
theorem M_78 [SpC] (x : Rat) : M X 78 [.agg [zS (Rat.num (x)), zD (Rat.num (x)), zS (dz (x)), zD (dz (x))]] = some (.agg [zS x.den, zD x.den]) := by
 refine M_of X (fn := Tryz.f78) Tryz.func78 rfl ok_78 mode_78 res_78 _ rfl _ ?_
 intro r hr
 by_cases h : x.den = 1
 ·have h0 := nd_zero (dz x) (dz_one h)
  simp (maxSteps := 4000000) (disch := first | omega | (simp only [LL]; omega)) only [go_sem, h0, mode_158, M_158]
  rw [hr, h]; rfl
 ·have e := dz_ne h
  have h0 := nd_pos (dz x) (by have := den_pos x; omega)
  simp (maxSteps := 4000000) (disch := first | omega | (simp only [LL]; omega)) only [go_sem]
  rw [hr, e]
theorem M_69 [SpC] (x : Rat) : M X 69 [.agg [zS (Rat.num (x)), zD (Rat.num (x)), zS (dz (x)), zD (dz (x))]] = some (.int .i64 (cmpQ x 0)) := by
 refine M_of X (fn := Tryz.f69) Tryz.func69 rfl ok_69 mode_69 res_69 _ rfl _ ?_
 intro r hr
 have h := M_135 x.num
 rw [cmpQ_sign] at h
 simp (maxSteps := 4000000) (disch := first | omega | (simp only [LL]; omega)) only [go_sem, mode_135, h]
 rw [hr]
theorem dz_neg (x : Rat) : dz (-x) = dz x := by unfold dz; rw [Rat.neg_den]
theorem M_206 [SpC] (x : Rat) : M X 206 [.agg [zS (Rat.num (x)), zD (Rat.num (x)), zS (dz (x)), zD (dz (x))]] = some (.agg [zS (Rat.num (-x)), zD (Rat.num (-x)), zS (dz (-x)), zD (dz (-x))]) := by
 refine M_of X (fn := Tryz.f206) Tryz.func206 rfl ok_206 mode_206 res_206 _ rfl _ ?_
 intro r hr
 have h := M_220 x.num
 simp (maxSteps := 4000000) (disch := first | omega | (simp only [LL]; omega)) only [go_sem, mode_220, h]
 rw [hr, dz_neg, Rat.neg_num]
theorem num_add_one {x y : Rat} (hx : x.den = 1) (hy : y.den = 1) : (x + y).num = x.num + y.num ∧ dz (x + y) = 0 := by
 have e : x + y = Rat.divInt (x.num + y.num) 1 := by
  rw [add_divInt, hx, hy]; simp
 obtain ⟨e1, e2⟩ := dI (p := x.num + y.num) (q := 1) (by decide) (by simp [Int.gcd])
 rw [e]; exact ⟨e1, dz_one (by omega)⟩
theorem num_mul_one {x y : Rat} (hx : x.den = 1) (hy : y.den = 1) : (x * y).num = x.num * y.num ∧ dz (x * y) = 0 := by
 have e : x * y = Rat.divInt (x.num * y.num) 1 := by
  rw [mul_divInt, hx, hy]; simp
 obtain ⟨e1, e2⟩ := dI (p := x.num * y.num) (q := 1) (by decide) (by simp [Int.gcd])
 rw [e]; exact ⟨e1, dz_one (by omega)⟩
theorem zz_agg (a b : AV) : AV.agg [a, b, .bool false, .ro [] 0 false] = AV.agg [a, b, zS 0, zD 0] := by rw [zz_nil, zz_false]
theorem M_19 [SpC] {x y : Rat} {n m : Nat} [hx : RS x n] [hy : RS y m] (h : n + m < 2 ^ 26) : M X 19 [.agg [zS (Rat.num (x)), zD (Rat.num (x)), zS (dz (x)), zD (dz (x))], .agg [zS (Rat.num (y)), zD (Rat.num (y)), zS (dz (y)), zD (dz (y))]] = some (.agg [zS (Rat.num (x + y)), zD (Rat.num (x + y)), zS (dz (x + y)), zD (dz (x + y))]) := by
 refine M_of X (fn := Tryz.f19) Tryz.func19 rfl ok_19 mode_19 res_19 _ rfl _ ?_
 intro r hr
 have a1 := hx.num; have a2 := hx.den; have a3 := hy.num; have a4 := hy.den
 by_cases h1 : x.den = 1 ∧ y.den = 1
 ·have z1 := nd_zero (dz x) (dz_one h1.1)
  have z2 := nd_zero (dz y) (dz_one h1.2)
  obtain ⟨e1, e2⟩ := num_add_one h1.1 h1.2
  have ha := M_77 x.num y.num (by omega) (by omega)
  simp (maxSteps := 4000000) (disch := first | omega | (simp only [LL]; omega)) only [go_sem, z1, z2, mode_77, ha]
  rw [hr, zz_agg, e1, e2]
 ·have hz : (nd (dz x) = 0 ∧ ¬ nd (dz y) = 0) ∨ ¬ nd (dz x) = 0 := by
   have hp1 := den_pos x
   have hp2 := den_pos y
   by_cases hx1 : x.den = 1
   ·have hy1 : y.den ≠ 1 := fun h => h1 ⟨hx1, h⟩
    have := nd_pos (dz y) (by rw [dz_ne hy1]; omega)
    exact .inl ⟨nd_zero _ (dz_one hx1), by omega⟩
   ·have := nd_pos (dz x) (by rw [dz_ne hx1]; omega)
    exact .inr (by omega)
  by_cases h2 : x.num = 0
  ·have z0 := nd_zero _ h2
   have e : x + y = y := by rw [(num_zero_iff x).1 h2, Rat.zero_add]
   rcases hz with ⟨z1, z2⟩ | z1
   all_goals
    simp (maxSteps := 4000000) (disch := first | omega | (simp only [LL]; omega)) only [go_sem, z1, z0]
    rw [hr, e]
  ·have p0 := nd_pos _ h2
   by_cases h3 : y.num = 0
   ·have z0 := nd_zero _ h3
    have e : x + y = x := by rw [(num_zero_iff y).1 h3, Rat.add_zero]
    rcases hz with ⟨z1, z2⟩ | z1
    all_goals
     simp (maxSteps := 4000000) (disch := first | omega | (simp only [LL]; omega)) only [go_sem, z1, z0]
     rw [hr, e]
   ·have p1 := nd_pos _ h3
    have b1 := nd_mul x.num y.den; have b2 := nd_mul y.num x.den; have b3 := nd_mul (x.den : Int) y.den
    have b4 := nd_add (x.num * y.den) (y.num * x.den)
    have m1 := M_80 x.num y.den (by omega) (by omega)
    have m2 := M_80 y.num x.den (by omega) (by omega)
    have m3 := M_80 x.den y.den (by omega) (by omega)
    have m4 := M_77 (x.num * y.den) (y.num * x.den) (by omega) (by omega)
    have m5 := M_79 (x.num * y.den + y.num * x.den) (x.den * y.den) (by omega) (by omega)
    have d1 := M_78 x
    have d2 := M_78 y
    rw [← add_divInt] at m5
    rcases hz with ⟨z1, z2⟩ | z1
    all_goals
     simp (maxSteps := 4000000) (disch := first | omega | (simp only [LL]; omega)) only [go_sem, z1, mode_78, mode_79, mode_80, mode_77, d1, d2, m1, m2, m3, m4, m5]
     rw [hr]
theorem red (x : Rat) : Int.gcd x.num x.den = 1 := x.reduced
theorem num_divInt_dvd {p q : Int} (hq : 0 < q) : (Rat.divInt p q).num ∣ p ∧ ((Rat.divInt p q).den : Int) ∣ q := by
 obtain ⟨h1, h2, h3⟩ := divInt_gcd (p := p) (q := q) (by omega)
 have k1 : p / Int.gcd p q * Int.gcd p q = p := Int.ediv_mul_cancel (Int.gcd_dvd_left ..)
 have k2 : q / Int.gcd p q * Int.gcd p q = q := Int.ediv_mul_cancel (Int.gcd_dvd_right ..)
 have hpos : 0 < q / Int.gcd p q := by
  have : 0 ≤ q / Int.gcd p q := Int.ediv_nonneg (by omega) (by omega)
  omega
 obtain ⟨e1, e2⟩ := dI hpos h2
 rw [h1] at e1 e2
 rw [e1, e2]
 exact ⟨⟨_, k1.symm⟩, ⟨_, k2.symm⟩⟩
theorem cop_dvd {a b c d : Nat} (h1 : a ∣ c) (h2 : b ∣ d) (h : Nat.gcd c d = 1) : Nat.gcd a b = 1 :=
 Nat.dvd_one.1 (h ▸ Nat.dvd_gcd (Nat.dvd_trans (Nat.gcd_dvd_left a b) h1) (Nat.dvd_trans (Nat.gcd_dvd_right a b) h2))
theorem mul_lowest (x y : Rat) : x * y = Rat.divInt ((Rat.divInt x.num y.den).num * (Rat.divInt y.num x.den).num) ((Rat.divInt x.num y.den).den * (Rat.divInt y.num x.den).den) ∧
  Int.gcd ((Rat.divInt x.num y.den).num * (Rat.divInt y.num x.den).num) ((Rat.divInt x.num y.den).den * (Rat.divInt y.num x.den).den) = 1 := by
 have hx := den_pos x
 have hy := den_pos y
 obtain ⟨u1, u2⟩ := num_divInt_dvd (p := x.num) (q := y.den) (by omega)
 obtain ⟨v1, v2⟩ := num_divInt_dvd (p := y.num) (q := x.den) (by omega)
 have hu := red (Rat.divInt x.num y.den)
 have hv := red (Rat.divInt y.num x.den)
 have e : x * y = Rat.divInt x.num y.den * Rat.divInt y.num x.den := by
  rw [Rat.divInt_mul_divInt, mul_divInt, Int.mul_comm (x.den : Int)]
 refine ⟨by rw [e, mul_divInt], ?_⟩
 generalize Rat.divInt x.num y.den = u at *
 generalize Rat.divInt y.num x.den = v at *
 have rx := red x
 have ry := red y
 unfold Int.gcd at *
 rw [Int.natAbs_mul, Int.natAbs_mul]
 rw [Int.natAbs_natCast] at *
 have w1 : Nat.gcd u.num.natAbs v.den = 1 := cop_dvd (Int.natAbs_dvd_natAbs.2 u1) (by exact_mod_cast v2) rx
 have w2 : Nat.gcd v.num.natAbs u.den = 1 := cop_dvd (Int.natAbs_dvd_natAbs.2 v1) (by exact_mod_cast u2) ry
 refine Nat.Coprime.mul_left (Nat.Coprime.mul_right hu w1) (Nat.Coprime.mul_right w2 hv)
theorem M_150 [SpC] {x y : Rat} {n m : Nat} [hx : RS x n] [hy : RS y m] (h : n + m < 2 ^ 26) : M X 150 [.agg [zS (Rat.num (x)), zD (Rat.num (x)), zS (dz (x)), zD (dz (x))], .agg [zS (Rat.num (y)), zD (Rat.num (y)), zS (dz (y)), zD (dz (y))]] = some (.agg [zS (Rat.num (x * y)), zD (Rat.num (x * y)), zS (dz (x * y)), zD (dz (x * y))]) := by
 refine M_of X (fn := Tryz.f150) Tryz.func150 rfl ok_150 mode_150 res_150 _ rfl _ ?_
 intro r hr
 have a1 := hx.num; have a2 := hx.den; have a3 := hy.num; have a4 := hy.den
 by_cases h2 : x.num = 0
 ·have z0 := nd_zero _ h2
  simp (maxSteps := 4000000) (disch := first | omega | (simp only [LL]; omega)) only [go_sem, z0]
  rw [hr, zz_rat, (num_zero_iff x).1 h2, Rat.zero_mul]
 ·have p0 := nd_pos _ h2
  by_cases h3 : y.num = 0
  ·have z0 := nd_zero _ h3
   simp (maxSteps := 4000000) (disch := first | omega | (simp only [LL]; omega)) only [go_sem, z0]
   rw [hr, zz_rat, (num_zero_iff y).1 h3, Rat.mul_zero]
  ·have p1 := nd_pos _ h3
   have b0 := nd_mul x.num y.num
   by_cases h1 : x.den = 1 ∧ y.den = 1
   ·have z1 := nd_zero (dz x) (dz_one h1.1)
    have z2 := nd_zero (dz y) (dz_one h1.2)
    obtain ⟨e1, e2⟩ := num_mul_one h1.1 h1.2
    have ha := M_80 x.num y.num (by omega) (by omega)
    simp (maxSteps := 4000000) (disch := first | omega | (simp only [LL]; omega)) only [go_sem, z1, z2, mode_80, ha]
    rw [hr, zz_agg, e1, e2]
   ·have hz : (nd (dz x) = 0 ∧ ¬ nd (dz y) = 0) ∨ ¬ nd (dz x) = 0 := by
     have hp1 := den_pos x
     have hp2 := den_pos y
     by_cases hx1 : x.den = 1
     ·have hy1 : y.den ≠ 1 := fun h => h1 ⟨hx1, h⟩
      have := nd_pos (dz y) (by rw [dz_ne hy1]; omega)
      exact .inl ⟨nd_zero _ (dz_one hx1), by omega⟩
     ·have := nd_pos (dz x) (by rw [dz_ne hx1]; omega)
      exact .inr (by omega)
    obtain ⟨e1, e2⟩ := mul_lowest x y
    have k1 := M_79 x.num y.den (by omega) (by omega)
    have k2 := M_79 y.num x.den (by omega) (by omega)
    have ru := rs_divInt (p := x.num) (q := y.den) (n := n + m) (by omega) (by omega) (by omega)
    have rv := rs_divInt (p := y.num) (q := x.den) (n := n + m) (by omega) (by omega) (by omega)
    have d1 := M_78 x
    have d2 := M_78 y
    have d3 := M_78 (Rat.divInt x.num y.den)
    have d4 := M_78 (Rat.divInt y.num x.den)
    have c1 := ru.num; have c2 := ru.den; have c3 := rv.num; have c4 := rv.den
    have c5 := den_pos (Rat.divInt x.num y.den)
    have c6 := den_pos (Rat.divInt y.num x.den)
    have c7 : (((Rat.divInt x.num y.den).den : Int) * (Rat.divInt y.num x.den).den) ≠ 0 := Int.mul_ne_zero (by omega) (by omega)
    generalize Rat.divInt x.num y.den = u at *
    generalize Rat.divInt y.num x.den = v at *
    have b1 := nd_mul u.num v.num; have b2 := nd_mul (u.den : Int) v.den
    have m1 := M_80 u.num v.num (by omega) (by omega)
    have m2 := M_80 u.den v.den (by omega) (by omega)
    have m3 := M_162 (u.num * v.num) (u.den * v.den) (by omega) (by omega) c7 e2
    rw [← e1] at m3
    rcases hz with ⟨z1, z2⟩ | z1
    all_goals
     simp (maxSteps := 4000000) (disch := first | omega | (simp only [LL]; omega)) only [go_sem, z1, mode_78, mode_79, mode_80, mode_162, d1, d2, d3, d4, k1, k2, m1, m2, m3]
     rw [hr]
theorem inv_divInt' (x : Rat) : x⁻¹ = Rat.divInt x.den x.num := Rat.inv_def x
instance rs_inv {x : Rat} {n : Nat} [hx : RS x n] : RS (x⁻¹) n := by
 have := nd_den_pos x
 have a2 := hx.den
 rw [inv_divInt']; exact rs_divInt (by omega) hx.den hx.num
theorem M_237 [SpC] {x y : Rat} {n m : Nat} [hx : RS x n] [hy : RS y m] (h : n + m < 2 ^ 26) : M X 237 [.agg [zS (Rat.num (x)), zD (Rat.num (x)), zS (dz (x)), zD (dz (x))], .agg [zS (Rat.num (y)), zD (Rat.num (y)), zS (dz (y)), zD (dz (y))]] = some (.agg [zS (Rat.num (x / y)), zD (Rat.num (x / y)), zS (dz (x / y)), zD (dz (x / y))]) := by
 refine M_of X (fn := Tryz.f237) Tryz.func237 rfl ok_237 mode_237 res_237 _ rfl _ ?_
 intro r hr
 have a1 := hx.num; have a2 := hx.den; have a3 := hy.num; have a4 := hy.den
 by_cases h2 : y.num = 0
 ·have z0 := nd_zero _ h2
  simp (maxSteps := 4000000) (disch := first | omega | (simp only [LL]; omega)) only [go_sem, z0]
  rw [hr, zz_rat, (num_zero_iff y).1 h2, Rat.div_def, Rat.inv_zero, Rat.mul_zero]
 ·have p0 := nd_pos _ h2
  have d := M_78 y
  have l := M_162 y.den y.num (by omega) (by omega) h2 (by rw [Int.gcd_comm]; exact red y)
  have k := M_150 (x := x) (y := y⁻¹) (n := n) (m := m) (by omega)
  rw [← Rat.div_def] at k
  rw [← inv_divInt'] at l
  simp (maxSteps := 4000000) (disch := first | omega | (simp only [LL]; omega)) only [go_sem, mode_78, mode_162, mode_150, d, l, k]
  rw [hr]
theorem cmpQ_of_sign {x y : Rat} (h : cmpQ x 0 ≠ cmpQ y 0 ∨ cmpQ x 0 = 0) : cmpZ (cmpQ x 0) (cmpQ y 0) = cmpQ x y := by
 unfold cmpQ cmpZ at *
 grind
theorem M_73 [SpC] {x y : Rat} {n m : Nat} [hx : RS x n] [hy : RS y m] (h : n + m < 2 ^ 26) : M X 73 [.agg [zS (Rat.num (x)), zD (Rat.num (x)), zS (dz (x)), zD (dz (x))], .agg [zS (Rat.num (y)), zD (Rat.num (y)), zS (dz (y)), zD (dz (y))]] = some (.int .i64 (cmpQ x y)) := by
 refine M_of X (fn := Tryz.f73) Tryz.func73 rfl ok_73 mode_73 res_73 _ rfl _ ?_
 intro r hr
 have a1 := hx.num; have a2 := hx.den; have a3 := hy.num; have a4 := hy.den
 have s1 := M_69 x
 have s2 := M_69 y
 have bx : -1 ≤ cmpQ x 0 ∧ cmpQ x 0 ≤ 1 := by unfold cmpQ; split <;> (try split) <;> omega
 have by' : -1 ≤ cmpQ y 0 ∧ cmpQ y 0 ≤ 1 := by unfold cmpQ; split <;> (try split) <;> omega
 have hs := @cmpQ_of_sign x y
 by_cases h1 : cmpQ x 0 ≠ cmpQ y 0 ∨ cmpQ x 0 = 0
 ·have hs := hs h1
  generalize cmpQ x 0 = sx at *
  generalize cmpQ y 0 = sy at *
  have o1 := M_147 sx (by omega)
  have o2 := M_147 sy (by omega)
  have n1 := nd_small sx (by omega)
  have n2 := nd_small sy (by omega)
  have c := M_146 sx sy (by omega) (by omega)
  rw [hs] at c
  by_cases h2 : sx = sy
  ·have h3 : sx = 0 := by rcases h1 with h | h; exact absurd h2 h; exact h
   simp (maxSteps := 4000000) (disch := first | omega | (simp only [LL]; omega)) only [go_sem, mode_69, mode_147, mode_146, s1, s2, o1, o2, c]
   rw [hr]
  ·simp (maxSteps := 4000000) (disch := first | omega | (simp only [LL]; omega)) only [go_sem, mode_69, mode_147, mode_146, s1, s2, o1, o2, c]
   rw [hr]
 ·have h2 : cmpQ x 0 = cmpQ y 0 := Classical.byContradiction fun hh => h1 (.inl hh)
  have h3 : cmpQ x 0 ≠ 0 := fun hh => h1 (.inr hh)
  clear hs h1
  generalize cmpQ x 0 = sx at *
  generalize cmpQ y 0 = sy at *
  have b1 := nd_mul x.num y.den; have b2 := nd_mul y.num x.den
  have d1 := M_78 x
  have d2 := M_78 y
  have m1 := M_80 x.num y.den (by omega) (by omega)
  have m2 := M_80 y.num x.den (by omega) (by omega)
  have c := M_146 (x.num * y.den) (y.num * x.den) (by omega) (by omega)
  rw [cmpQ_num] at c
  simp (maxSteps := 4000000) (disch := first | omega | (simp only [LL]; omega)) only [go_sem, mode_69, mode_78, mode_80, mode_146, s1, s2, d1, d2, m1, m2, c]
  rw [hr]
theorem M_183 [SpC] (x : Int) (hx : nd x < 2 ^ 40) : M X 183 [.agg [zS x, zD x]] = some (.bool (decide (x = 1))) := by
 refine M_of X (fn := Tryz.f183) Tryz.func183 rfl ok_183 mode_183 res_183 _ rfl _ ?_
 intro r hr
 by_cases h0 : x = 0
 ·have := nd_zero x h0
  simp (maxSteps := 4000000) (disch := first | omega | (simp only [LL]; omega)) only [go_sem, zS_pos x (by omega)]
  rw [hr, decide_eq_false (by omega)]
 ·by_cases h1 : x.natAbs < 1000000000
  ·rw [zD_one x h0 h1]
   by_cases h2 : x < 0
   ·simp (maxSteps := 4000000) (disch := first | omega | (simp only [LL]; omega)) only [go_sem, zS_neg x h2]
    rw [hr, decide_eq_false (by omega)]
   ·by_cases h3 : x = 1
    ·subst h3
     simp (maxSteps := 4000000) (disch := first | omega | (simp only [LL]; omega)) only [go_sem, zS_pos 1 (by omega)]
     rw [hr]; rfl
    ·simp (maxSteps := 4000000) (disch := first | omega | (simp only [LL]; omega)) only [go_sem, zS_pos x (Int.not_lt.1 h2)]
     rw [hr, decide_eq_false h3]
  ·have := nd_le_one x
   by_cases h2 : x < 0
   ·simp (maxSteps := 4000000) (disch := first | omega | (simp only [LL]; omega)) only [go_sem, zS_neg x h2]
    rw [hr, decide_eq_false (by omega)]
   ·simp (maxSteps := 4000000) (disch := first | omega | (simp only [LL]; omega)) only [go_sem, zS_pos x (Int.not_lt.1 h2)]
    rw [hr, decide_eq_false (by omega)]
theorem M_118 [SpC] (x : Rat) : M X 118 [.agg [zS (Rat.num (x)), zD (Rat.num (x)), zS (dz (x)), zD (dz (x))]] = some (.agg [zS x.den, zD x.den]) := by
 refine M_of X (fn := Tryz.f118) Tryz.func118 rfl ok_118 mode_118 res_118 _ rfl _ ?_
 intro r hr
 by_cases h : x.den = 1
 ·have h0 := nd_zero (dz x) (dz_one h)
  have h1 := M_116 1 (by omega)
  simp (maxSteps := 4000000) (disch := first | omega | (simp only [LL]; omega)) only [go_sem, h0, mode_116, h1]
  rw [hr, h]; rfl
 ·have e := dz_ne h
  have h0 := nd_pos (dz x) (by have := den_pos x; omega)
  simp (maxSteps := 4000000) (disch := first | omega | (simp only [LL]; omega)) only [go_sem]
  rw [hr, e]
theorem M_115 [SpC] (p q : Int) (hp : nd p < 2 ^ 26) (hq : nd q < 2 ^ 26) : M X 115 [.agg [zS p, zD p], .agg [zS q, zD q]] = some (.agg [zS (Rat.num (Rat.divInt p q)), zD (Rat.num (Rat.divInt p q)), zS (dz (Rat.divInt p q)), zD (dz (Rat.divInt p q))]) := by
 refine M_of X (fn := Tryz.f115) Tryz.func115 rfl ok_115 mode_115 res_115 _ rfl _ ?_
 intro r hr
 by_cases h0 : q = 0
 ·have n0 := nd_zero q h0
  simp (maxSteps := 4000000) (disch := first | omega | (simp only [LL]; omega)) only [go_sem, n0]
  rw [hr, zz_rat, h0, Rat.divInt_zero]
 ·have nq := nd_pos q h0
  by_cases h1 : p = 0
  ·have n0 := nd_zero p h1
   simp (maxSteps := 4000000) (disch := first | omega | (simp only [LL]; omega)) only [go_sem, n0]
   rw [hr, zz_rat, h1, Rat.zero_divInt]
  ·have np := nd_pos p h1
   have hg := M_180 p q (by omega) (by omega)
   have gl : nd (Int.gcd p q : Int) ≤ nd q := nd_mono (by have := Nat.le_of_dvd (by omega) (Nat.gcd_dvd_right p.natAbs q.natAbs); exact this)
   obtain ⟨g1, g2, g3⟩ := divInt_gcd (p := p) h0
   have g0 : (Int.gcd p q : Int) ≠ 0 := by
    intro h
    have : Int.gcd p q = 0 := by omega
    exact h0 (Int.gcd_eq_zero_iff.1 this).2
   have hd1 := M_181 p (Int.gcd p q) (by omega) (by omega) g0
   have hd2 := M_181 q (Int.gcd p q) (by omega) (by omega) g0
   have k1 : nd (p / Int.gcd p q) ≤ nd p := nd_mono (by rw [Int.natAbs_ediv_of_dvd (Int.gcd_dvd_left ..)]; exact Nat.div_le_self _ _)
   have k2 : nd (q / Int.gcd p q) ≤ nd q := nd_mono (by rw [Int.natAbs_ediv_of_dvd (Int.gcd_dvd_right ..)]; exact Nat.div_le_self _ _)
   rw [← g1] at hr
   generalize p / Int.gcd p q = a at *
   generalize q / Int.gcd p q = b at *
   by_cases hb : b < 0
   ·have n1 := M_182 a (by omega)
    have n2 := M_182 b (by omega)
    have u := M_183 (-b) (by rw [nd_neg]; omega)
    obtain ⟨e1, e2⟩ := dI (p := -a) (q := -b) (by omega) (by rw [gcd_neg_neg]; exact g2)
    rw [divInt_neg_neg] at e1 e2
    rw [zS_neg b hb] at hd2 n2
    by_cases h2 : -b = 1
    ·rw [decide_eq_true h2] at u
     simp (maxSteps := 4000000) (disch := first | omega | (simp only [LL]; omega)) only [go_sem, mode_180, mode_181, mode_182, mode_183, hg, hd1, hd2, n1, n2, u]
     rw [hr, dz_one (by omega), e1, zz_nil, zz_false]
    ·rw [decide_eq_false h2] at u
     simp (maxSteps := 4000000) (disch := first | omega | (simp only [LL]; omega)) only [go_sem, mode_180, mode_181, mode_182, mode_183, hg, hd1, hd2, n1, n2, u]
     rw [hr, dz_ne (by omega), e1, e2]
   ·have u := M_183 b (by omega)
    obtain ⟨e1, e2⟩ := dI (p := a) (q := b) (by omega) g2
    have hs := zS_pos b (Int.not_lt.1 hb)
    by_cases h2 : b = 1
    ·rw [decide_eq_true h2] at u
     rw [hs] at u hd2
     simp (maxSteps := 4000000) (disch := first | omega | (simp only [LL]; omega)) only [go_sem, mode_180, mode_181, mode_183, hg, hd1, hd2, u]
     rw [hr, dz_one (by omega), e1, zz_nil, zz_false]
    ·rw [decide_eq_false h2] at u
     rw [hs] at u hd2
     simp (maxSteps := 4000000) (disch := first | omega | (simp only [LL]; omega)) only [go_sem, mode_180, mode_181, mode_183, hg, hd1, hd2, u]
     rw [hr, dz_ne (by omega), e1, e2, hs]
theorem M_44 [SpC] (p q : Int) (hp : -9223372036854775808 ≤ p ∧ p ≤ 9223372036854775807) (hq : -9223372036854775808 ≤ q ∧ q ≤ 9223372036854775807) : M X 44 [.int .i64 p, .int .i64 q] = some (.agg [zS (Rat.num (Rat.divInt p q)), zD (Rat.num (Rat.divInt p q)), zS (dz (Rat.divInt p q)), zD (dz (Rat.divInt p q))]) := by
 refine M_of X (fn := Tryz.f44) Tryz.func44 rfl ok_44 mode_44 res_44 _ rfl _ ?_
 intro r hr
 have h1 := M_116 p hp
 have h2 := M_116 q hq
 have b1 := nd_small p (by omega)
 have b2 := nd_small q (by omega)
 have h3 := M_115 p q (by omega) (by omega)
 simp (maxSteps := 4000000) (disch := first | omega | (simp only [LL]; omega)) only [go_sem, mode_116, mode_115, h1, h2, h3]
 rw [hr]
theorem M_90 [SpC] {x : Rat} {n : Nat} [hx : RS x n] (h : n < 2 ^ 26) : M X 90 [.agg [zS (Rat.num (x)), zD (Rat.num (x)), zS (dz (x)), zD (dz (x))]] = some (.int .i64 (cmpQ x 0)) := by
 refine M_of X (fn := Tryz.f90) Tryz.func90 rfl ok_90 mode_90 res_90 _ rfl _ ?_
 intro r hr
 have a1 := hx.num
 have h := M_165 x.num (by omega)
 rw [cmpQ_sign] at h
 simp (maxSteps := 4000000) (disch := first | omega | (simp only [LL]; omega)) only [go_sem, mode_165, h]
 rw [hr]
theorem M_49 [SpC] {x y : Rat} {n m : Nat} [hx : RS x n] [hy : RS y m] (h : n + m < 2 ^ 25) : M X 49 [.agg [zS (Rat.num (x)), zD (Rat.num (x)), zS (dz (x)), zD (dz (x))], .agg [zS (Rat.num (y)), zD (Rat.num (y)), zS (dz (y)), zD (dz (y))]] = some (.agg [zS (Rat.num (x + y)), zD (Rat.num (x + y)), zS (dz (x + y)), zD (dz (x + y))]) := by
 refine M_of X (fn := Tryz.f49) Tryz.func49 rfl ok_49 mode_49 res_49 _ rfl _ ?_
 intro r hr
 have a1 := hx.num; have a2 := hx.den; have a3 := hy.num; have a4 := hy.den
 have b1 := nd_mul x.num y.den; have b2 := nd_mul y.num x.den; have b3 := nd_mul (x.den : Int) y.den
 have b4 := nd_add (x.num * y.den) (y.num * x.den)
 have m1 := M_117 x.num y.den (by omega) (by omega)
 have m2 := M_117 y.num x.den (by omega) (by omega)
 have m3 := M_117 x.den y.den (by omega) (by omega)
 have m4 := M_119 (x.num * y.den) (y.num * x.den) (by omega) (by omega)
 have m5 := M_115 (x.num * y.den + y.num * x.den) (x.den * y.den) (by omega) (by omega)
 have d1 := M_118 x
 have d2 := M_118 y
 rw [← add_divInt] at m5
 simp (maxSteps := 4000000) (disch := first | omega | (simp only [LL]; omega)) only [go_sem, mode_118, mode_115, mode_117, mode_119, d1, d2, m1, m2, m3, m4, m5]
 rw [hr]
theorem M_93 [SpC] {x y : Rat} {n m : Nat} [hx : RS x n] [hy : RS y m] (h : n + m < 2 ^ 25) : M X 93 [.agg [zS (Rat.num (x)), zD (Rat.num (x)), zS (dz (x)), zD (dz (x))], .agg [zS (Rat.num (y)), zD (Rat.num (y)), zS (dz (y)), zD (dz (y))]] = some (.int .i64 (cmpQ x y)) := by
 refine M_of X (fn := Tryz.f93) Tryz.func93 rfl ok_93 mode_93 res_93 _ rfl _ ?_
 intro r hr
 have a1 := hx.num; have a2 := hx.den; have a3 := hy.num; have a4 := hy.den
 have b1 := nd_mul x.num y.den; have b2 := nd_mul y.num x.den
 have m1 := M_117 x.num y.den (by omega) (by omega)
 have m2 := M_117 y.num x.den (by omega) (by omega)
 have c := M_171 (x.num * y.den) (y.num * x.den) (by omega) (by omega)
 have d1 := M_118 x
 have d2 := M_118 y
 rw [cmpQ_num] at c
 simp (maxSteps := 4000000) (disch := first | omega | (simp only [LL]; omega)) only [go_sem, mode_118, mode_117, mode_171, d1, d2, m1, m2, c]
 rw [hr]
section
theorem off_off (n a b : Nat) : (n + a == n + b) = (a == b) := by
 by_cases h : a = b
 ·subst h; rw [beq_yes rfl, beq_yes rfl]
 ·rw [beq_no h, beq_no (by omega)]
attribute [go_sem] off_off
def unQ (Y : Ctx) [b : HC] (E : Ex → St → Prop) : Ex → St → Prop
 | .normal, s => @W Y ⟨.loop b.code⟩ s E
 | e, s => E e s
theorem W_unroll {Y : Ctx} {b : Code} {s : St} {E : Ex → St → Prop} : @W Y ⟨.loop b⟩ s E = @W Y ⟨b⟩ s (@unQ Y ⟨b⟩ E) := by
 have hD : D Y (.loop b) s = nx (D Y b s) fun | (.normal, st') => D Y (.loop b) st' | r => some r := by rw [D_eq, runWith]; rfl
 show PD (D Y (.loop b) s) E = PD (D Y b s) _
 rw [hD]
 cases D Y b s with
 | none => rw [nx_none, PD_none, PD_none]
 | some r =>
  obtain ⟨e, s'⟩ := r
  rw [nx_some, PD_some]
  cases e with
  | normal => rfl
  | exit i => exact PD_some _ _ _
  | ret => exact PD_some _ _ _
theorem unQ_normal {Y : Ctx} {b : Code} {E : Ex → St → Prop} {s : St} : @unQ Y ⟨b⟩ E .normal s = @W Y ⟨.loop b⟩ s E := nr rfl
theorem unQ_ret {Y : Ctx} [b : HC] {E : Ex → St → Prop} {s : St} : unQ Y E .ret s = E .ret s := nr rfl
theorem unQ_exit {Y : Ctx} [b : HC] {E : Ex → St → Prop} {i : Nat} {s : St} : unQ Y E (.exit i) s = E (.exit i) s := nr rfl
def arnd (n m : Int) : Int := (if n < 0 then -(n + 1) else n) % m
theorem arnd_bd (n m : Int) (h : 0 < m) : 0 ≤ arnd n m ∧ arnd n m < m := ⟨Int.emod_nonneg _ (by omega), Int.emod_lt_of_pos _ h⟩
def ok64 (n : Int) : Prop := -9223372036854775808 ≤ n ∧ n ≤ 9223372036854775807
def okI (l : List Int) : Prop := ∀ x ∈ l, ok64 x
theorem okI_getD {l : List Int} (h : okI l) (k : Nat) : ok64 (l.getD k 0) := by
 rw [List.getD_eq_getElem?_getD]
 by_cases hk : k < l.length
 ·rw [List.getElem?_eq_getElem hk]; exact h _ (List.getElem_mem hk)
 ·rw [List.getElem?_eq_none (by omega)]; simp [ok64]
theorem M_15 [SpC] (n m : Int) (hn : ok64 n) (hm : 0 < m) : M X 15 [.int .i64 n, .int .i64 m] = some (.int .i64 (arnd n m)) := by
 refine M_of X (fn := Tryz.f15) Tryz.func15 rfl ok_15 mode_15 res_15 _ rfl _ ?_
 intro r hr
 obtain ⟨h1, h2⟩ := hn
 by_cases h0 : n < 0
 ·simp (maxSteps := 4000000) (disch := first | omega | (simp only [LL]; omega)) only [go_sem]
  rw [hr, arnd, if_pos h0]
  congr 2
  omega
 ·simp (maxSteps := 4000000) (disch := first | omega | (simp only [LL]; omega)) only [go_sem]
  rw [hr, arnd, if_neg h0]
def atN (l : List Int) (k : Nat) (m : Int) : Int := arnd (l.getD k 0) m
theorem atN_bd (l : List Int) (k : Nat) (m : Int) (h : 0 < m) : 0 ≤ atN l k m ∧ atN l k m < m := arnd_bd _ _ h
theorem M_45 [SpC] (l : List Int) (k m : Int) (hl : okI l) (hk : 0 ≤ k) (hm : 0 < m) : M X 45 [isl l, .int .i64 k, .int .i64 m] = some (.int .i64 (atN l k.toNat m)) := by
 refine M_of X (fn := Tryz.f45) Tryz.func45 rfl ok_45 mode_45 res_45 _ rfl _ ?_
 intro r hr
 have ha := M_15 (l.getD k.toNat 0) m (okI_getD hl _) hm
 by_cases h1 : k < l.length
 ·simp (maxSteps := 4000000) (disch := first | omega | (simp only [LL]; omega)) only [go_sem, mode_15, ha]
  rw [hr]; rfl
 ·simp (maxSteps := 4000000) (disch := first | omega | (simp only [LL]; omega)) only [go_sem]
  rw [hr, atN, getD_over _ _ (by omega), arnd]; simp
theorem nd_lit {x : Int} {k : Nat} (h : x.natAbs < Bn ^ k) : nd x ≤ k := nd_le_of h
instance rs_half : RS (Rat.divInt 1 2) 1 := rs_divInt (by omega) (nd_lit (by decide)) (nd_lit (by decide))
instance rs_min {x y : Rat} {n m : Nat} [hx : RS x n] [hy : RS y m] : RS (min x y) (n + m) := by
 rw [Rat.min_def]; split
 ·exact hx.mono (by omega)
 ·exact hy.mono (by omega)
instance rs_max {x y : Rat} {n m : Nat} [hx : RS x n] [hy : RS y m] : RS (max x y) (n + m) := by
 rw [Rat.max_def]; split
 ·exact hy.mono (by omega)
 ·exact hx.mono (by omega)
theorem replA_1 (zc : List AV) : replA 1 zc = zc := by simp [replA]
theorem replA_2 (zc : List AV) : replA 2 zc = zc ++ zc := by simp [replA, List.replicate]
theorem replA_3 (zc : List AV) : replA 3 zc = zc ++ (zc ++ zc) := by simp [replA, List.replicate]
theorem replA_4 (zc : List AV) : replA 4 zc = zc ++ (zc ++ (zc ++ zc)) := by simp [replA, List.replicate]
theorem replA_5 (zc : List AV) : replA 5 zc = zc ++ (zc ++ (zc ++ (zc ++ zc))) := by simp [replA, List.replicate]
theorem weak_rptr (cs : List AV) : (AV.rptr cs).weak = .rptr (AV.weak.go cs) := by simp [AV.weak]
theorem weaks_all {l : List AV} (h : ∀ c ∈ l, c.weak = c) : AV.weak.go l = l := by
 induction l with
 | nil => rfl
 | cons a l ih => rw [weakgo_cons, h a (by simp), ih fun c hc => h c (by simp [hc])]
def GrowC (lo : Nat) (h : Heap) (nx : Nat) (v : AV) (cs : List AV) (n s : Nat) : Prop := (v = .ro [] 0 true ∧ cs = [] ∧ n = 0) ∨ ∃ B, (lo ≤ B ∧ B < nx) ∧ v = .sl B 0 n none s ∧ h B = some (.cells cs true false)
theorem growC_nil (lo : Nat) (h : Heap) (nx s : Nat) : GrowC lo h nx (.ro [] 0 true) [] 0 s := .inl ⟨rfl, rfl, rfl⟩
theorem growC_put (lo : Nat) (h : Heap) (nx b n s : Nat) (cs : List AV) (hb : lo ≤ b ∧ b < nx) : GrowC lo (upd h b (some (.cells cs true false))) nx (.sl b 0 n none s) cs n s := .inr ⟨b, hb, rfl, by simp [upd_apply]⟩
abbrev Pt := Int × Int
def ptC : List Pt → List AV
 | [] => []
 | p :: l => .int .i64 p.1 :: .int .i64 p.2 :: ptC l
theorem ptC_length (l : List Pt) : (ptC l).length = 2 * l.length := by
 induction l with
 | nil => rfl
 | cons x l ih => simp [ptC, ih]; omega
theorem ptC_take (l : List Pt) (k : Nat) (h : k < l.length) : List.take 2 (List.drop (k * 2) (ptC l)) = [.int .i64 (l.getD k (0, 0)).1, .int .i64 (l.getD k (0, 0)).2] := by
 induction l generalizing k with
 | nil => simp at h
 | cons x l ih =>
  cases k with
  | zero => simp [ptC]
  | succ k =>
   have := ih k (by simpa using h)
   rw [show (k + 1) * 2 = k * 2 + 2 by omega]
   simpa [ptC] using this
theorem ptC_drop (l : List Pt) (k : Nat) (h : k < l.length) : List.drop (k * 2) (ptC l) = [.int .i64 (l.getD k (0, 0)).1, .int .i64 (l.getD k (0, 0)).2] ++ ptC (l.drop (k + 1)) := by
 induction l generalizing k with
 | nil => simp at h
 | cons x l ih =>
  cases k with
  | zero => simp [ptC]
  | succ k =>
   have := ih k (by simpa using h)
   rw [show (k + 1) * 2 = k * 2 + 2 by omega]
   simpa [ptC] using this
theorem ptC_all (P : AV → Prop) (hs : ∀ z, P (.int .i64 z)) (l : List Pt) : ∀ c ∈ ptC l, P c := by
 induction l with
 | nil => intro c hc; simp [ptC] at hc
 | cons b l ih =>
  intro c hc
  simp only [ptC, List.mem_cons] at hc
  rcases hc with rfl | rfl | hc
  ·exact hs _
  ·exact hs _
  ·exact ih _ hc
theorem snaps_ptC (h : Heap) (d : Nat) (l : List Pt) : snaps (snap h (d + 1)) (ptC l) = some (ptC l, []) := snaps_of (ptC_all _ (fun _ => snap_int ..) l)
theorem weaks_ptC (l : List Pt) : AV.weak.go (ptC l) = ptC l := weaks_all (ptC_all _ (fun _ => weak_int ..) l)
theorem rs_small {p q : Int} (hp : p.natAbs < 1000) (hq : q.natAbs < 1000) : RS (Rat.divInt p q) 1 := rs_divInt (by omega) (nd_lit (by simp only [Bn]; omega)) (nd_lit (by simp only [Bn]; omega))
def minP (pr : Pt → Int) (l : List Pt) : Nat → Pt
 | 0 => l.getD 0 (0, 0)
 | n + 1 => if pr (l.getD (n + 1) (0, 0)) < pr (minP pr l n) then l.getD (n + 1) (0, 0) else minP pr l n
def maxP (pr : Pt → Int) (l : List Pt) : Nat → Pt
 | 0 => l.getD 0 (0, 0)
 | n + 1 => if pr (maxP pr l n) < pr (l.getD (n + 1) (0, 0)) then l.getD (n + 1) (0, 0) else maxP pr l n
def lowZ (pr : Pt → Int) (l : List Pt) : Nat → Int
 | 0 => pr (l.getD 0 (0, 0))
 | n + 1 => min (lowZ pr l n) (pr (l.getD (n + 1) (0, 0)))
def topZ (pr : Pt → Int) (l : List Pt) : Nat → Int
 | 0 => pr (l.getD 0 (0, 0))
 | n + 1 => max (topZ pr l n) (pr (l.getD (n + 1) (0, 0)))
theorem pr_minP (pr : Pt → Int) (l : List Pt) : ∀ n, pr (minP pr l n) = lowZ pr l n
 | 0 => rfl
 | n + 1 => by
  have := pr_minP pr l n
  unfold minP lowZ
  split <;> omega
theorem pr_maxP (pr : Pt → Int) (l : List Pt) : ∀ n, pr (maxP pr l n) = topZ pr l n
 | 0 => rfl
 | n + 1 => by
  have := pr_maxP pr l n
  unfold maxP topZ
  split <;> omega
class Enc {α : Type} (f : α → List AV) (k : outParam Nat) : Prop where
 len : ∀ a, (f a).length = k
 wk : ∀ a, ∀ c ∈ f a, c.weak = c
 sn : ∀ a, ∀ c ∈ f a, ∀ h d, snap h (d + 1) c = some (c, [])
def cat {α : Type} (f : α → List AV) : List α → List AV
 | [] => []
 | a :: l => f a ++ cat f l
section
variable {α : Type} {f : α → List AV} {k : Nat} [he : Enc f k]
theorem cat_nil : cat f [] = [] := nr rfl
theorem cat_cons (a : α) (l : List α) : cat f (a :: l) = f a ++ cat f l := nr rfl
include he in
theorem cat_length (l : List α) : (cat f l).length = l.length * k := by
 induction l with
 | nil => simp [cat]
 | cons a l ih => rw [cat_cons, List.length_append, he.len, ih, List.length_cons, Nat.add_mul]; omega
theorem cat_append (l m : List α) : cat f (l ++ m) = cat f l ++ cat f m := by
 induction l with
 | nil => rfl
 | cons a l ih => rw [List.cons_append, cat_cons, ih, cat_cons, List.append_assoc]
theorem cat_snoc (l : List α) (a : α) : cat f (l ++ [a]) = cat f l ++ f a := by rw [cat_append, cat_cons, cat_nil, List.append_nil]
include he in
theorem cat_dropl (l : List α) (i : Nat) : (cat f l).drop (i * k) = cat f (l.drop i) := by
 induction l generalizing i with
 | nil => simp [cat]
 | cons a l ih =>
  cases i with
  | zero => simp
  | succ i => rw [cat_cons, Nat.add_mul, Nat.one_mul, Nat.add_comm (i * k), ← List.drop_drop, List.drop_left' (he.len a), ih, List.drop_succ_cons]
include he in
theorem cat_takel (l : List α) (i : Nat) : (cat f l).take (i * k) = cat f (l.take i) := by
 induction l generalizing i with
 | nil => simp [cat]
 | cons a l ih =>
  cases i with
  | zero => simp [cat]
  | succ i => rw [cat_cons, Nat.add_mul, Nat.one_mul, Nat.add_comm (i * k), List.take_append, List.take_of_length_le (by rw [he.len]; omega), he.len, Nat.add_sub_cancel_left, ih, List.take_succ_cons, cat_cons]
include he in
theorem cat_drop {l : List α} {i : Nat} {a : α} (ha : l[i]? = some a) : (cat f l).drop (i * k) = f a ++ cat f (l.drop (i + 1)) := by
 rw [cat_dropl]
 obtain ⟨hi, rfl⟩ := List.getElem?_eq_some_iff.1 ha
 rw [List.drop_eq_getElem_cons hi, cat_cons]
include he in
theorem cat_take {l : List α} {i : Nat} {a : α} (ha : l[i]? = some a) : ((cat f l).drop (i * k)).take k = f a := by
 rw [cat_drop ha, List.take_append, he.len, Nat.sub_self, List.take_zero, List.append_nil, List.take_of_length_le (by rw [he.len]; omega)]
include he in
theorem weaks_cat (l : List α) : AV.weak.go (cat f l) = cat f l := weaks_all fun c hc => by
 induction l with
 | nil => simp [cat] at hc
 | cons a l ih =>
  rw [cat_cons] at hc
  exact (List.mem_append.1 hc).elim (he.wk a c) ih
include he in
theorem snaps_cat (h : Heap) (d : Nat) (l : List α) : snaps (snap h (d + 1)) (cat f l) = some (cat f l, []) := snaps_of fun c hc => by
 induction l with
 | nil => simp [cat] at hc
 | cons a l ih =>
  rw [cat_cons] at hc
  exact (List.mem_append.1 hc).elim (fun h' => he.sn a c h' h d) ih
include he in
theorem weaks_enc (a : α) : AV.weak.go (f a) = f a := weaks_all (he.wk a)
include he in
theorem snaps_enc (h : Heap) (d : Nat) (a : α) : snaps (snap h (d + 1)) (f a) = some (f a, []) := snaps_of fun c hc => he.sn a c hc h d
include he in
theorem cat_splice {l : List α} {i o : Nat} {a a' : α} {vs : List AV} (ha : l[i]? = some a) (ho : o + vs.length ≤ k) (hf : f a' = splice (f a) o vs) : splice (cat f l) (i * k + o) vs = cat f (l.set i a') := by
 have h1 := he.len a
 induction l generalizing i with
 | nil => simp at ha
 | cons b l ih =>
  cases i with
  | zero =>
   simp only [List.getElem?_cons_zero, Option.some.injEq] at ha
   subst ha
   rw [List.set_cons_zero, cat_cons, cat_cons, hf, splice, splice, Nat.zero_mul, Nat.zero_add, List.take_append_of_le_length (by omega), List.drop_append_of_le_length (by omega)]
   simp only [List.append_assoc]
  | succ i =>
   have := ih (by simpa using ha)
   rw [List.set_cons_succ, cat_cons, cat_cons, ← this, splice, splice, Nat.add_mul, Nat.one_mul]
   have h2 := he.len b
   rw [show i * k + k + o = (f b).length + (i * k + o) by omega, show (f b).length + (i * k + o) + vs.length = (f b).length + (i * k + o + vs.length) by omega, List.take_length_add_append, List.drop_length_add_append]
   simp only [List.append_assoc]
end
theorem getD_some {α : Type} {l : List α} {i : Nat} (h : i < l.length) (d : α) : l[i]? = some (l.getD i d) := by simp [List.getD_eq_getElem?_getD, List.getElem?_eq_getElem h]
end
theorem M_205 [SpC] (x : Nat) (hx : x < 1000000000000000000) : M X 205 [.agg [zS x, zD x]] = some (.tuple [.int .i64 x, .bool true]) := by
 refine M_of X (fn := Tryz.f205) Tryz.func205 rfl ok_205 mode_205 res_205 _ rfl _ ?_
 intro r hr
 rw [zS_pos (x : Int) (by omega)]
 by_cases h0 : x = 0
 ·rw [zD_nil x (by omega)]
  simp (maxSteps := 4000000) (disch := first | omega | (simp only [LL]; omega)) only [go_sem]
  rw [W_unroll]
  simp (maxSteps := 4000000) (disch := first | omega | (simp only [LL]; omega)) only [go_sem, unQ_normal, unQ_ret, unQ_exit]
  rw [hr, h0]; rfl
 ·by_cases h1 : x < 1000000000
  ·rw [zD_one x (by omega) (by omega), Int.natAbs_natCast]
   simp (maxSteps := 4000000) (disch := first | omega | (simp only [LL]; omega)) only [go_sem]
   iterate 2
    rw [W_unroll]
    simp (maxSteps := 4000000) (disch := first | omega | (simp only [LL]; omega)) only [go_sem, unQ_normal, unQ_ret, unQ_exit]
   rw [hr]
   congr 3; omega
  ·rw [zD_two x (by omega) (by omega), Int.natAbs_natCast]
   simp (maxSteps := 4000000) (disch := first | omega | (simp only [LL]; omega)) only [go_sem]
   iterate 3
    rw [W_unroll]
    simp (maxSteps := 4000000) (disch := first | omega | (simp only [LL]; omega)) only [go_sem, unQ_normal, unQ_ret, unQ_exit]
   rw [hr]
   congr 3; omega
theorem tmod_gcd (a b : Int) : Int.gcd b (a.tmod b) = Int.gcd a b := by
 show Nat.gcd b.natAbs (a.tmod b).natAbs = Nat.gcd a.natAbs b.natAbs
 rw [Int.natAbs_tmod, gcd_step]
theorem M_193 [SpC] (a b : Int) (ha : -4611686018427387904 ≤ a ∧ a ≤ 4611686018427387904) (hb : -4611686018427387904 ≤ b ∧ b ≤ 4611686018427387904) : M X 193 [.int .i64 a, .int .i64 b] = some (.int .i64 (Int.gcd a b)) := by
 refine M_of X (fn := Tryz.f193) Tryz.func193 rfl ok_193 mode_193 res_193 _ rfl _ ?_
 intro r hr
 simp (maxSteps := 4000000) (disch := first | omega | (simp only [LL]; omega)) only [go_sem]
 refine W_loop X (fun (n : Nat) s => ∃ x y : Int, n = y.natAbs ∧ s.env 0 = .int .i64 x ∧ s.env 1 = .int .i64 y ∧ Int.gcd x y = Int.gcd a b ∧ (-4611686018427387904 ≤ x ∧ x ≤ 4611686018427387904) ∧ (-4611686018427387904 ≤ y ∧ y ≤ 4611686018427387904)) (fun n => n) ?_ b.natAbs _ ?_
 ·rintro n ⟨env, heap, nx⟩ ⟨x, y, hn, g0, g1, hg, hx, hy⟩
  simp only at g0 g1
  by_cases h0 : y = 0
  ·rw [h0, Int.gcd_zero_right] at hg
   have hmax : (if x < 0 - x then 0 - x else x) = (Int.gcd a b : Int) := by rw [← hg]; split <;> omega
   simp (maxSteps := 4000000) (disch := first | omega | (simp only [LL]; omega)) only [go_sem, g0, g1, hmax]
   rw [hr]
  ·have h1 := Int.natAbs_tmod x y
   have h2 := Nat.mod_lt x.natAbs (show 0 < y.natAbs by omega)
   simp (maxSteps := 4000000) (disch := first | omega | (simp only [LL]; omega)) only [go_sem, g0, g1]
   exact ⟨(x.tmod y).natAbs, ⟨y, x.tmod y, rfl, rfl, rfl, by rw [tmod_gcd, hg], hy, by omega⟩, by omega⟩
 ·simp (maxSteps := 4000000) (disch := first | omega | (simp only [LL]; omega)) only [go_sem]
  exact ⟨a, b, rfl, rfl, rfl, rfl, ha, hb⟩
def sq2 (x y : Int) : Nat := x.natAbs * x.natAbs + y.natAbs * y.natAbs
def normH (x y : Int) : Nat := isqGo (x.natAbs + y.natAbs) (sq2 x y)
theorem normH_eq (x y : Int) : isq (sq2 x y) = normH x y := by
 have h1 := isq_spec (sq2 x y)
 have h2 := isqGo_spec (x.natAbs + y.natAbs) (sq2 x y) (by
  unfold sq2
  generalize x.natAbs = m
  generalize y.natAbs = n
  have : m * m + n * n ≤ (m + n) * (m + n) := by
   rw [Nat.add_mul, Nat.mul_add, Nat.mul_add]; omega
  have h : (m + n) * (m + n) < (m + n + 1) * (m + n + 1) := Nat.mul_lt_mul_of_lt_of_lt (by omega) (by omega)
  omega)
 have h3 := le_isq h2.1
 have h4 := isq_le (n := sq2 x y) (r := normH x y) h2.2
 exact Nat.le_antisymm h4 h3
def normG (x y : Int) : Nat := Int.gcd (Int.gcd x y) (normH x y)
def normOk (x y : Int) : Bool := decide (normH x y * normH x y = sq2 x y ∧ normH x y ≠ 0)
abbrev Dr := Int × Int × Int
abbrev drC (d : Dr) : List AV := [.int .i64 d.1, .int .i64 d.2.1, .int .i64 d.2.2]
def normV (x y : Int) : Dr := if normOk x y then (y.tdiv (normG x y), (0 - x).tdiv (normG x y), (normH x y : Int) / (normG x y)) else (0, 0, 0)
theorem sq2_int (x y : Int) : (sq2 x y : Int) = x * x + y * y := by
 rw [sq2, Int.natCast_add, Int.natCast_mul, Int.natCast_mul, Int.natAbs_mul_self', Int.natAbs_mul_self']
theorem sq2_le {x y : Int} {k : Nat} (hx : x.natAbs ≤ k) (hy : y.natAbs ≤ k) : sq2 x y ≤ 2 * (k * k) := by
 have h1 := Nat.mul_le_mul hx hx
 have h2 := Nat.mul_le_mul hy hy
 rw [sq2]; omega
theorem isq_self (n : Nat) : isq n ≤ n := isq_le (by
 have : n * 1 ≤ n * (n + 1) := Nat.mul_le_mul_left n (by omega)
 rw [Nat.add_mul]; omega)
def okp (p : Pt) : Prop := (-1048576 ≤ p.1 ∧ p.1 ≤ 1048576) ∧ (-1048576 ≤ p.2 ∧ p.2 ≤ 1048576)
theorem M_143 [SpC] (a b : Pt) (ha : okp a) (hb : okp b) : M X 143 [.agg [.int .i64 a.1, .int .i64 a.2], .agg [.int .i64 b.1, .int .i64 b.2]] =
  some (.tuple [.agg (drC (normV (b.1 - a.1) (b.2 - a.2))), .bool (normOk (b.1 - a.1) (b.2 - a.2))]) := by
 refine M_of X (fn := Tryz.f143) Tryz.func143 rfl ok_143 mode_143 res_143 _ rfl _ ?_
 intro r hr
 obtain ⟨⟨a1, a2⟩, a3, a4⟩ := ha
 obtain ⟨⟨b1, b2⟩, b3, b4⟩ := hb
 obtain ⟨x, hx⟩ : ∃ x, x = b.1 - a.1 := ⟨_, rfl⟩
 obtain ⟨y, hy⟩ : ∃ y, y = b.2 - a.2 := ⟨_, rfl⟩
 rw [← hx, ← hy] at hr
 have hle := sq2_le (x := x) (y := y) (k := 2097152) (by omega) (by omega)
 have hin := sq2_int x y
 have hxx : x * x = (x.natAbs * x.natAbs : Nat) := by rw [Int.natCast_mul, Int.natAbs_mul_self']
 have hyy : y * y = (y.natAbs * y.natAbs : Nat) := by rw [Int.natCast_mul, Int.natAbs_mul_self']
 have hq1 : x.natAbs * x.natAbs ≤ sq2 x y := by rw [sq2]; omega
 have hq2 : y.natAbs * y.natAbs ≤ sq2 x y := by rw [sq2]; omega
 have hnd := nd_small (sq2 x y : Int) (by omega)
 have hrt := M_204 (sq2 x y) (by omega)
 have hof := M_147 (x * x + y * y) (by omega)
 rw [← hin] at hof
 have hsm := M_205 (normH x y) (by have := isq_self (sq2 x y); rw [normH_eq] at this; omega)
 rw [normH_eq] at hrt
 by_cases hok : normH x y * normH x y = sq2 x y
 ·rw [decide_eq_true hok] at hrt
  by_cases h0 : normH x y = 0
  ·have hN : normOk x y = false := decide_eq_false (by omega)
   simp (maxSteps := 4000000) (disch := first | omega | (simp only [LL]; omega)) only [go_sem, ← hx, ← hy, ← hin, hrt, hof, hsm]
   rw [hr, normV, hN]; rfl
  ·have hN : normOk x y = true := decide_eq_true ⟨hok, h0⟩
   have hle2 : normH x y ≤ sq2 x y := by rw [← normH_eq]; exact isq_self _
   have hg1 := M_193 x y (by omega) (by omega)
   have hgl : Int.gcd x y ≤ sq2 x y := by
    by_cases hx0 : x = 0
    ·rw [hx0, Int.gcd_zero_left, sq2]
     have : y.natAbs * 1 ≤ y.natAbs * y.natAbs ∨ y.natAbs = 0 := by
      by_cases h : y.natAbs = 0
      ·exact .inr h
      ·exact .inl (Nat.mul_le_mul_left _ (by omega))
     rw [hx0] at *
     omega
    ·have h1 := Nat.gcd_le_left y.natAbs (show 0 < x.natAbs by omega)
     have h2 : x.natAbs * 1 ≤ x.natAbs * x.natAbs := Nat.mul_le_mul_left _ (by omega)
     rw [Int.gcd]; omega
   have hg2 := M_193 (Int.gcd x y) (normH x y) (by omega) (by omega)
   rw [show Int.gcd (Int.gcd x y) (normH x y) = normG x y from rfl] at hg2
   have hgp : 0 < normG x y := Nat.pos_of_ne_zero fun h => h0 (by have := Int.gcd_eq_zero_iff.1 h; omega)
   simp (maxSteps := 4000000) (disch := first | omega | (simp only [LL]; omega)) only [go_sem, ← hx, ← hy, ← hin, hrt, hof, hsm, mode_193, hg1, hg2]
   have w1 : IntKind.wrap .i64 (y.tdiv (normG x y)) = y.tdiv (normG x y) := IntWalk.i64_in _ (by have := Int.natAbs_tdiv_le_natAbs y (normG x y); omega)
   have w2 : IntKind.wrap .i64 ((0 - x).tdiv (normG x y)) = (0 - x).tdiv (normG x y) := IntWalk.i64_in _ (by have := Int.natAbs_tdiv_le_natAbs (0 - x) (normG x y); omega)
   rw [hr, normV, hN, w1, w2]; rfl
 ·have hN : normOk x y = false := decide_eq_false (by omega)
  rw [decide_eq_false hok] at hrt
  simp (maxSteps := 4000000) (disch := first | omega | (simp only [LL]; omega)) only [go_sem, ← hx, ← hy, ← hin, hrt, hof, hsm]
  rw [hr, normV, hN]; rfl
theorem M_144 [SpC] (l : List Pt) (i : Nat) (hi : i < l.length) (hl : l.length < 2 ^ 30) : M X 144 [.ro (ptC l) l.length false, .int .i64 i] =
  some (.agg [.int .i64 (l.getD ((i + 1) % l.length) (0, 0)).1, .int .i64 (l.getD ((i + 1) % l.length) (0, 0)).2]) := by
 refine M_of X (fn := Tryz.f144) Tryz.func144 rfl ok_144 mode_144 res_144 _ rfl _ ?_
 intro r hr
 have hl2 := ptC_length l
 have hm := Nat.mod_lt (i + 1) (show 0 < l.length by omega)
 have hd := ptC_take l ((i + 1) % l.length) hm
 have he : ((i + 1 : Nat) : Int) % l.length = (((i + 1) % l.length : Nat) : Int) := (Int.natCast_emod _ _).symm
 simp (maxSteps := 4000000) (disch := first | omega | (simp only [LL]; omega)) only [go_sem, hl2, he, hd]
 rw [hr]
def crossP (a b c : Pt) : Int := (b.1 - a.1) * (c.2 - a.2) - (b.2 - a.2) * (c.1 - a.1)
theorem prodb {x y : Int} (hx : -2097152 ≤ x ∧ x ≤ 2097152) (hy : -2097152 ≤ y ∧ y ≤ 2097152) : -4398046511104 ≤ x * y ∧ x * y ≤ 4398046511104 := by
 have h := Nat.mul_le_mul (show x.natAbs ≤ 2097152 by omega) (show y.natAbs ≤ 2097152 by omega)
 have h2 := Int.natAbs_mul x y
 omega
theorem M_192 [SpC] (a b c : Pt) (ha : okp a) (hb : okp b) (hc : okp c) : M X 192 [.agg [.int .i64 a.1, .int .i64 a.2], .agg [.int .i64 b.1, .int .i64 b.2], .agg [.int .i64 c.1, .int .i64 c.2]] = some (.int .i64 (crossP a b c)) := by
 refine M_of X (fn := Tryz.f192) Tryz.func192 rfl ok_192 mode_192 res_192 _ rfl _ ?_
 intro r hr
 obtain ⟨⟨a1, a2⟩, a3, a4⟩ := ha
 obtain ⟨⟨b1, b2⟩, b3, b4⟩ := hb
 obtain ⟨⟨c1, c2⟩, c3, c4⟩ := hc
 have h1 := prodb (x := b.1 - a.1) (y := c.2 - a.2) (by omega) (by omega)
 have h2 := prodb (x := b.2 - a.2) (y := c.1 - a.1) (by omega) (by omega)
 simp (maxSteps := 4000000) (disch := first | omega | (simp only [LL]; omega)) only [go_sem]
 rw [hr]; rfl
inductive Nm where
 | z (p q : Int)
 | bad
 deriving DecidableEq
def Nm.c1 : Nm → AV
 | .z p _ => zS p
 | .bad => .bool false
def Nm.c2 : Nm → AV
 | .z p _ => zD p
 | .bad => .ro [.int .i64 0] 1 false
def Nm.c3 : Nm → AV
 | .z _ q => zS q
 | .bad => zS 2
def Nm.c4 : Nm → AV
 | .z _ q => zD q
 | .bad => zD 2
def ofQ (x : Rat) : Nm := .z x.num (dz x)
theorem c1_z (p q : Int) : (Nm.z p q).c1 = zS p := nr rfl
theorem c2_z (p q : Int) : (Nm.z p q).c2 = zD p := nr rfl
theorem c3_z (p q : Int) : (Nm.z p q).c3 = zS q := nr rfl
theorem c4_z (p q : Int) : (Nm.z p q).c4 = zD q := nr rfl
theorem c1_q (x : Rat) : (ofQ x).c1 = zS x.num := nr rfl
theorem c2_q (x : Rat) : (ofQ x).c2 = zD x.num := nr rfl
theorem c3_q (x : Rat) : (ofQ x).c3 = zS (dz x) := nr rfl
theorem c4_q (x : Rat) : (ofQ x).c4 = zD (dz x) := nr rfl
theorem weak_c1 (n : Nm) : n.c1.weak = n.c1 := by cases n <;> first | exact weak_zS _ | rfl
theorem weak_c2 (n : Nm) : n.c2.weak = n.c2 := by cases n <;> first | exact weak_zD _ | rfl
theorem weak_c3 (n : Nm) : n.c3.weak = n.c3 := by cases n <;> exact weak_zS _
theorem weak_c4 (n : Nm) : n.c4.weak = n.c4 := by cases n <;> exact weak_zD _
theorem snap_c1 (h : Heap) (d : Nat) (n : Nm) : snap h (d + 1) n.c1 = some (n.c1, []) := by cases n <;> first | exact snap_zS .. | rfl
theorem snap_c2 (h : Heap) (d : Nat) (n : Nm) : snap h (d + 1) n.c2 = some (n.c2, []) := by cases n <;> first | exact snap_zD .. | rfl
theorem snap_c3 (h : Heap) (d : Nat) (n : Nm) : snap h (d + 1) n.c3 = some (n.c3, []) := by cases n <;> exact snap_zS ..
theorem snap_c4 (h : Heap) (d : Nat) (n : Nm) : snap h (d + 1) n.c4 = some (n.c4, []) := by cases n <;> exact snap_zD ..
attribute [go_sem] weak_c1 weak_c2 weak_c3 weak_c4 snap_c1 snap_c2 snap_c3 snap_c4
structure DofR where
 inv : Rat
 load : Nm
 bd : Bool
 lo : Rat
 hi : Rat
 deriving DecidableEq
structure ColR where
 dof : Int
 x : Rat
 y : Rat
 s : Rat
 deriving DecidableEq
structure PartR where
 shape : List Pt
 hx : Rat
 hy : Rat
 cols : List ColR
 ro : Rat
 bo : Rat
 deriving DecidableEq
structure RopeR where
 a : Int
 b : Int
 fx : Rat
 fy : Rat
 tx : Rat
 ty : Rat
 dirs : List Dr
 len : Rat
 deriving DecidableEq
structure MdlR where
 dofs : List DofR
 parts : List PartR
 ropes : List RopeR
 skip : List Pt
 deriving DecidableEq
structure StaR where
 tick : Int
 q : List Rat
 v : List Rat
 here : List Bool
 deriving DecidableEq
def ratA (x : Rat) : List AV := [zS (Rat.num (x)), zD (Rat.num (x)), zS (dz (x)), zD (dz (x))]
def boolA (b : Bool) : List AV := [.bool b]
def dirA (d : Dr) : List AV := [.int .i64 d.1, .int .i64 d.2.1, .int .i64 d.2.2]
def dofA (d : DofR) : List AV := [zS (Rat.num (d.inv)), zD (Rat.num (d.inv)), zS (dz (d.inv)), zD (dz (d.inv)), d.load.c1, d.load.c2, d.load.c3, d.load.c4, .bool d.bd, zS (Rat.num (d.lo)), zD (Rat.num (d.lo)), zS (dz (d.lo)), zD (dz (d.lo)), zS (Rat.num (d.hi)), zD (Rat.num (d.hi)), zS (dz (d.hi)), zD (dz (d.hi))]
def colA (c : ColR) : List AV := [.int .i64 c.dof, zS (Rat.num (c.x)), zD (Rat.num (c.x)), zS (dz (c.x)), zD (dz (c.x)), zS (Rat.num (c.y)), zD (Rat.num (c.y)), zS (dz (c.y)), zD (dz (c.y)), zS (Rat.num (c.s)), zD (Rat.num (c.s)), zS (dz (c.s)), zD (dz (c.s))]
def partA (p : PartR) : List AV := [.ro (ptC p.shape) p.shape.length false, zS (Rat.num (p.hx)), zD (Rat.num (p.hx)), zS (dz (p.hx)), zD (dz (p.hx)), zS (Rat.num (p.hy)), zD (Rat.num (p.hy)), zS (dz (p.hy)), zD (dz (p.hy)), .ro (cat colA p.cols) p.cols.length false, zS (Rat.num (p.ro)), zD (Rat.num (p.ro)), zS (dz (p.ro)), zD (dz (p.ro)), zS (Rat.num (p.bo)), zD (Rat.num (p.bo)), zS (dz (p.bo)), zD (dz (p.bo))]
def ropeA (r : RopeR) : List AV := [.int .i64 r.a, .int .i64 r.b, zS (Rat.num (r.fx)), zD (Rat.num (r.fx)), zS (dz (r.fx)), zD (dz (r.fx)), zS (Rat.num (r.fy)), zD (Rat.num (r.fy)), zS (dz (r.fy)), zD (dz (r.fy)), zS (Rat.num (r.tx)), zD (Rat.num (r.tx)), zS (dz (r.tx)), zD (dz (r.tx)), zS (Rat.num (r.ty)), zD (Rat.num (r.ty)), zS (dz (r.ty)), zD (dz (r.ty)), .ro (cat dirA r.dirs) r.dirs.length false, zS (Rat.num (r.len)), zD (Rat.num (r.len)), zS (dz (r.len)), zD (dz (r.len))]
def mdlA (m : MdlR) : List AV := [.ro (cat dofA m.dofs) m.dofs.length false, .ro (cat partA m.parts) m.parts.length false, .ro (cat ropeA m.ropes) m.ropes.length false, .ro (ptC m.skip) m.skip.length false]
def staA (s : StaR) : List AV := [.int .i64 s.tick, .ro (cat ratA s.q) s.q.length false, .ro (cat ratA s.v) s.v.length false, .ro (cat boolA s.here) s.here.length false]
theorem ratA_eq (x : Rat) : ratA x = [zS (Rat.num (x)), zD (Rat.num (x)), zS (dz (x)), zD (dz (x))] := nr rfl
theorem boolA_eq (b : Bool) : boolA b = [.bool b] := nr rfl
theorem dirA_eq (d : Dr) : dirA d = [.int .i64 d.1, .int .i64 d.2.1, .int .i64 d.2.2] := nr rfl
theorem dofA_eq (d : DofR) : dofA d = [zS (Rat.num (d.inv)), zD (Rat.num (d.inv)), zS (dz (d.inv)), zD (dz (d.inv)), d.load.c1, d.load.c2, d.load.c3, d.load.c4, .bool d.bd, zS (Rat.num (d.lo)), zD (Rat.num (d.lo)), zS (dz (d.lo)), zD (dz (d.lo)), zS (Rat.num (d.hi)), zD (Rat.num (d.hi)), zS (dz (d.hi)), zD (dz (d.hi))] := nr rfl
theorem colA_eq (c : ColR) : colA c = [.int .i64 c.dof, zS (Rat.num (c.x)), zD (Rat.num (c.x)), zS (dz (c.x)), zD (dz (c.x)), zS (Rat.num (c.y)), zD (Rat.num (c.y)), zS (dz (c.y)), zD (dz (c.y)), zS (Rat.num (c.s)), zD (Rat.num (c.s)), zS (dz (c.s)), zD (dz (c.s))] := nr rfl
theorem partA_eq (p : PartR) : partA p = [.ro (ptC p.shape) p.shape.length false, zS (Rat.num (p.hx)), zD (Rat.num (p.hx)), zS (dz (p.hx)), zD (dz (p.hx)), zS (Rat.num (p.hy)), zD (Rat.num (p.hy)), zS (dz (p.hy)), zD (dz (p.hy)), .ro (cat colA p.cols) p.cols.length false, zS (Rat.num (p.ro)), zD (Rat.num (p.ro)), zS (dz (p.ro)), zD (dz (p.ro)), zS (Rat.num (p.bo)), zD (Rat.num (p.bo)), zS (dz (p.bo)), zD (dz (p.bo))] := nr rfl
theorem ropeA_eq (r : RopeR) : ropeA r = [.int .i64 r.a, .int .i64 r.b, zS (Rat.num (r.fx)), zD (Rat.num (r.fx)), zS (dz (r.fx)), zD (dz (r.fx)), zS (Rat.num (r.fy)), zD (Rat.num (r.fy)), zS (dz (r.fy)), zD (dz (r.fy)), zS (Rat.num (r.tx)), zD (Rat.num (r.tx)), zS (dz (r.tx)), zD (dz (r.tx)), zS (Rat.num (r.ty)), zD (Rat.num (r.ty)), zS (dz (r.ty)), zD (dz (r.ty)), .ro (cat dirA r.dirs) r.dirs.length false, zS (Rat.num (r.len)), zD (Rat.num (r.len)), zS (dz (r.len)), zD (dz (r.len))] := nr rfl
theorem mdlA_eq (m : MdlR) : mdlA m = [.ro (cat dofA m.dofs) m.dofs.length false, .ro (cat partA m.parts) m.parts.length false, .ro (cat ropeA m.ropes) m.ropes.length false, .ro (ptC m.skip) m.skip.length false] := nr rfl
theorem staA_eq (s : StaR) : staA s = [.int .i64 s.tick, .ro (cat ratA s.q) s.q.length false, .ro (cat ratA s.v) s.v.length false, .ro (cat boolA s.here) s.here.length false] := nr rfl
instance enc_rat : Enc ratA 4 where
 len _ := rfl
 wk a c hc := by simp only [ratA, List.mem_cons, List.not_mem_nil, or_false] at hc; rcases hc with rfl | rfl | rfl | rfl <;> first | exact weak_zS _ | exact weak_zD _
 sn a c hc h d := by simp only [ratA, List.mem_cons, List.not_mem_nil, or_false] at hc; rcases hc with rfl | rfl | rfl | rfl <;> first | exact snap_zS .. | exact snap_zD ..
instance enc_bool : Enc boolA 1 where
 len _ := rfl
 wk a c hc := by simp only [boolA, List.mem_cons, List.not_mem_nil, or_false] at hc; subst hc; rfl
 sn a c hc h d := by simp only [boolA, List.mem_cons, List.not_mem_nil, or_false] at hc; subst hc; rfl
instance enc_dir : Enc dirA 3 where
 len _ := rfl
 wk a c hc := by simp only [dirA, List.mem_cons, List.not_mem_nil, or_false] at hc; rcases hc with rfl | rfl | rfl <;> rfl
 sn a c hc h d := by simp only [dirA, List.mem_cons, List.not_mem_nil, or_false] at hc; rcases hc with rfl | rfl | rfl <;> rfl
instance enc_dof : Enc dofA 17 where
 len _ := rfl
 wk a c hc := by simp only [dofA, List.mem_cons, List.not_mem_nil, or_false] at hc; rcases hc with rfl | rfl | rfl | rfl | rfl | rfl | rfl | rfl | rfl | rfl | rfl | rfl | rfl | rfl | rfl | rfl | rfl <;> first | exact weak_zS _ | exact weak_zD _ | exact weak_c1 _ | exact weak_c2 _ | exact weak_c3 _ | exact weak_c4 _ | rfl
 sn a c hc h d := by simp only [dofA, List.mem_cons, List.not_mem_nil, or_false] at hc; rcases hc with rfl | rfl | rfl | rfl | rfl | rfl | rfl | rfl | rfl | rfl | rfl | rfl | rfl | rfl | rfl | rfl | rfl <;> first | exact snap_zS .. | exact snap_zD .. | exact snap_c1 .. | exact snap_c2 .. | exact snap_c3 .. | exact snap_c4 .. | rfl
instance enc_col : Enc colA 13 where
 len _ := rfl
 wk a c hc := by simp only [colA, List.mem_cons, List.not_mem_nil, or_false] at hc; rcases hc with rfl | rfl | rfl | rfl | rfl | rfl | rfl | rfl | rfl | rfl | rfl | rfl | rfl <;> first | exact weak_zS _ | exact weak_zD _ | rfl
 sn a c hc h d := by simp only [colA, List.mem_cons, List.not_mem_nil, or_false] at hc; rcases hc with rfl | rfl | rfl | rfl | rfl | rfl | rfl | rfl | rfl | rfl | rfl | rfl | rfl <;> first | exact snap_zS .. | exact snap_zD .. | rfl
theorem weak_roP (l : List Pt) (n : Nat) : (AV.ro (ptC l) n false).weak = .ro (ptC l) n false := by rw [weak_ro, weaks_ptC]
theorem weak_roE {α : Type} {f : α → List AV} {k : Nat} [Enc f k] (l : List α) (n : Nat) : (AV.ro (cat f l) n false).weak = .ro (cat f l) n false := by rw [weak_ro, weaks_cat]
instance enc_part : Enc partA 18 where
 len _ := rfl
 wk a c hc := by simp only [partA, List.mem_cons, List.not_mem_nil, or_false] at hc; rcases hc with rfl | rfl | rfl | rfl | rfl | rfl | rfl | rfl | rfl | rfl | rfl | rfl | rfl | rfl | rfl | rfl | rfl | rfl <;> first | exact weak_zS _ | exact weak_zD _ | exact weak_roP .. | exact weak_roE ..
 sn a c hc h d := by simp only [partA, List.mem_cons, List.not_mem_nil, or_false] at hc; rcases hc with rfl | rfl | rfl | rfl | rfl | rfl | rfl | rfl | rfl | rfl | rfl | rfl | rfl | rfl | rfl | rfl | rfl | rfl <;> first | exact snap_zS .. | exact snap_zD .. | rfl
instance enc_rope : Enc ropeA 23 where
 len _ := rfl
 wk a c hc := by simp only [ropeA, List.mem_cons, List.not_mem_nil, or_false] at hc; rcases hc with rfl | rfl | rfl | rfl | rfl | rfl | rfl | rfl | rfl | rfl | rfl | rfl | rfl | rfl | rfl | rfl | rfl | rfl | rfl | rfl | rfl | rfl | rfl <;> first | exact weak_zS _ | exact weak_zD _ | exact weak_roP .. | exact weak_roE .. | rfl
 sn a c hc h d := by simp only [ropeA, List.mem_cons, List.not_mem_nil, or_false] at hc; rcases hc with rfl | rfl | rfl | rfl | rfl | rfl | rfl | rfl | rfl | rfl | rfl | rfl | rfl | rfl | rfl | rfl | rfl | rfl | rfl | rfl | rfl | rfl | rfl <;> first | exact snap_zS .. | exact snap_zD .. | rfl
instance enc_mdl : Enc mdlA 4 where
 len _ := rfl
 wk a c hc := by simp only [mdlA, List.mem_cons, List.not_mem_nil, or_false] at hc; rcases hc with rfl | rfl | rfl | rfl <;> first | exact weak_roP .. | exact weak_roE ..
 sn a c hc h d := by simp only [mdlA, List.mem_cons, List.not_mem_nil, or_false] at hc; rcases hc with rfl | rfl | rfl | rfl <;> rfl
instance enc_sta : Enc staA 4 where
 len _ := rfl
 wk a c hc := by simp only [staA, List.mem_cons, List.not_mem_nil, or_false] at hc; rcases hc with rfl | rfl | rfl | rfl <;> first | exact weak_roE .. | rfl
 sn a c hc h d := by simp only [staA, List.mem_cons, List.not_mem_nil, or_false] at hc; rcases hc with rfl | rfl | rfl | rfl <;> rfl
def shp (k : Int) : List Pt :=
 if k = 0 then [(0, 0), (4, 0), (4, 2), (0, 2)]
 else if k = 1 then [(0, 0), (2, 0), (2, 2), (0, 2)]
 else if k = 2 then [(0, 0), (4, 0), (0, 3)]
 else if k = 3 then [(0, 0), (6, 0), (3, 4)]
 else if k = 4 then [(0, 0), (8, 0), (8, 1), (4, 4), (0, 1)]
 else [(0, 0), (6, 0), (6, 1), (0, 1)]
def hgt (k : Int) : Int := if k = 0 then 2 else if k = 1 then 2 else if k = 2 then 0 else if k = 3 then 0 else if k = 4 then 0 else 1
def groundP : List Pt := [(-40, -4), (60, -4), (60, 0), (-40, 0)]
theorem shp_len (k : Int) : 3 ≤ (shp k).length ∧ (shp k).length ≤ 5 := by
 unfold shp; repeat' split
 all_goals simp
theorem hgt_bd (k : Int) : 0 ≤ hgt k ∧ hgt k ≤ 2 := by
 unfold hgt; repeat' split
 all_goals omega
def blockV (m : MdlR) (s : List Pt) (x y n : Int) (wheel : Bool) : MdlR :=
 {m with
  dofs := m.dofs ++ [⟨Rat.divInt 1 (1 + n % 3), ofQ 0, false, 0, 0⟩, ⟨Rat.divInt 1 (1 + n % 3), ofQ (Rat.divInt (0 - (1 + n / 3 % 3)) 8), false, 0, 0⟩] ++ (if wheel then [⟨Rat.divInt 2 1, ofQ 0, false, 0, 0⟩] else []),
  parts := m.parts ++ [⟨s, Rat.divInt x 1, Rat.divInt y 1, [⟨m.dofs.length, Rat.divInt 1 1, 0, 0⟩, ⟨m.dofs.length + 1, 0, Rat.divInt 1 1, 0⟩] ++ (if wheel then [⟨m.dofs.length + 2, 0, 0, Rat.divInt 1 1⟩] else []), Rat.divInt (n / 9 % 4) 2, Rat.divInt (n / 36 % 3) 2⟩] }
def trainV (m : MdlR) (n : Int) : MdlR :=
 {m with
  dofs := m.dofs ++ [⟨Rat.divInt 1 2, ofQ 0, true, Rat.divInt (-1) 1, Rat.divInt 3 1⟩],
  parts := m.parts ++ [⟨shp 1, Rat.divInt 22 1, 0, [⟨m.dofs.length, Rat.divInt 1 1, 0, 0⟩], Rat.divInt (n % 3) 2, 0⟩] ++ [⟨shp 5, Rat.divInt 32 1, Rat.divInt 2 1, [⟨m.dofs.length, 0, Rat.divInt (1 + n % 2) 2, 0⟩], Rat.divInt (n % 4) 2, Rat.divInt (n % 3) 2⟩] }
structure GenS where
 m : MdlR
 x : Int
 y : Int
 top : Int
def stepV (g : GenS) (n how : Int) : GenS :=
 let x' := if 0 < g.top ∧ how < 3 then g.x else g.x + 10
 let y' := if 0 < g.top ∧ how < 3 then g.top else if 4 < how then 1 + n % 4 else 0
 ⟨blockV g.m (shp (arnd n 6)) x' y' (n / 6) (decide (how = 6 ∧ g.m.dofs.length < 4)), x', y', if 0 < hgt (arnd n 6) then y' + hgt (arnd n 6) else 0⟩
def genGo (l : List Int) : Nat → Nat → GenS → GenS
 | 0, _, g => g
 | k + 1, i, g => if g.m.dofs.length < 5 then genGo l k (i + 1) (stepV g (atN l (4 + 2 * i) 432) (atN l (5 + 2 * i) 7)) else g
def gen0 (l : List Int) : GenS := ⟨⟨[], [⟨groundP, 0, 0, [], Rat.divInt (atN l 0 4) 2, Rat.divInt (atN l 1 3) 2⟩], [], []⟩, -18, 0, 0⟩
def genV (l : List Int) : GenS := genGo l (1 + atN l 2 3).toNat 0 (gen0 l)
def part0 : PartR := ⟨[], 0, 0, [], 0, 0⟩
def modelV (l : List Int) : MdlR :=
 let m0 := (genV l).m
 let more := atN l 3 8
 let m1 := if more % 2 = 1 ∧ m0.dofs.length < 6 then trainV m0 more else m0
 let p := m1.parts.getD 1 part0
 let m2 := if more / 2 % 2 = 1 then { m1 with ropes := [⟨0, 1, p.hx, 0, 0, 0, [(0, 1, 1), (3, 4, 5), (1, 0, 1)], p.hy + Rat.divInt (more / 4) 1⟩] } else m1
 if more = 7 ∧ 2 < m2.parts.length then { m2 with skip := [(1, 2)] } else m2
def ptA (l : List Pt) (i : Nat) : Pt := l.getD i (0, 0)
def vldP (l : List Pt) : Prop := (3 ≤ l.length ∧ l.length ≤ 8) ∧ (∀ p ∈ l, okp p) ∧
 (∀ i, i < l.length → normOk ((ptA l ((i + 1) % l.length)).1 - (ptA l i).1) ((ptA l ((i + 1) % l.length)).2 - (ptA l i).2) = true) ∧
 (∀ i, i < l.length → ∀ k, k < l.length → k ≠ i → k ≠ (i + 1) % l.length → 0 < crossP (ptA l i) (ptA l ((i + 1) % l.length)) (ptA l k))
theorem okp_getD {l : List Pt} (h : ∀ p ∈ l, okp p) (i : Nat) : okp (ptA l i) := by
 unfold ptA
 rw [List.getD_eq_getElem?_getD]
 by_cases hi : i < l.length
 ·rw [List.getElem?_eq_getElem hi]; exact h _ (List.getElem_mem hi)
 ·rw [List.getElem?_eq_none (by omega)]; exact ⟨⟨by decide, by decide⟩, by decide, by decide⟩
theorem M_190 [SpC] (p : Pt) (h : okp p) : M X 190 [.agg [.int .i64 p.1, .int .i64 p.2]] = some (.bool false) := by
 refine M_of X (fn := Tryz.f190) Tryz.func190 rfl ok_190 mode_190 res_190 _ rfl _ ?_
 intro r hr
 obtain ⟨⟨a1, a2⟩, a3, a4⟩ := h
 by_cases h1 : p.1 < p.2
 ·simp (maxSteps := 4000000) (disch := first | omega | (simp only [LL]; omega)) only [go_sem]
  rw [hr]
 ·simp (maxSteps := 4000000) (disch := first | omega | (simp only [LL]; omega)) only [go_sem]
  rw [hr]
theorem idx_valid [SpC] (l : List Pt) (h : ∀ p ∈ l, okp p) (hl : l.length < 2 ^ 30) : M X 236 [.ro (ptC l) l.length false, .func (.func 190) [] []] = some (.int .i64 (-1)) := by
 refine M_of X (fn := Tryz.f236) Tryz.func236 rfl ok_236 mode_236 res_236 _ rfl _ ?_
 intro r hr
 have hl2 := ptC_length l
 simp (maxSteps := 4000000) (disch := first | omega | (simp only [LL]; omega)) only [go_sem, hl2]
 refine W_loop X (fun (k : Nat) s => k ≤ l.length ∧ s.env 0 = .ro (ptC l) l.length false ∧ s.env 1 = .func (.func 190) [] [] ∧ s.env 7 = .int .i64 l.length ∧ s.env 8 = .int .i64 k) (fun k => l.length - k) ?_ 0 _ ?_
 ·rintro k ⟨env, heap, nx⟩ ⟨hk, g0, g1, g7, g8⟩
  simp only at g0 g1 g7 g8
  by_cases h1 : k < l.length
  ·have hd := ptC_take l k h1
   have hv := M_190 (l.getD k (0, 0)) (okp_getD h k)
   simp (maxSteps := 4000000) (disch := first | omega | (simp only [LL]; omega)) only [go_sem, hl2, hd, g0, g1, g7, g8, mode_190, hv]
   exact ⟨k + 1, ⟨by omega, rfl⟩, by omega⟩
  ·simp (maxSteps := 4000000) (disch := first | omega | (simp only [LL]; omega)) only [go_sem, hl2, g0, g1, g7, g8]
   rw [hr]
 ·simp (maxSteps := 4000000) (disch := first | omega | (simp only [LL]; omega)) only [go_sem]
  done
theorem con_valid [SpC] (l : List Pt) (h : ∀ p ∈ l, okp p) (hl : l.length < 2 ^ 30) : M X 191 [.ro (ptC l) l.length false, .func (.func 190) [] []] = some (.bool false) := by
 refine M_of X (fn := Tryz.f191) Tryz.func191 rfl ok_191 mode_191 res_191 _ rfl _ ?_
 intro r hr
 have hi := idx_valid l h hl
 have hl2 := ptC_length l
 simp (maxSteps := 4000000) (disch := first | omega | (simp only [LL]; omega)) only [go_sem, hl2, weaks_ptC, mode_236, hi]
 rw [hr]
theorem M_126 [SpC] (l : List Pt) (h : vldP l) : M X 126 [.ro (ptC l) l.length false] = some (.bool true) := by
 refine M_of X (fn := Tryz.f126) Tryz.func126 rfl ok_126 mode_126 res_126 _ rfl _ ?_
 intro r hr
 obtain ⟨⟨hl0, hl1⟩, hp, hn, hx⟩ := h
 have hl2 := ptC_length l
 have hc := con_valid l hp (by omega)
 simp (maxSteps := 4000000) (disch := first | omega | (simp only [LL]; omega)) only [go_sem, hl2, weaks_ptC, mode_191, hc]
 refine W_loop X (fun (i : Nat) s => i ≤ l.length ∧ s.env 0 = .ro (ptC l) l.length false ∧ s.env 20 = .int .i64 l.length ∧ s.env 21 = .int .i64 i) (fun i => l.length - i) ?_ 0 _ ?_
 ·rintro i ⟨env, heap, nx⟩ ⟨hi, g0, g20, g21⟩
  simp only at g0 g20 g21
  by_cases h1 : i < l.length
  ·have hm := Nat.mod_lt (i + 1) (show 0 < l.length by omega)
   have hd := ptC_take l i h1
   have hne := M_144 l i h1 (by omega)
   have hno := M_143 (ptA l i) (ptA l ((i + 1) % l.length)) (okp_getD hp i) (okp_getD hp _)
   rw [hn i h1] at hno
   rw [show l.getD i (0, 0) = ptA l i from rfl] at hd
   rw [show l.getD ((i + 1) % l.length) (0, 0) = ptA l ((i + 1) % l.length) from rfl] at hne
   simp (maxSteps := 4000000) (disch := first | omega | (simp only [LL]; omega)) only [go_sem, hl2, hd, g0, g20, g21, mode_144, mode_143, hne, hno, weaks_ptC]
   refine W_loop X (fun (k : Nat) s => k ≤ l.length ∧ s.env 0 = .ro (ptC l) l.length false ∧ s.env 20 = .int .i64 l.length ∧ s.env 21 = .int .i64 i ∧ s.env 4 = .int .i64 i ∧ s.env 38 = .int .i64 l.length ∧ s.env 39 = .int .i64 k) (fun k => l.length - k) ?_ 0 _ ?_
   ·clear g0 g20 g21
    rintro k ⟨env, heap, nx⟩ ⟨hk, g0, g20, g21, g4, g38, g39⟩
    simp only at g0 g20 g21 g4 g38 g39
    by_cases h2 : k < l.length
    ·have hd2 := ptC_take l k h2
     rw [show l.getD k (0, 0) = ptA l k from rfl] at hd2
     have he : ((i + 1 : Nat) : Int) % l.length = (((i + 1) % l.length : Nat) : Int) := (Int.natCast_emod _ _).symm
     have hcr := M_192 (ptA l i) (ptA l ((i + 1) % l.length)) (ptA l k) (okp_getD hp _) (okp_getD hp _) (okp_getD hp _)
     obtain ⟨m, hm2⟩ : ∃ m, m = (i + 1) % l.length := ⟨_, rfl⟩
     have hxx := hx i h1 k h2
     rw [← hm2] at he hcr hm hxx hne
     by_cases h3 : k = i
     ·simp (maxSteps := 4000000) (disch := first | omega | (simp only [LL]; omega)) only [go_sem, hl2, hd, hd2, g0, g20, g21, g4, g38, g39, he, mode_144, hne, mode_192, hcr, weaks_ptC]
      exact ⟨k + 1, ⟨by omega, rfl⟩, by omega⟩
     ·by_cases h4 : k = m
      ·simp (maxSteps := 4000000) (disch := first | omega | (simp only [LL]; omega)) only [go_sem, hl2, hd, hd2, g0, g20, g21, g4, g38, g39, he, mode_144, hne, mode_192, hcr, weaks_ptC]
       exact ⟨k + 1, ⟨by omega, rfl⟩, by omega⟩
      ·have hpos := hxx h3 h4
       simp (maxSteps := 4000000) (disch := first | omega | (simp only [LL]; omega)) only [go_sem, hl2, hd, hd2, g0, g20, g21, g4, g38, g39, he, mode_144, hne, mode_192, hcr, weaks_ptC]
       exact ⟨k + 1, ⟨by omega, rfl⟩, by omega⟩
    ·simp (maxSteps := 4000000) (disch := first | omega | (simp only [LL]; omega)) only [go_sem, hl2, g0, g20, g21, g4, g38, g39]
     exact ⟨i + 1, ⟨by omega, rfl⟩, by omega⟩
   ·simp (maxSteps := 4000000) (disch := first | omega | (simp only [LL]; omega)) only [go_sem, g0, g20, g21]
    done
  ·simp (maxSteps := 4000000) (disch := first | omega | (simp only [LL]; omega)) only [go_sem, hl2, g0, g20, g21]
   rw [hr]
 ·simp (maxSteps := 4000000) (disch := first | omega | (simp only [LL]; omega)) only [go_sem]
  done
def okd3 (d : Dr) : Prop := (-4194304 ≤ d.1 ∧ d.1 ≤ 4194304) ∧ (-4194304 ≤ d.2.1 ∧ d.2.1 ≤ 4194304)
def dotP (d : Dr) (p : Pt) : Int := d.1 * p.1 + d.2.1 * p.2
def mostP (l : List Pt) (d : Dr) : Int := topZ (dotP d) l (l.length - 1)
def turnD (d : Dr) : Dr := (0 - d.1, 0 - d.2.1, d.2.2)
theorem prodc {x y : Int} (hx : -4194304 ≤ x ∧ x ≤ 4194304) (hy : -1048576 ≤ y ∧ y ≤ 1048576) : -4398046511104 ≤ x * y ∧ x * y ≤ 4398046511104 := by
 have h := Nat.mul_le_mul (show x.natAbs ≤ 4194304 by omega) (show y.natAbs ≤ 1048576 by omega)
 have h2 := Int.natAbs_mul x y
 omega
theorem dotP_bd {d : Dr} {p : Pt} (hd : okd3 d) (hp : okp p) : -8796093022208 ≤ dotP d p ∧ dotP d p ≤ 8796093022208 := by
 have h1 := prodc hd.1 hp.1
 have h2 := prodc hd.2 hp.2
 unfold dotP; omega
theorem turn_ok {d : Dr} (h : okd3 d) : okd3 (turnD d) := by
 obtain ⟨⟨a, b⟩, c, e⟩ := h
 exact ⟨⟨by show -4194304 ≤ 0 - d.1; omega, by show 0 - d.1 ≤ 4194304; omega⟩, by show -4194304 ≤ 0 - d.2.1; omega, by show 0 - d.2.1 ≤ 4194304; omega⟩
theorem M_201 [SpC] (d : Dr) (p : Pt) (hd : okd3 d) (hp : okp p) : M X 201 [.agg [.int .i64 d.1, .int .i64 d.2.1, .int .i64 d.2.2], .agg [.int .i64 p.1, .int .i64 p.2]] = some (.int .i64 (dotP d p)) := by
 refine M_of X (fn := Tryz.f201) Tryz.func201 rfl ok_201 mode_201 res_201 _ rfl _ ?_
 intro r hr
 have h1 := prodc hd.1 hp.1
 have h2 := prodc hd.2 hp.2
 simp (maxSteps := 4000000) (disch := first | omega | (simp only [LL]; omega)) only [go_sem]
 rw [hr]; rfl
theorem M_142 [SpC] (d : Dr) (hd : okd3 d) : M X 142 [.agg [.int .i64 d.1, .int .i64 d.2.1, .int .i64 d.2.2]] = some (.agg [.int .i64 (turnD d).1, .int .i64 (turnD d).2.1, .int .i64 (turnD d).2.2]) := by
 refine M_of X (fn := Tryz.f142) Tryz.func142 rfl ok_142 mode_142 res_142 _ rfl _ ?_
 intro r hr
 obtain ⟨⟨a, b⟩, c, e⟩ := hd
 simp (maxSteps := 4000000) (disch := first | omega | (simp only [LL]; omega)) only [go_sem]
 rw [hr]; rfl
theorem M_203 [SpC] (d : Dr) (p q : Pt) (hd : okd3 d) (hp : okp p) (hq : okp q) : M X 203 [.agg [.int .i64 p.1, .int .i64 p.2], .agg [.int .i64 q.1, .int .i64 q.2], .rptr [.int .i64 d.1, .int .i64 d.2.1, .int .i64 d.2.2]] =
  some (.int .i64 (if dotP d p < dotP d q then -1 else if dotP d q < dotP d p then 1 else 0)) := by
 refine M_of X (fn := Tryz.f203) Tryz.func203 rfl ok_203 mode_203 res_203 _ rfl _ ?_
 intro r hr
 have v1 := M_201 d p hd hp
 have v2 := M_201 d q hd hq
 simp (maxSteps := 4000000) (disch := first | omega | (simp only [LL]; omega)) only [go_sem, M_131, mode_201, v1, v2]
 rw [hr]
theorem most_func [SpC] (d : Dr) (hd : okd3 d) (l : List Pt) (hp : ∀ p ∈ l, okp p) (n : Nat) (hn : l.length = n + 1) (hlen : l.length < 2 ^ 30) :
  M X 202 [.ro (ptC l) l.length false, .func (.func 203) [] [.rptr [.int .i64 d.1, .int .i64 d.2.1, .int .i64 d.2.2]]] = some (.agg [.int .i64 (maxP (dotP d) l n).1, .int .i64 (maxP (dotP d) l n).2]) := by
 refine M_of X (fn := Tryz.f202) Tryz.func202 rfl ok_202 mode_202 res_202 _ rfl _ ?_
 intro r hr
 rw [hr]
 have hl := ptC_length l
 have hd0 := ptC_take l 0 (by omega)
 simp only [Nat.zero_mul, List.drop_zero] at hd0
 simp (maxSteps := 4000000) (disch := first | omega | (simp only [LL]; omega)) only [go_sem, hl, hd0]
 refine W_loop X (fun (k : Nat) s => k ≤ n ∧ okp (maxP (dotP d) l k) ∧ s.env 0 = .ro (ptC l) l.length false ∧ s.env 1 = .func (.func 203) [] [.rptr [.int .i64 d.1, .int .i64 d.2.1, .int .i64 d.2.2]] ∧ s.env 4 = .ptr 0 0 ∧ s.env 5 = .ptr 56 0 ∧ s.env 6 = .int .i64 ((k + 1 : Nat) : Int) ∧ 56 < s.next ∧ s.heap 0 = some (.cells [.int .i64 0, .int .i64 0] false false) ∧ s.heap 56 = some (.cells [.int .i64 (maxP (dotP d) l k).1, .int .i64 (maxP (dotP d) l k).2] false false)) (fun k => n - k) ?_ 0 _ ?_
 ·rintro k ⟨env, heap, nx⟩ ⟨hk, hok, g0, g1, g4, g5, g6, hnx, h0, h56⟩
  simp only at g0 g1 g4 g5 g6 hnx h0 h56
  by_cases h1 : k < n
  ·have hdd := ptC_take l (k + 1) (by omega)
   have hs : maxP (dotP d) l (k + 1) = if dotP d (maxP (dotP d) l k) < dotP d (l.getD (k + 1) (0, 0)) then l.getD (k + 1) (0, 0) else maxP (dotP d) l k := rfl
   have hoq := okp_getD hp (k + 1)
   rw [ptA] at hoq
   have hc := M_203 d (l.getD (k + 1) (0, 0)) (maxP (dotP d) l k) hd hoq hok
   generalize maxP (dotP d) l k = m at *
   generalize l.getD (k + 1) (0, 0) = q at *
   by_cases h2 : dotP d m < dotP d q
   ·rw [if_pos h2] at hs; rw [if_neg (by omega), if_pos h2] at hc
    simp (maxSteps := 4000000) (disch := first | omega | (simp only [LL]; omega)) only [go_sem, hl, hdd, g0, g1, g4, g5, g6, h0, h56, weak_rptr, mode_203, hc]
    exact ⟨k + 1, ⟨by omega, by rw [hs]; exact hoq, rfl, by omega, by rw [hs]⟩, by omega⟩
   ·rw [if_neg h2] at hs
    by_cases h3 : dotP d q < dotP d m
    ·rw [if_pos h3] at hc
     simp (maxSteps := 4000000) (disch := first | omega | (simp only [LL]; omega)) only [go_sem, hl, hdd, g0, g1, g4, g5, g6, h0, h56, weak_rptr, mode_203, hc]
     exact ⟨k + 1, ⟨by omega, by rw [hs]; exact hok, rfl, by omega, by rw [hs]⟩, by omega⟩
    ·rw [if_neg h3, if_neg h2] at hc
     simp (maxSteps := 4000000) (disch := first | omega | (simp only [LL]; omega)) only [go_sem, hl, hdd, g0, g1, g4, g5, g6, h0, h56, weak_rptr, mode_203, hc]
     exact ⟨k + 1, ⟨by omega, by rw [hs]; exact hok, rfl, by omega, by rw [hs]⟩, by omega⟩
  ·have hk' : k = n := by omega
   subst hk'
   simp (maxSteps := 4000000) (disch := first | omega | (simp only [LL]; omega)) only [go_sem, hl, g0, g1, g4, g5, g6, h0, h56]
 ·simp (maxSteps := 4000000) (disch := first | omega | (simp only [LL]; omega)) only [go_sem]
  exact ⟨okp_getD hp 0, rfl, rfl⟩
theorem okp_max (pr : Pt → Int) {l : List Pt} (hp : ∀ p ∈ l, okp p) : ∀ n, okp (maxP pr l n)
 | 0 => okp_getD hp 0
 | n + 1 => by
  unfold maxP
  split
  ·exact okp_getD hp (n + 1)
  ·exact okp_max pr hp n
theorem M_141 [SpC] (d : Dr) (hd : okd3 d) (l : List Pt) (hp : ∀ p ∈ l, okp p) (hn : 0 < l.length) (hlen : l.length < 2 ^ 30) : M X 141 [.ro (ptC l) l.length false, .agg [.int .i64 d.1, .int .i64 d.2.1, .int .i64 d.2.2]] = some (.int .i64 (mostP l d)) := by
 refine M_of X (fn := Tryz.f141) Tryz.func141 rfl ok_141 mode_141 res_141 _ rfl _ ?_
 intro r hr
 have hl := ptC_length l
 have v1 := most_func d hd l hp (l.length - 1) (by omega) hlen
 have v2 := M_201 d (maxP (dotP d) l (l.length - 1)) hd (okp_max _ hp _)
 rw [pr_maxP (dotP d) l] at v2
 simp (maxSteps := 4000000) (disch := first | omega | (simp only [LL]; omega)) only [go_sem, hl, weaks_ptC, weak_rptr, mode_201, mode_202, v1, v2]
 rw [hr]; rfl
theorem mostP_bd {l : List Pt} {d : Dr} (hd : okd3 d) (hp : ∀ p ∈ l, okp p) : -8796093022208 ≤ mostP l d ∧ mostP l d ≤ 8796093022208 := by
 rw [mostP, ← pr_maxP (dotP d) l]
 exact dotP_bd hd (okp_max _ hp _)
abbrev Ed := Dr × Int
abbrev edA (e : Ed) : List AV := [.int .i64 e.1.1, .int .i64 e.1.2.1, .int .i64 e.1.2.2, .int .i64 e.2]
def edC : List Ed → List AV
 | [] => []
 | e :: l => .int .i64 e.1.1 :: .int .i64 e.1.2.1 :: .int .i64 e.1.2.2 :: .int .i64 e.2 :: edC l
def ed0 : Ed := ((0, 0, 0), 0)
theorem edC_length (l : List Ed) : (edC l).length = 4 * l.length := by
 induction l with
 | nil => rfl
 | cons x l ih => simp [edC, ih]; omega
theorem edC_take (l : List Ed) (k : Nat) (h : k < l.length) : List.take 4 (List.drop (k * 4) (edC l)) = edA (l.getD k ed0) := by
 induction l generalizing k with
 | nil => simp at h
 | cons x l ih =>
  cases k with
  | zero => simp [edC]
  | succ k =>
   have := ih k (by simpa using h)
   rw [show (k + 1) * 4 = k * 4 + 4 by omega]
   simpa [edC] using this
theorem edC_snoc (l : List Ed) (e : Ed) : edC (l ++ [e]) = edC l ++ edA e := by
 induction l with
 | nil => rfl
 | cons x l ih => simp [edC, ih]
theorem edC_all (P : AV → Prop) (hs : ∀ z, P (.int .i64 z)) (l : List Ed) : ∀ c ∈ edC l, P c := by
 induction l with
 | nil => intro c hc; simp [edC] at hc
 | cons b l ih =>
  intro c hc
  simp only [edC, List.mem_cons] at hc
  rcases hc with rfl | rfl | rfl | rfl | hc
  ·exact hs _
  ·exact hs _
  ·exact hs _
  ·exact hs _
  ·exact ih _ hc
theorem snaps_edC (h : Heap) (d : Nat) (l : List Ed) : snaps (snap h (d + 1)) (edC l) = some (edC l, []) := snaps_of (edC_all _ (fun _ => snap_int ..) l)
theorem weaks_edC (l : List Ed) : AV.weak.go (edC l) = edC l := weaks_all (edC_all _ (fun _ => weak_int ..) l)
theorem idx_edge [SpC] (f : Nat) (hm : X.mode f = .ro) (cs : List AV) (hw : AV.weak.go cs = cs) (P : Ed → Bool) (l : List Ed) (hc : ∀ e ∈ l, M X f [.agg (edA e), .rptr cs] = some (.bool (P e))) (hl : l.length < 2 ^ 30) (g : Bool) :
  ∃ z : Int, M X 199 [.ro (edC l) l.length g, .func (.func f) [] [.rptr cs]] = some (.int .i64 z) ∧ decide (0 ≤ z) = l.any P := by
 suffices h : ∃ r, (∃ z : Int, r = .int .i64 z ∧ decide (0 ≤ z) = l.any P) ∧ M X 199 [.ro (edC l) l.length g, .func (.func f) [] [.rptr cs]] = some r by
  obtain ⟨r, ⟨z, rfl, h1⟩, h2⟩ := h
  exact ⟨z, h2, h1⟩
 refine M_ex (fn := Tryz.f199) Tryz.func199 rfl ok_199 mode_199 res_199 _ rfl _ ?_
 have hl2 := edC_length l
 simp (maxSteps := 4000000) (disch := first | omega | (simp only [LL]; omega)) only [go_sem, hl2]
 refine W_loop X (fun (k : Nat) s => k ≤ l.length ∧ (∀ j, j < k → P (l.getD j ed0) = false) ∧ s.env 0 = .ro (edC l) l.length g ∧ s.env 1 = .func (.func f) [] [.rptr cs] ∧ s.env 7 = .int .i64 l.length ∧ s.env 8 = .int .i64 k) (fun k => l.length - k) ?_ 0 _ ?_
 ·rintro k ⟨env, heap, nx⟩ ⟨hk, hj, g0, g1, g7, g8⟩
  simp only at g0 g1 g7 g8
  by_cases h1 : k < l.length
  ·have hd := edC_take l k h1
   have hmem : l.getD k ed0 ∈ l := by rw [List.getD_eq_getElem?_getD, List.getElem?_eq_getElem h1]; exact List.getElem_mem h1
   have hv := hc _ hmem
   by_cases h2 : P (l.getD k ed0) = true
   ·rw [h2] at hv
    have hany : l.any P = true := List.any_eq_true.2 ⟨_, hmem, h2⟩
    generalize l.getD k ed0 = e at *
    simp (maxSteps := 4000000) (disch := first | omega | (simp only [LL]; omega)) only [go_sem, hl2, hd, g0, g1, g7, g8, hm, hv, weak_rptr, hw]
    exact ⟨_, rfl, by rw [hany]; exact decide_eq_true (by omega)⟩
   ·simp only [Bool.not_eq_true] at h2
    rw [h2] at hv
    have hj' : ∀ j, j < k + 1 → P (l.getD j ed0) = false := by
     intro j h3
     rcases Nat.lt_or_ge j k with h4 | h4
     ·exact hj j h4
     ·obtain rfl : j = k := by omega
      exact h2
    clear hj
    generalize l.getD k ed0 = e at hd hv
    simp (maxSteps := 4000000) (disch := first | omega | (simp only [LL]; omega)) only [go_sem, hl2, hd, g0, g1, g7, g8, hm, hv, weak_rptr, hw]
    exact ⟨k + 1, ⟨by omega, hj', rfl⟩, by omega⟩
  ·have hany : l.any P = false := by
    rw [List.any_eq_false]
    intro e he
    obtain ⟨j, h3, rfl⟩ := List.getElem_of_mem he
    have := hj j (by omega)
    rw [List.getD_eq_getElem?_getD, List.getElem?_eq_getElem h3] at this
    simpa using this
   simp (maxSteps := 4000000) (disch := first | omega | (simp only [LL]; omega)) only [go_sem, hl2, g0, g1, g7, g8]
   exact ⟨_, rfl, by rw [hany]; rfl⟩
 ·simp (maxSteps := 4000000) (disch := first | omega | (simp only [LL]; omega)) only [go_sem]
  exact fun j h => absurd h (Nat.not_lt_zero j)
theorem con_edge [SpC] (f : Nat) (hm : X.mode f = .ro) (cs : List AV) (hw : AV.weak.go cs = cs) (P : Ed → Bool) (l : List Ed) (hc : ∀ e ∈ l, M X f [.agg (edA e), .rptr cs] = some (.bool (P e))) (hl : l.length < 2 ^ 30) (g : Bool) :
  M X 136 [.ro (edC l) l.length g, .func (.func f) [] [.rptr cs]] = some (.bool (l.any P)) := by
 refine M_of X (fn := Tryz.f136) Tryz.func136 rfl ok_136 mode_136 res_136 _ rfl _ ?_
 intro r hr
 obtain ⟨z, h1, h2⟩ := idx_edge f hm cs hw P l hc hl false
 have hl2 := edC_length l
 simp (maxSteps := 4000000) (disch := first | omega | (simp only [LL]; omega)) only [go_sem, hl2, weaks_edC, weak_rptr, hw, mode_199, h1]
 rw [hr, h2]
theorem M_140 [SpC] (e : Ed) (d : Dr) : M X 140 [.agg (edA e), .rptr [.int .i64 d.1, .int .i64 d.2.1, .int .i64 d.2.2]] =
  some (.bool (decide (e.1 = d))) := by
 refine M_of X (fn := Tryz.f140) Tryz.func140 rfl ok_140 mode_140 res_140 _ rfl _ ?_
 intro r hr
 have h : decide (e.1 = d) = (decide (e.1.1 = d.1) && (decide (e.1.2.1 = d.2.1) && decide (e.1.2.2 = d.2.2))) := by
  obtain ⟨⟨a, b, c⟩, z⟩ := e
  obtain ⟨a', b', c'⟩ := d
  simp [Prod.ext_iff, Bool.decide_and]
 simp (maxSteps := 4000000) (disch := first | omega | (simp only [LL]; omega)) only [go_sem]
 rw [hr, h]
def hasD (d : Dr) (e : Ed) : Bool := decide (e.1 = d)
def addE (a b : List Pt) (out : List Ed) (d : Dr) : List Ed := if out.any (hasD d) then out else out ++ [(d, mostP a d + mostP b (turnD d))]
def dirN (l : List Pt) (i : Nat) : Dr := normV ((ptA l ((i + 1) % l.length)).1 - (ptA l i).1) ((ptA l ((i + 1) % l.length)).2 - (ptA l i).2)
def sidA (a b : List Pt) : Nat → List Ed
 | 0 => []
 | k + 1 => addE a b (sidA a b k) (dirN a k)
def sidB (a b : List Pt) : Nat → List Ed
 | 0 => sidA a b a.length
 | k + 1 => addE a b (sidB a b k) (turnD (dirN b k))
def sidesV (a b : List Pt) : List Ed := sidB a b b.length
theorem addE_len (a b : List Pt) (out : List Ed) (d : Dr) : (addE a b out d).length ≤ out.length + 1 := by
 unfold addE; split <;> simp
theorem sidA_len (a b : List Pt) : ∀ k, (sidA a b k).length ≤ k
 | 0 => Nat.le_refl _
 | k + 1 => by
  have h1 := addE_len a b (sidA a b k) (dirN a k)
  have h2 := sidA_len a b k
  show (addE a b (sidA a b k) (dirN a k)).length ≤ k + 1
  omega
theorem sidB_len (a b : List Pt) : ∀ k, (sidB a b k).length ≤ a.length + k
 | 0 => sidA_len a b a.length
 | k + 1 => by
  have h1 := addE_len a b (sidB a b k) (turnD (dirN b k))
  have h2 := sidB_len a b k
  show (addE a b (sidB a b k) (turnD (dirN b k))).length ≤ a.length + (k + 1)
  omega
theorem normV_ok (x y : Int) (hx : -2097152 ≤ x ∧ x ≤ 2097152) (hy : -2097152 ≤ y ∧ y ≤ 2097152) : okd3 (normV x y) := by
 unfold normV
 split
 ·have h1 := Int.natAbs_tdiv_le_natAbs y (normG x y)
  have h2 := Int.natAbs_tdiv_le_natAbs (0 - x) (normG x y)
  exact ⟨⟨by dsimp only; omega, by dsimp only; omega⟩, by dsimp only; omega, by dsimp only; omega⟩
 ·exact ⟨⟨by decide, by decide⟩, by decide, by decide⟩
theorem dirN_ok {l : List Pt} (hp : ∀ p ∈ l, okp p) (i : Nat) : okd3 (dirN l i) := by
 obtain ⟨⟨a1, a2⟩, a3, a4⟩ := okp_getD hp i
 obtain ⟨⟨b1, b2⟩, b3, b4⟩ := okp_getD hp ((i + 1) % l.length)
 exact normV_ok _ _ (by omega) (by omega)
theorem growC_keep {lo : Nat} {h h' : Heap} {nx nx' : Nat} {v : AV} {cs : List AV} {n s : Nat} (hg : GrowC lo h nx v cs n s) (hh : ∀ b, lo ≤ b → b < nx → h' b = h b) (hn : nx ≤ nx') : GrowC lo h' nx' v cs n s := by
 rcases hg with h | ⟨B, h1, h2, h3⟩
 ·exact .inl h
 ·exact .inr ⟨B, by omega, h2, by rw [hh B h1.1 h1.2]; exact h3⟩
theorem sd_facts [SpC] (a b : List Pt) (ha : ∀ p ∈ a, okp p) (hb : ∀ p ∈ b, okp p) (a0 : 0 < a.length) (b0 : 0 < b.length) (al : a.length < 2 ^ 16) (bl : b.length < 2 ^ 16) (l : List Pt) (hp : ∀ p ∈ l, okp p) (hl : l.length < 2 ^ 16) (i : Nat) (hi : i < l.length) (d : Dr) (hd : d = dirN l i) :
  ∃ q : Pt, ∃ is : Bool, M X 144 [.ro (ptC l) l.length false, .int .i64 i] = some (.agg [.int .i64 q.1, .int .i64 q.2]) ∧
  M X 143 [.agg [.int .i64 (l.getD i (0, 0)).1, .int .i64 (l.getD i (0, 0)).2], .agg [.int .i64 q.1, .int .i64 q.2]] = some (.tuple [.agg [.int .i64 d.1, .int .i64 d.2.1, .int .i64 d.2.2], .bool is]) ∧
  M X 142 [.agg [.int .i64 d.1, .int .i64 d.2.1, .int .i64 d.2.2]] = some (.agg [.int .i64 (turnD d).1, .int .i64 (turnD d).2.1, .int .i64 (turnD d).2.2]) ∧ okd3 d := by
 subst hd
 exact ⟨ptA l ((i + 1) % l.length), _, M_144 l i hi (by omega), M_143 (ptA l i) (ptA l ((i + 1) % l.length)) (okp_getD hp i) (okp_getD hp _), M_142 _ (dirN_ok hp i), dirN_ok hp i⟩
theorem ad_facts [SpC] (a b : List Pt) (ha : ∀ p ∈ a, okp p) (hb : ∀ p ∈ b, okp p) (a0 : 0 < a.length) (b0 : 0 < b.length) (al : a.length < 2 ^ 16) (bl : b.length < 2 ^ 16) (d : Dr) (hd : okd3 d) (out : List Ed) (ho : out.length < 2 ^ 20) :
  ∃ m1 m2 : Int, M X 141 [.ro (ptC a) a.length false, .agg [.int .i64 d.1, .int .i64 d.2.1, .int .i64 d.2.2]] = some (.int .i64 m1) ∧
  M X 141 [.ro (ptC b) b.length false, .agg [.int .i64 (turnD d).1, .int .i64 (turnD d).2.1, .int .i64 (turnD d).2.2]] = some (.int .i64 m2) ∧
  M X 142 [.agg [.int .i64 d.1, .int .i64 d.2.1, .int .i64 d.2.2]] = some (.agg [.int .i64 (turnD d).1, .int .i64 (turnD d).2.1, .int .i64 (turnD d).2.2]) ∧
  (-8796093022208 ≤ m1 ∧ m1 ≤ 8796093022208) ∧ (-8796093022208 ≤ m2 ∧ m2 ≤ 8796093022208) ∧
  addE a b out d = (if out.any (hasD d) then out else out ++ [(d, m1 + m2)]) ∧
  M X 136 [.ro (edC out) out.length false, .func (.func 140) [] [.rptr [.int .i64 d.1, .int .i64 d.2.1, .int .i64 d.2.2]]] = some (.bool (out.any (hasD d))) :=
 ⟨mostP a d, mostP b (turnD d), M_141 d hd a ha a0 (by omega), M_141 (turnD d) (turn_ok hd) b hb b0 (by omega), M_142 d hd, mostP_bd hd ha, mostP_bd (turn_ok hd) hb, rfl,
  con_edge 140 mode_140 _ (by simp only [weak_int, weakgo_nil, weakgo_cons]) (hasD d) out (fun e _ => M_140 e d) (by omega) false⟩
def outC (Y : Ctx) (rs : List ResultVar) (Φ : AV × Heap × Nat → Prop) : Ex → St → Prop
 | .exit _, _ => False
 | _, st => PN (loadRess Y st rs) fun vs => Φ (oneV vs, st.heap, st.next)
theorem outC_ret (Y : Ctx) (rs : List ResultVar) (Φ : AV × Heap × Nat → Prop) (st : St) : outC Y rs Φ .ret st = PN (loadRess Y st rs) fun vs => Φ (oneV vs, st.heap, st.next) := nr rfl
theorem outC_normal (Y : Ctx) (rs : List ResultVar) (Φ : AV × Heap × Nat → Prop) (st : St) : outC Y rs Φ .normal st = PN (loadRess Y st rs) fun vs => Φ (oneV vs, st.heap, st.next) := nr rfl
theorem callI_of {Y : Ctx} {f : FuncId} {fn : Func} {c : Code} {rs : List ResultVar} (hf : Y.P.funcs[f]? = some fn) (hb : fn.body = some c) (hok : funcOk fn = true) (hr : fn.results.toList = rs)
  (args : List AV) (hl : (args.length == fn.params.size + fn.nfree) = true) (h : Heap) (next : Nat) (Φ : AV × Heap × Nat → Prop) (hW : @W Y ⟨c⟩ ⟨argEnv args, h, next⟩ (outC Y rs Φ)) : ∃ x, callI Y f args h next = some x ∧ Φ x := by
 obtain ⟨e, s, h1', h4⟩ := hW
 have h1 : D Y c ⟨argEnv args, h, next⟩ = some (e, s) := h1'
 rw [callI_def Y hf hb hok args hl, h1]
 subst hr
 have key : ∀ s, PN (loadRess Y s fn.results.toList) (fun vs => Φ (oneV vs, s.heap, s.next)) → ∃ x, (mp (resultsA Y fn s) fun v => (v, s.heap, s.next)) = some x ∧ Φ x := by
  rintro s ⟨vs, h5, h6⟩
  unfold resultsA
  rw [h5]
  exact ⟨_, rfl, h6⟩
 cases e with
 | exit i => exact h4.elim
 | normal => exact key s h4
 | ret => exact key s h4
theorem add_call [SpC] (a b : List Pt) (ha : ∀ p ∈ a, okp p) (hb : ∀ p ∈ b, okp p) (a0 : 0 < a.length) (b0 : 0 < b.length) (al : a.length < 2 ^ 16) (bl : b.length < 2 ^ 16) (d : Dr) (hd : okd3 d) (out : List Ed) (ho : out.length < 2 ^ 20) (heap : Heap) (nx : Nat) (hnx : 64 ≤ nx) (v : AV)
  (h0 : heap 0 = some (.cells [.ro (ptC a) a.length false] false false)) (h8 : heap 8 = some (.cells [.ro (ptC b) b.length false] false false)) (h24 : heap 24 = some (.cells [v] false false)) (hgr : GrowC 32 heap nx v (edC out) out.length 4) :
  ∃ h' nx' v', callI X 139 [.agg [.int .i64 d.1, .int .i64 d.2.1, .int .i64 d.2.2], .ptr 24 0, .ptr 0 0, .ptr 8 0] heap nx = some (.tuple [], h', nx') ∧ nx ≤ nx' ∧ h' 0 = some (.cells [.ro (ptC a) a.length false] false false) ∧ h' 8 = some (.cells [.ro (ptC b) b.length false] false false) ∧ h' 24 = some (.cells [v'] false false) ∧
   GrowC 32 h' nx' v' (edC (addE a b out d)) (addE a b out d).length 4 := by
 suffices hs : ∃ x, callI X 139 [.agg [.int .i64 d.1, .int .i64 d.2.1, .int .i64 d.2.2], .ptr 24 0, .ptr 0 0, .ptr 8 0] heap nx = some x ∧ (x.1 = .tuple [] ∧ nx ≤ x.2.2 ∧ x.2.1 0 = some (.cells [.ro (ptC a) a.length false] false false) ∧ x.2.1 8 = some (.cells [.ro (ptC b) b.length false] false false) ∧ ∃ v', x.2.1 24 = some (.cells [v'] false false) ∧ GrowC 32 x.2.1 x.2.2 v' (edC (addE a b out d)) (addE a b out d).length 4) by
  obtain ⟨⟨r, h', nx'⟩, k1, k2, k3, k4, k5, v', k6, k7⟩ := hs
  simp only at k2 k3 k4 k5 k6 k7
  subst k2
  exact ⟨h', nx', v', k1, k3, k4, k5, k6, k7⟩
 obtain ⟨m1, m2, y1, y2, y3, y4, y5, y6, y7⟩ := ad_facts a b ha hb a0 b0 al bl d hd out ho
 refine callI_of (fn := Tryz.f139) Tryz.func139 rfl ok_139 res_139 _ rfl heap nx _ ?_
 generalize turnD d = td at *
 rw [y6]
 clear y6
 have hel := edC_length out
 have al2 := ptC_length a
 have bl2 := ptC_length b
 cases hany : out.any (hasD d) with
 | true =>
  rw [hany] at y7
  rcases hgr with ⟨e3, ec, e0⟩ | ⟨B, hB, e3, eB⟩
  ·rw [List.eq_nil_of_length_eq_zero e0] at hany; cases hany
  ·subst e3
   simp (maxSteps := 4000000) (disch := first | omega | (simp only [LL]; omega)) only [go_sem, outC_ret, outC_normal, al2, bl2, h0, h8, h24, eB, hel, mode_141, mode_142, mode_136, y1, y2, y3, y7, replA_1, weaks_ptC, weaks_edC, snaps_edC, weak_rptr]
   exact ⟨by omega, _, rfl, growC_keep (.inr ⟨B, hB, rfl, eB⟩) (fun b h1 h2 => by simp only [upd_apply]; rw [if_neg (by omega)]) (by omega)⟩
 | false =>
  rw [hany] at y7
  rcases hgr with ⟨e3, ec, e0⟩ | ⟨B, hB, e3, eB⟩
  ·subst e3
   have e0' := List.eq_nil_of_length_eq_zero e0
   subst e0'
   simp only [show edC [] = [] from rfl, List.length_nil] at y7
   simp (maxSteps := 4000000) (disch := first | omega | (simp only [LL]; omega)) only [go_sem, outC_ret, outC_normal, al2, bl2, h0, h8, h24, hel, mode_141, mode_142, mode_136, y1, y2, y3, y7, replA_1, weaks_ptC, weaks_edC, snaps_edC, weak_rptr]
   exact ⟨by omega, _, rfl, .inr ⟨_, ⟨by omega, by omega⟩, rfl, by simp only [upd_apply]; rw [if_neg (by omega), if_pos trivial]; rfl⟩⟩
  ·subst e3
   simp (maxSteps := 4000000) (disch := first | omega | (simp only [LL]; omega)) only [go_sem, outC_ret, outC_normal, al2, bl2, h0, h8, h24, eB, hel, mode_141, mode_142, mode_136, y1, y2, y3, y7, replA_1, weaks_ptC, weaks_edC, snaps_edC, weak_rptr]
   exact ⟨by omega, _, rfl, .inr ⟨_, ⟨by omega, by omega⟩, rfl, by simp only [upd_apply]; rw [if_neg (by omega), if_pos trivial, edC_snoc]⟩⟩
theorem add_step [SpC] (a b : List Pt) (ha : ∀ p ∈ a, okp p) (hb : ∀ p ∈ b, okp p) (a0 : 0 < a.length) (b0 : 0 < b.length) (al : a.length < 2 ^ 16) (bl : b.length < 2 ^ 16) (d : Dr) (hd : okd3 d) (out : List Ed) (ho : out.length < 2 ^ 20) (heap : Heap) (nx : Nat) (hnx : 64 ≤ nx) (v : AV)
  (h0 : heap 0 = some (.cells [.ro (ptC a) a.length false] false false)) (h8 : heap 8 = some (.cells [.ro (ptC b) b.length false] false false)) (h24 : heap 24 = some (.cells [v] false false)) (hgr : GrowC 32 heap nx v (edC out) out.length 4) (Φ : AV × Heap × Nat → Prop)
  (hΦ : ∀ h' nx' v', nx ≤ nx' → h' 0 = some (.cells [.ro (ptC a) a.length false] false false) → h' 8 = some (.cells [.ro (ptC b) b.length false] false false) → h' 24 = some (.cells [v'] false false) → GrowC 32 h' nx' v' (edC (addE a b out d)) (addE a b out d).length 4 → Φ (.tuple [], h', nx')) :
  PN (callI X 139 [.agg [.int .i64 d.1, .int .i64 d.2.1, .int .i64 d.2.2], .ptr 24 0, .ptr 0 0, .ptr 8 0] heap nx) Φ := by
 obtain ⟨h', nx', v', k1, k2, k3, k4, k5, k6⟩ := add_call a b ha hb a0 b0 al bl d hd out ho heap nx hnx v h0 h8 h24 hgr
 exact ⟨_, k1, hΦ h' nx' v' k2 k3 k4 k5 k6⟩
theorem M_71 [SpC] (a b : List Pt) (ha : ∀ p ∈ a, okp p) (hb : ∀ p ∈ b, okp p) (a0 : 0 < a.length) (b0 : 0 < b.length) (al : a.length < 2 ^ 16) (bl : b.length < 2 ^ 16) :
  M X 71 [.ro (ptC a) a.length false, .ro (ptC b) b.length false] = some (.ro (edC (sidesV a b)) (sidesV a b).length false) := by
 refine M_of X (fn := Tryz.f71) Tryz.func71 rfl ok_71 mode_71 res_71 _ rfl _ ?_
 intro r hr
 have al2 := ptC_length a
 have bl2 := ptC_length b
 simp (maxSteps := 4000000) (disch := first | omega | (simp only [LL]; omega)) only [go_sem, al2, bl2]
 refine W_loop X (fun (k : Nat) s => k ≤ a.length ∧ s.env 2 = .ptr 0 0 ∧ s.env 3 = .ptr 8 0 ∧ s.env 5 = .ptr 24 0 ∧ s.env 6 = .func (.func 139) [] [.ptr 24 0, .ptr 0 0, .ptr 8 0] ∧ s.env 15 = .int .i64 a.length ∧ s.env 16 = .int .i64 k ∧ 72 ≤ s.next ∧
  s.heap 0 = some (.cells [.ro (ptC a) a.length false] false false) ∧ s.heap 8 = some (.cells [.ro (ptC b) b.length false] false false) ∧ ∃ v, s.heap 24 = some (.cells [v] false false) ∧ GrowC 32 s.heap s.next v (edC (sidA a b k)) (sidA a b k).length 4) (fun k => a.length - k) ?_ 0 _ ?_
 ·rintro k ⟨env, heap, nx⟩ ⟨hk, g2, g3, g5, g6, g15, g16, hnx, h0, h8, v, h24, hgr⟩
  simp only at g2 g3 g5 g6 g15 g16 hnx h0 h8 h24 hgr
  by_cases h1 : k < a.length
  ·obtain ⟨q, is, w1, w2, w3, w4⟩ := sd_facts a b ha hb a0 b0 al bl a ha al k h1 (dirN a k) rfl
   have hpt := ptC_take a k h1
   have hln := sidA_len a b k
   have hs : sidA a b (k + 1) = addE a b (sidA a b k) (dirN a k) := rfl
   generalize dirN a k = d at *
   generalize sidA a b k = out at *
   simp (maxSteps := 4000000) (disch := first | omega | (simp only [LL]; omega)) only [go_sem, al2, bl2, g2, g3, g5, g6, g15, g16, h0, h8, h24, hpt, w1, w2, mode_144, mode_143, weaks_ptC]
   refine add_step a b ha hb a0 b0 al bl d w4 out (by omega) _ _ (by omega) v (by simp only [upd_apply]; rw [if_neg (by omega), if_neg (by omega)]; exact h0) (by simp only [upd_apply]; rw [if_neg (by omega), if_neg (by omega)]; exact h8) (by simp only [upd_apply]; rw [if_neg (by omega), if_neg (by omega)]; exact h24)
    (growC_keep hgr (fun b h1 h2 => by simp only [upd_apply]; rw [if_neg (by omega), if_neg (by omega)]) (by omega)) _ ?_
   intro h' nx' v' k2 k3 k4 k5 k6
   dsimp only
   exact ⟨k + 1, ⟨by omega, rfl, by omega, k3, k4, v', k5, by rw [hs]; exact growC_keep k6 (fun _ _ _ => rfl) (by omega)⟩, by omega⟩
  ·obtain rfl : k = a.length := by omega
   simp (maxSteps := 4000000) (disch := first | omega | (simp only [LL]; omega)) only [go_sem, al2, bl2, g2, g3, g5, g6, g15, g16, h0, h8, h24]
   refine W_loop X (fun (k : Nat) s => k ≤ b.length ∧ s.env 2 = .ptr 0 0 ∧ s.env 3 = .ptr 8 0 ∧ s.env 5 = .ptr 24 0 ∧ s.env 6 = .func (.func 139) [] [.ptr 24 0, .ptr 0 0, .ptr 8 0] ∧ s.env 35 = .int .i64 b.length ∧ s.env 36 = .int .i64 k ∧ 72 ≤ s.next ∧
    s.heap 0 = some (.cells [.ro (ptC a) a.length false] false false) ∧ s.heap 8 = some (.cells [.ro (ptC b) b.length false] false false) ∧ ∃ v, s.heap 24 = some (.cells [v] false false) ∧ GrowC 32 s.heap s.next v (edC (sidB a b k)) (sidB a b k).length 4) (fun k => b.length - k) ?_ 0 _ ?_
   ·clear g2 g3 g5 g6 g15 g16 hnx h0 h8 h24 hgr
    rintro k ⟨env, heap, nx⟩ ⟨hk, g2, g3, g5, g6, g15, g16, hnx, h0, h8, v, h24, hgr⟩
    simp only at g2 g3 g5 g6 g15 g16 hnx h0 h8 h24 hgr
    have hln := sidB_len a b k
    by_cases h1 : k < b.length
    ·obtain ⟨q, is, w1, w2, w3, w4⟩ := sd_facts a b ha hb a0 b0 al bl b hb bl k h1 (dirN b k) rfl
     have hpt := ptC_take b k h1
     have hs : sidB a b (k + 1) = addE a b (sidB a b k) (turnD (dirN b k)) := rfl
     have w5 := turn_ok w4
     generalize dirN b k = d at *
     generalize turnD d = td at *
     generalize sidB a b k = out at *
     simp (maxSteps := 4000000) (disch := first | omega | (simp only [LL]; omega)) only [go_sem, al2, bl2, g2, g3, g5, g6, g15, g16, h0, h8, h24, hpt, w1, w2, w3, mode_144, mode_143, mode_142, weaks_ptC]
     refine add_step a b ha hb a0 b0 al bl td w5 out (by omega) _ _ (by omega) v (by simp only [upd_apply]; rw [if_neg (by omega), if_neg (by omega)]; exact h0) (by simp only [upd_apply]; rw [if_neg (by omega), if_neg (by omega)]; exact h8) (by simp only [upd_apply]; rw [if_neg (by omega), if_neg (by omega)]; exact h24)
      (growC_keep hgr (fun b h1 h2 => by simp only [upd_apply]; rw [if_neg (by omega), if_neg (by omega)]) (by omega)) _ ?_
     intro h' nx' v' k2 k3 k4 k5 k6
     dsimp only
     exact ⟨k + 1, ⟨by omega, rfl, by omega, k3, k4, v', k5, by rw [hs]; exact growC_keep k6 (fun _ _ _ => rfl) (by omega)⟩, by omega⟩
    ·obtain rfl : k = b.length := by omega
     rw [show sidB a b b.length = sidesV a b from rfl] at hgr hln
     generalize sidesV a b = out at *
     have hel := edC_length out
     rcases hgr with ⟨e3, ec, e0⟩ | ⟨B, hB, e3, eB⟩
     ·subst e3
      simp (maxSteps := 4000000) (disch := first | omega | (simp only [LL]; omega)) only [go_sem, g2, g3, g5, g6, g15, g16, h0, h8, h24]
      rw [hr, List.eq_nil_of_length_eq_zero e0]; rfl
     ·subst e3
      simp (maxSteps := 4000000) (disch := first | omega | (simp only [LL]; omega)) only [go_sem, g2, g3, g5, g6, g15, g16, h0, h8, h24, eB, hel, snaps_edC, weaks_edC]
      rw [hr]
   ·simp (maxSteps := 4000000) (disch := first | omega | (simp only [LL]; omega)) only [go_sem, g2, g3, g5, g6, h0, h8, h24]
    exact ⟨by omega, v, rfl, growC_keep hgr (fun _ _ _ => rfl) (by omega)⟩
 ·simp (maxSteps := 4000000) (disch := first | omega | (simp only [LL]; omega)) only [go_sem]
  exact ⟨_, rfl, growC_nil _ _ _ _⟩
end Go.Proofs.YtenhjccadhlgoaaGreat.Abs
