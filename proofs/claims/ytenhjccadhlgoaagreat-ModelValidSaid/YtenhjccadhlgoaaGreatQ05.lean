/-
  Package integer: divide, Div, Gcd and Compare, by value. No conditions. Package integer: Div and Gcd, by value. No conditions. Package gantryref04: lists of digits; what normal, Of, compared and their kin answer. No conditions. Package gantryref04: plus and minus; Neg, Add, Compare and Sign by value. No conditions. Package gantryref04: Mul, times, tiny and divided, by value. No conditions. Package gantryref04: divided, by value. No conditions. The whole square root of a number, and the step of Newton. No conditions. Package gantryref04: Div and Gcd, by value. No conditions. Rational numbers as the program lays them: numerators and denominators, and how many digits these have. No conditions.
-/
import Derived.Test.YtenhjccadhlgoaaGreatQ04
set_option linter.unusedSimpArgs false
set_option linter.unusedVariables false
set_option maxRecDepth 100000
set_option maxHeartbeats 16000000
namespace Go.Proofs.YtenhjccadhlgoaaGreat.Abs
open Go
theorem digs_last (n : Nat) (h : n ≠ 0) : 1 ≤ (digs n).getD ((digs n).length - 1) 0 := by
 induction n using Nat.strongRecOn with
 | ind n ih =>
  by_cases h1 : n < Bn
  ·rw [digs_lt n h h1]
   simp; omega
  ·have h2 : n / Bn ≠ 0 := by simp only [Bn] at *; omega
   have h3 := ih _ (Nat.div_lt_self (by omega) (by decide)) h2
   have h4 : 0 < (digs (n / Bn)).length := by rw [digs_pos _ h2]; simp
   rw [digs_pos n h]
   obtain ⟨k, hk⟩ : ∃ k, (digs (n / Bn)).length = k + 1 := ⟨(digs (n / Bn)).length - 1, by omega⟩
   rw [hk] at h3
   rw [List.length_cons, hk]
   exact h3
theorem zz_zero : AV.agg [.bool false, .ro [] 0 false] = AV.agg [zS 0, zD 0] := by rw [zz_nil, zz_false]
theorem unsZ [SpC] (u : Int) (h0 : 0 ≤ u) (h1 : u < 2 ^ 64) : M X 163 [.bool false, .int .u64 u] = some (.agg [zS u, zD u]) := by
 rw [M_163 false u h0 h1, aI_digs false _ u (by simp; omega)]
theorem nat_div (x y : Int) (hy : y ≠ 0) : 0 ≤ (x.natAbs : Int) / y.natAbs ∧ (x.natAbs : Int) / y.natAbs ≤ x.natAbs ∧ 0 ≤ (x.natAbs : Int) % y.natAbs ∧ (x.natAbs : Int) % y.natAbs < y.natAbs ∧ (x.natAbs : Int) % y.natAbs ≤ x.natAbs := by
 have h1 := IntWalk.tdiv_le (x.natAbs : Int) y.natAbs (by omega) (by omega)
 have h2 := Int.emod_nonneg (x.natAbs : Int) (show (y.natAbs : Int) ≠ 0 by omega)
 have h3 := Int.emod_lt_of_pos (x.natAbs : Int) (show 0 < (y.natAbs : Int) by omega)
 have h4 := Int.mul_ediv_add_emod (x.natAbs : Int) y.natAbs
 have h5 := Int.mul_nonneg (show 0 ≤ (y.natAbs : Int) by omega) h1.1
 exact ⟨h1.1, h1.2, h2, h3, by omega⟩
theorem M_219 [SpC] (x y : Int) (hx : nd x < 2 ^ 28) (hy : nd y < 2 ^ 28) (h0 : y ≠ 0) : M X 219 [zD x, zD y] =
  some (.tuple [.agg [zS ((x.natAbs : Int) / y.natAbs), zD ((x.natAbs : Int) / y.natAbs)], .agg [zS ((x.natAbs : Int) % y.natAbs), zD ((x.natAbs : Int) % y.natAbs)]]) := by
 refine M_of X (fn := Tryz.f219) Tryz.func219 rfl ok_219 mode_219 res_219 _ rfl _ ?_
 intro r hr
 have hc := compareZ x y (by omega) (by omega)
 obtain ⟨d1, d2, d3, d4, d5⟩ := nat_div x y h0
 have hof := ofZ false (digs x.natAbs) (x.natAbs : Int) (okd_nat x) (by rw [len_nd]; omega) (by rw [val_nat]; simp)
 rw [← zD_eq] at hof
 by_cases h1 : x.natAbs < 1000000000000000000
 ·have t1 := two_lt x h1
  by_cases h2 : y.natAbs < 1000000000000000000
  ·have t2 := two_lt y h2
   have u1 := unsZ ((x.natAbs : Int) / y.natAbs) d1 (by omega)
   have u2 := unsZ ((x.natAbs : Int) % y.natAbs) d3 (by omega)
   simp (maxSteps := 4000000) (disch := first | omega | (simp only [LL]; omega)) only [go_sem, mode_218, mode_163, t1, t2, u1, u2]
   rw [hr]
  ·have t2 := two_ge y (by omega) (by omega)
   rw [cmpZ_lt (by omega)] at hc
   simp (maxSteps := 4000000) (disch := first | omega | (simp only [LL]; omega)) only [go_sem, mode_218, mode_156, mode_154, t1, t2, hc, hof]
   rw [hr, zz_zero, Int.ediv_eq_zero_of_lt (by omega) (by omega), Int.emod_eq_of_lt (by omega) (by omega)]
 ·have t1 := two_ge x (by omega) (by omega)
  by_cases h3 : x.natAbs < y.natAbs
  ·rw [cmpZ_lt (by omega)] at hc
   simp (maxSteps := 4000000) (disch := first | omega | (simp only [LL]; omega)) only [go_sem, mode_218, mode_156, mode_154, t1, hc, hof]
   rw [hr, zz_zero, Int.ediv_eq_zero_of_lt (by omega) (by omega), Int.emod_eq_of_lt (by omega) (by omega)]
  ·have hc' : 0 ≤ cmpZ (x.natAbs : Int) y.natAbs := by unfold cmpZ; rw [if_neg (by omega)]; split <;> omega
   by_cases h4 : nd y ≤ 1
   ·have y1 := (nd_le_one y).1 h4
    obtain ⟨q, q1, q2, q3, q4⟩ := M_243 (digs x.natAbs) (y.natAbs : Int) (by rw [len_nd]; omega) (okd_nat x) (by omega)
    rw [val_nat] at q1 q3
    rw [len_nd] at q4
    rw [← zD_eq] at q1
    have u1 := ofZ false q ((x.natAbs : Int) / y.natAbs) q2 (by omega) (by rw [q3]; simp)
    have u2 := unsZ ((x.natAbs : Int) % y.natAbs) d3 (by omega)
    have ey := zD_one y h0 y1
    rw [ey] at hc ⊢
    simp (maxSteps := 4000000) (disch := first | omega | (simp only [LL]; omega)) only [go_sem, mode_218, mode_156, mode_154, mode_243, mode_163, t1, hc, q1, u1, u2]
    rw [hr]
   ·obtain ⟨q, r', q1, q2, q3, q4, q5, q6, q7⟩ := M_244 (digs x.natAbs) (digs y.natAbs) (by rw [len_nd]; omega) (okd_nat x) (okd_nat y) (by rw [len_nd]; omega) (by rw [len_nd, len_nd]; exact nd_mono (by omega)) (digs_last _ (by omega))
    rw [val_nat, val_nat] at q4 q5
    rw [len_nd] at q6 q7
    rw [← zD_eq, ← zD_eq] at q1
    have u1 := ofZ false q ((x.natAbs : Int) / y.natAbs) q2 (by omega) (by rw [q4]; simp)
    have u2 := ofZ false r' ((x.natAbs : Int) % y.natAbs) q3 (by omega) (by rw [q5]; simp)
    simp (maxSteps := 4000000) (disch := first | omega | (simp only [LL]; omega)) only [go_sem, mode_218, mode_156, mode_154, mode_244, t1, hc, q1, u1, u2]
    rw [hr]
theorem M_146 [SpC] (x y : Int) (hx : nd x < 2 ^ 28) (hy : nd y < 2 ^ 28) : M X 146 [.agg [zS x, zD x], .agg [zS y, zD y]] = some (.int .i64 (cmpZ x y)) := by
 refine M_of X (fn := Tryz.f146) Tryz.func146 rfl ok_146 mode_146 res_146 _ rfl _ ?_
 intro r hr
 have hc := compareZ x y (by omega) (by omega)
 have hc' := compareZ y x (by omega) (by omega)
 by_cases h1 : x < 0
 ·by_cases h2 : y < 0
  ·simp (maxSteps := 4000000) (disch := first | omega | (simp only [LL]; omega)) only [go_sem, zS_neg, mode_156, hc, hc']
   rw [hr]; congr 1; unfold cmpZ; grind
  ·simp (maxSteps := 4000000) (disch := first | omega | (simp only [LL]; omega)) only [go_sem, zS_neg, zS_pos, mode_156, hc, hc']
   rw [hr, cmpZ_lt (by omega)]
 ·by_cases h2 : y < 0
  ·simp (maxSteps := 4000000) (disch := first | omega | (simp only [LL]; omega)) only [go_sem, zS_neg, zS_pos, mode_156, hc, hc']
   rw [hr, cmpZ_gt (by omega)]
  ·simp (maxSteps := 4000000) (disch := first | omega | (simp only [LL]; omega)) only [go_sem, zS_pos, mode_156, hc, hc']
   rw [hr]; congr 1; unfold cmpZ; grind
theorem nd_le_of {x : Int} {k : Nat} (h : x.natAbs < Bn ^ k) : nd x ≤ k := (len_digs _ _).2 h
theorem lt_of_nd (x : Int) : x.natAbs < Bn ^ nd x := (len_digs _ _).1 (Nat.le_refl _)
theorem nd_one : nd 1 = 1 := by rw [nd, show (1 : Int).natAbs = 1 from rfl, digs_lt 1 (by decide) (by decide)]; rfl
theorem isl_one : isl [1] = AV.ro [.int .i64 1] 1 false := rfl
theorem nd_nat (x : Int) : nd (x.natAbs : Int) = nd x := by rw [nd, nd, Int.natAbs_natCast]
theorem div_unique {x y q r : Int} (h : x = y * q + r) (h0 : 0 ≤ r) (h1 : r < y.natAbs) : x / y = q ∧ x % y = r := by
 rcases Int.lt_or_gt_of_ne (show y ≠ 0 by omega) with hy | hy
 ·have := (Int.ediv_emod_unique (a := x) (b := -y) (r := r) (q := -q) (by omega)).2 ⟨by rw [h, Int.neg_mul_neg]; omega, h0, by omega⟩
  rw [Int.ediv_neg, Int.emod_neg] at this
  exact ⟨by omega, this.2⟩
 ·exact (Int.ediv_emod_unique (a := x) (b := y) (r := r) (q := q) (by omega)).2 ⟨by rw [h]; omega, h0, by omega⟩
theorem M_161 [SpC] (x y : Int) (hx : nd x < 2 ^ 28 - 1) (hy : nd y < 2 ^ 28) (h0 : y ≠ 0) : M X 161 [.agg [zS x, zD x], .agg [zS y, zD y]] =
  some (.tuple [.agg [zS (x / y), zD (x / y)], .agg [zS (x % y), zD (x % y)]]) := by
 refine M_of X (fn := Tryz.f161) Tryz.func161 rfl ok_161 mode_161 res_161 _ rfl _ ?_
 intro w hw
 have hd := M_219 x y (by omega) hy h0
 obtain ⟨d1, d2, d3, d4, d5⟩ := nat_div x y h0
 have he := Int.mul_ediv_add_emod (x.natAbs : Int) y.natAbs
 obtain ⟨q, hq⟩ : ∃ q, q = (x.natAbs : Int) / y.natAbs := ⟨_, rfl⟩
 obtain ⟨r, hr⟩ : ∃ r, r = (x.natAbs : Int) % y.natAbs := ⟨_, rfl⟩
 rw [← hq, ← hr] at hd he
 rw [← hq] at d1 d2
 rw [← hr] at d3 d4 d5
 have yp := nd_pos y h0
 by_cases h1 : x < 0
 ·by_cases h2 : r = 0
  ·have rz := nd_zero r h2
   by_cases h3 : y < 0
   ·have e := div_unique (x := x) (y := y) (q := q) (r := 0) (by rw [h2, show (y.natAbs : Int) = -y by omega, Int.neg_mul] at he; omega) (by omega) (by omega)
    simp (maxSteps := 4000000) (disch := first | omega | (simp only [LL]; omega)) only [go_sem, zS_neg, zS_pos, mode_219, hd, rz]
    rw [hw, e.1, e.2, h2, zS_pos q d1, zS_pos 0 (by omega)]
   ·have e := div_unique (x := x) (y := y) (q := -q) (r := 0) (by rw [h2, show (y.natAbs : Int) = y by omega] at he; rw [Int.mul_neg]; omega) (by omega) (by omega)
    by_cases h4 : q = 0
    ·exfalso; rw [h4] at he; omega
    ·have qp := nd_pos q h4
     simp (maxSteps := 4000000) (disch := first | omega | (simp only [LL]; omega)) only [go_sem, zS_neg, zS_pos, mode_219, hd, rz]
     rw [hw, e.1, e.2, h2, zS_neg (-q) (by omega), zS_pos 0 (by omega), show zD (-q) = zD q by simp [zD]]
  ·have rp := nd_pos r h2
   have nq : nd q ≤ nd x := nd_mono (by omega)
   obtain ⟨p, p1, p2, p3, p4, p5⟩ := plusZ q 1 (by omega) (by rw [nd_one]; decide)
   rw [zD_one 1 (by decide) (by decide), show ([((1 : Int).natAbs : Int)] : List Int) = [1] from rfl, isl_one] at p1
   have p6 := p5 false (q + 1) (by simp; omega)
   obtain ⟨m, m1, m2, m3, m4, m5⟩ := minusZ y r hy (nd_mono (by omega)) (by omega)
   have m6 := m5 false (y.natAbs - r) (by simp; omega)
   have qp := nd_pos (q + 1) (by omega)
   by_cases h3 : y < 0
   ·have e := div_unique (x := x) (y := y) (q := q + 1) (r := y.natAbs - r) (by rw [show (y.natAbs : Int) = -y by omega] at he ⊢; rw [Int.neg_mul] at he; rw [Int.mul_add]; omega) (by omega) (by omega)
    simp (maxSteps := 4000000) (disch := first | omega | (simp only [LL]; omega)) only [go_sem, zS_neg, zS_pos, mode_219, mode_155, mode_157, mode_154, hd, p1, p6, m1, m6]
    rw [hw, e.1, e.2, zS_pos (q + 1) (by omega), zS_pos (y.natAbs - r) (by omega)]
   ·have e := div_unique (x := x) (y := y) (q := -(q + 1)) (r := y.natAbs - r) (by rw [show (y.natAbs : Int) = y by omega] at he ⊢; rw [Int.mul_neg, Int.mul_add]; omega) (by omega) (by omega)
    simp (maxSteps := 4000000) (disch := first | omega | (simp only [LL]; omega)) only [go_sem, zS_neg, zS_pos, mode_219, mode_155, mode_157, mode_154, hd, p1, p6, m1, m6]
    rw [hw, e.1, e.2, zS_neg (-(q + 1)) (by omega), zS_pos (y.natAbs - r) (by omega), show zD (-(q + 1)) = zD (q + 1) by rw [zD, zD, Int.natAbs_neg]]
 ·by_cases h3 : y < 0
  ·have e := div_unique (x := x) (y := y) (q := -q) (r := r) (by rw [show (y.natAbs : Int) = -y by omega] at he; rw [Int.neg_mul] at he; rw [Int.mul_neg]; omega) (by omega) (by omega)
   by_cases h4 : q = 0
   ·have qz := nd_zero q h4
    simp (maxSteps := 4000000) (disch := first | omega | (simp only [LL]; omega)) only [go_sem, zS_neg, zS_pos, mode_219, hd, qz]
    rw [hw, e.1, e.2, h4, zS_pos r d3]; rfl
   ·have qp := nd_pos q h4
    simp (maxSteps := 4000000) (disch := first | omega | (simp only [LL]; omega)) only [go_sem, zS_neg, zS_pos, mode_219, hd]
    rw [hw, e.1, e.2, zS_pos r d3, zS_neg (-q) (by omega), show zD (-q) = zD q by simp [zD]]
  ·have e := div_unique (x := x) (y := y) (q := q) (r := r) (by rw [show (y.natAbs : Int) = y by omega] at he; omega) (by omega) (by omega)
   simp (maxSteps := 4000000) (disch := first | omega | (simp only [LL]; omega)) only [go_sem, zS_pos, mode_219, hd]
   rw [hw, e.1, e.2, zS_pos q d1, zS_pos r d3]
theorem gcd_step (m n : Nat) : Nat.gcd n (m % n) = Nat.gcd m n := by
 rw [Nat.gcd_comm m n, Nat.gcd_rec n m, Nat.gcd_comm]
theorem nd_natmono {m n : Nat} (h : m ≤ n) : nd (m : Int) ≤ nd (n : Int) := nd_mono (by omega)
theorem M_159 [SpC] (x y : Int) (hx : nd x < 2 ^ 28) (hy : nd y < 2 ^ 28) : M X 159 [.agg [zS x, zD x], .agg [zS y, zD y]] = some (.agg [zS (Int.gcd x y), zD (Int.gcd x y)]) := by
 refine M_of X (fn := Tryz.f159) Tryz.func159 rfl ok_159 mode_159 res_159 _ rfl _ ?_
 intro r hr
 have hof : ∀ x : Int, nd x < 2 ^ 28 → M X 154 [.bool false, zD x] = some (.agg [zS (x.natAbs : Int), zD (x.natAbs : Int)]) := by
  intro x hx
  have := ofZ false (digs x.natAbs) (x.natAbs : Int) (okd_nat x) (by rw [len_nd]; omega) (by rw [val_nat]; simp)
  rwa [← zD_eq] at this
 have ox := hof x hx
 have oy := hof y hy
 simp (maxSteps := 4000000) (disch := first | omega | (simp only [LL]; omega)) only [go_sem, mode_154, ox, oy]
 refine W_loop X (fun (n : Nat) s => s.env 4 = .ptr 16 0 ∧ s.env 5 = .ptr 72 0 ∧ s.env 6 = .ptr 80 0 ∧ 80 < s.next ∧ s.heap 16 = some (.cells [.bool false, .ro [] 0 false] false false) ∧ ∃ m : Nat, s.heap 72 = some (.cells [zS m, zD m] false false) ∧ s.heap 80 = some (.cells [zS n, zD n] false false) ∧ nd m < 2 ^ 28 ∧ nd n < 2 ^ 28 ∧ Nat.gcd m n = Int.gcd x y) (fun n => n) ?_ y.natAbs _ ?_
 ·rintro n ⟨env, heap, nx⟩ ⟨g4, g5, g6, hnx, h16, m, h72, h80, hm, hn, hg⟩
  simp only at g4 g5 g6 hnx h16 h72 h80
  by_cases h0 : n = 0
  ·have nz := nd_zero (n : Int) (by omega)
   simp (maxSteps := 4000000) (disch := first | omega | (simp only [LL]; omega)) only [go_sem, g4, g5, g6, h16, h72, h80, nz]
   rw [h0, Nat.gcd_zero_right] at hg
   rw [hr, ← hg]
  ·have np := nd_pos (n : Int) (by omega)
   by_cases h1 : m < 1000000000000000000 ∧ n < 1000000000000000000
   ·have t1 := two_lt (m : Int) (by omega)
    have t2 := two_lt (n : Int) (by omega)
    rw [Int.natAbs_natCast] at t1 t2
    simp (maxSteps := 4000000) (disch := first | omega | (simp only [LL]; omega)) only [go_sem, g4, g5, g6, h16, h72, h80, mode_218, t1, t2]
    refine W_loop X (fun (n : Nat) s => s.env 4 = .ptr 16 0 ∧ 80 < s.next ∧ s.heap 16 = some (.cells [.bool false, .ro [] 0 false] false false) ∧ ∃ m : Nat, s.env 7 = .int .i64 m ∧ s.env 9 = .int .i64 n ∧ m < 1000000000000000000 ∧ n < 1000000000000000000 ∧ Nat.gcd m n = Int.gcd x y) (fun n => n) ?_ n _ ?_
    ·clear g4 g5 g6 hnx h16 h72 h80 t1 t2 hm hn np h0 h1 hg
     rintro n' ⟨env, heap, nx⟩ ⟨g4, hnx, h16, m', g7, g9, hm, hn, hg⟩
     simp only at g4 hnx h16 g7 g9
     by_cases h2 : n' = 0
     ·rw [h2, Nat.gcd_zero_right] at hg
      have u1 := unsZ (m' : Int) (by omega) (by omega)
      simp (maxSteps := 4000000) (disch := first | omega | (simp only [LL]; omega)) only [go_sem, g4, g7, g9, h16, mode_163, u1]
      rw [hr, ← hg]
     ·have hlt := Nat.mod_lt m' (show 0 < n' by omega)
      simp (maxSteps := 4000000) (disch := first | omega | (simp only [LL]; omega)) only [go_sem, g4, g7, g9, h16]
      exact ⟨m' % n', ⟨by omega, n', rfl, rfl, hn, by omega, by rw [gcd_step, hg]⟩, by omega⟩
    ·simp (maxSteps := 4000000) (disch := first | omega | (simp only [LL]; omega)) only [go_sem, g4, h16]
     exact ⟨by omega, m, rfl, h1.1, h1.2, hg⟩
   ·have hd := M_219 m n hm hn (by omega)
    rw [Int.natAbs_natCast, Int.natAbs_natCast] at hd
    have hlt := Nat.mod_lt m (show 0 < n by omega)
    have hno : ∃ b1 b2 z1 z2, M X 218 [zD (m : Int)] = some (.tuple [.int .i64 z1, .bool b1]) ∧ M X 218 [zD (n : Int)] = some (.tuple [.int .i64 z2, .bool b2]) ∧ (b1 = false ∨ b2 = false) := by
     by_cases h2 : m < 1000000000000000000
     ·exact ⟨_, _, _, _, two_lt m (by omega), two_ge n (by omega) (by omega), .inr rfl⟩
     ·by_cases h3 : n < 1000000000000000000
      ·exact ⟨_, _, _, _, two_ge m (by omega) (by omega), two_lt n (by omega), .inl rfl⟩
      ·exact ⟨_, _, _, _, two_ge m (by omega) (by omega), two_ge n (by omega) (by omega), .inl rfl⟩
    obtain ⟨b1, b2, z1, z2, t1, t2, hb⟩ := hno
    rcases hb with rfl | rfl
    ·simp (maxSteps := 4000000) (disch := first | omega | (simp only [LL]; omega)) only [go_sem, g4, g5, g6, h16, h72, h80, mode_218, mode_219, t1, t2, hd]
     exact ⟨m % n, ⟨by omega, n, rfl, rfl, hn, Nat.lt_of_le_of_lt (nd_natmono (by omega)) hn, by rw [gcd_step, hg]⟩, by omega⟩
    ·cases b1
     all_goals
      simp (maxSteps := 4000000) (disch := first | omega | (simp only [LL]; omega)) only [go_sem, g4, g5, g6, h16, h72, h80, mode_218, mode_219, t1, t2, hd]
      exact ⟨m % n, ⟨by omega, n, rfl, rfl, hn, Nat.lt_of_le_of_lt (nd_natmono (by omega)) hn, by rw [gcd_step, hg]⟩, by omega⟩
 ·simp (maxSteps := 4000000) (disch := first | omega | (simp only [LL]; omega)) only [go_sem]
  exact ⟨x.natAbs, rfl, by rw [nd_nat]; exact hx, by rw [nd_nat]; exact hy, rfl⟩
theorem M_184 [SpC] (neg : Bool) (l : List Int) (hl : l.length < 2 ^ 40) : M X 184 [.bool neg, isl l] = some (.agg (aI neg (trim l))) := by
 refine M_of X (fn := Tryz.f184) Tryz.func184 rfl ok_184 mode_184 res_184 _ rfl _ ?_
 intro r hr
 simp (maxSteps := 4000000) (disch := first | omega | (simp only [LL]; omega)) only [go_sem]
 refine W_loop X (fun (n : Nat) s => n ≤ l.length ∧ s.env 0 = .bool neg ∧ s.env 1 = isl l ∧ s.env 4 = .ptr 0 0 ∧ s.env 5 = .int .i64 n ∧ s.heap 0 = some (.cells [AV.bool false, AV.ro [] 0 false] false false) ∧ trim (l.take n) = trim l) (fun n => n) ?_ l.length _ ?_
 ·rintro n ⟨env, heap, next⟩ ⟨hn, h0, h1, h4, h5, hh, ht⟩
  simp only at h0 h1 h4 h5 hh
  obtain _ | m := n
  ·simp (maxSteps := 4000000) (disch := first | omega | (simp only [LL]; omega)) only [go_sem, h0, h1, h4, h5, hh]
   simp [hr, aI, ← ht, trim_nil, isl, ints]
  ·by_cases hz : l.getD m 0 = 0
   ·simp (maxSteps := 4000000) (disch := first | omega | (simp only [LL]; omega)) only [go_sem, h0, h1, h4, h5, hh, hz]
    exact ⟨m, ⟨by omega, rfl, by rw [← ht, trim_zero l m hn hz]⟩, by omega⟩
   ·simp (maxSteps := 4000000) (disch := first | omega | (simp only [LL]; omega)) only [go_sem, h0, h1, h4, h5, hh, hz]
    have he : (l.take (m + 1)).isEmpty = false := by
     cases l with
     | nil => simp at hn
     | cons a l => rfl
    rw [hr, ← ht, trim_keep l m hn hz, aI, he]
    simp
 ·simp [argEnv, upd_apply, emptyHeap]
theorem normZ [SpC] (neg : Bool) (l : List Int) (z : Int) (ol : okd l) (hl : l.length < 2 ^ 40) (hz : z = if neg then -val l else val l) : M X 184 [.bool neg, isl l] = some (.agg [zS z, zD z]) := by
 rw [M_184 neg l hl, trim_digs ol, aI_digs neg (val l).toNat z]
 have h := val_nonneg ol
 rw [hz, Int.toNat_of_nonneg h]
theorem M_233 [SpC] (l : List Int) (i : Int) (hi : 0 ≤ i) : M X 233 [isl l, .int .i64 i] = some (.int .i64 (l.getD i.toNat 0)) := by
 refine M_of X (fn := Tryz.f233) Tryz.func233 rfl ok_233 mode_233 res_233 _ rfl _ ?_
 intro r hr
 by_cases h : i < l.length
 ·simp (maxSteps := 4000000) (disch := first | omega | (simp only [LL]; omega)) only [go_sem]
  rw [hr]
 ·simp (maxSteps := 4000000) (disch := first | omega | (simp only [LL]; omega)) only [go_sem]
  rw [hr, getD_over _ _ (by omega)]
theorem M_186 [SpC] (a b : List Int) (ha : a.length < 2 ^ 40) (_ : b.length < 2 ^ 40) : M X 186 [isl a, isl b] = some (.int .i64 (cmpL a b)) := by
 refine M_of X (fn := Tryz.f186) Tryz.func186 rfl ok_186 mode_186 res_186 _ rfl _ ?_
 intro r hr
 by_cases hl : a.length = b.length
 ·simp (maxSteps := 4000000) (disch := first | omega | (simp only [LL]; omega)) only [go_sem]
  refine W_loop X (fun (n : Nat) s => n ≤ a.length ∧ s.env 0 = isl a ∧ s.env 1 = isl b ∧ s.env 5 = .int .i64 ((n : Int) - 1) ∧ cmpD (a.drop n) (b.drop n) = 0) (fun n => n) ?_ a.length _ ?_
  ·rintro n ⟨env, heap, next⟩ ⟨hn, h0, h1, h5, hc⟩
   simp only at h0 h1 h5
   obtain _ | m := n
   ·simp (maxSteps := 4000000) (disch := first | omega | (simp only [LL]; omega)) only [go_sem, h0, h1, h5]
    simp at hc
    simp [hr, cmpL, hl, hc]
   ·have hs := cmpD_step a b m (by omega) (by omega)
    rw [if_neg (by simp [hc])] at hs
    have hL : cmpL a b = cmpD a b := by simp [cmpL, hl]
    rcases Int.lt_trichotomy (a.getD m 0) (b.getD m 0) with he | he | he
    ·simp (maxSteps := 4000000) (disch := first | omega | (simp only [LL]; omega)) only [go_sem, h0, h1, h5]
     rw [if_pos he] at hs
     rw [hr, hL, cmpD_drop a b m (by rw [hs]; decide), hs]
    ·simp (maxSteps := 4000000) (disch := first | omega | (simp only [LL]; omega)) only [go_sem, h0, h1, h5]
     refine ⟨m, ⟨by omega, rfl, ?_⟩, by omega⟩
     rw [hs, he]; simp
    ·simp (maxSteps := 4000000) (disch := first | omega | (simp only [LL]; omega)) only [go_sem, h0, h1, h5]
     rw [if_neg (by omega), if_pos he] at hs
     rw [hr, hL, cmpD_drop a b m (by rw [hs]; decide), hs]
  ·refine ⟨Nat.le_refl _, ?_, ?_, ?_, ?_⟩ <;> simp [argEnv, upd_apply, cmpD]
 ·rcases Nat.lt_or_ge a.length b.length with h | h
  ·simp (maxSteps := 4000000) (disch := first | omega | (simp only [LL]; omega)) only [go_sem]
   rw [hr, cmpL, if_pos h]
  ·simp (maxSteps := 4000000) (disch := first | omega | (simp only [LL]; omega)) only [go_sem]
   rw [hr, cmpL, if_neg (by omega), if_pos (by omega)]
theorem isl_nil : isl [] = AV.ro [] 0 false := rfl
theorem len_63 {k : Nat} (h : Bz ^ k ≤ 9223372036854775808) : k ≤ 2 := by
 apply Classical.byContradiction; intro hc
 have := bz_mono (i := 3) (j := k) (by omega)
 have e : Bz ^ 3 = 1000000000000000000000000000 := by decide
 omega
theorem digit_in {o : List Int} {k : Nat} {N : Int} (oo : okd o) (hv : val o + Bz ^ o.length * k = N) (hk : k ≠ 0) (hN : N ≤ 9223372036854775808) :
  o.length ≤ 2 ∧ okd (o ++ [((k % 1000000000 : Nat) : Int)]) ∧ val (o ++ [((k % 1000000000 : Nat) : Int)]) + Bz ^ (o ++ [((k % 1000000000 : Nat) : Int)]).length * ((k / 1000000000 : Nat) : Int) = N := by
 have h0 := val_nonneg oo
 have h1 : Bz ^ o.length * 1 ≤ Bz ^ o.length * k := Int.mul_le_mul_of_nonneg_left (by omega) (by have := bz_pos o.length; omega)
 refine ⟨len_63 (by omega), ?_, ?_⟩
 ·rw [okd_app]; exact ⟨oo, by intro x hx; simp at hx; subst hx; simp only [Bz]; omega⟩
 ·rw [val_app, List.length_append, List.length_singleton, Int.pow_succ, val_cons, val_nil]
  have e : (k : Int) = ((k % 1000000000 : Nat) : Int) + 1000000000 * ((k / 1000000000 : Nat) : Int) := by omega
  simp only [Bz] at *
  generalize ((k % 1000000000 : Nat) : Int) = x at *
  generalize ((k / 1000000000 : Nat) : Int) = y at *
  rw [e] at hv
  grind
theorem M_116 [SpC] (n : Int) (h : -9223372036854775808 ≤ n ∧ n ≤ 9223372036854775807) : M X 116 [.int .i64 n] = some (.agg [zS n, zD n]) := by
 refine M_of X (fn := Tryz.f116) Tryz.func116 rfl ok_116 mode_116 res_116 _ rfl _ ?_
 intro r hr
 by_cases h0 : n < 0
 ·simp (maxSteps := 4000000) (disch := first | omega | (simp only [LL]; omega)) only [go_sem]
  refine W_loop X (fun (k : Nat) s => s.env 0 = .int .i64 (-(k : Int)) ∧ s.env 2 = .ptr 0 0 ∧ s.env 4 = .bool true ∧ 0 < s.next ∧ s.heap 0 = some (.cells [AV.bool false, AV.ro [] 0 false] false false) ∧ ∃ o, Grow 1 s.heap s.next (s.env 3) o ∧ okd o ∧ o.length ≤ 3 ∧ val o + Bz ^ o.length * k = n.natAbs) (fun k => k) ?_ n.natAbs _ ?_
  ·rintro k ⟨env, heap, nx⟩ ⟨g0, g2, g4, hnx, hh, o, hgr, oo, lo, hv⟩
   simp only at g0 g2 g4 hnx hh hgr
   by_cases hk : k = 0
   ·subst hk
    have hv' : val o = n.natAbs := by simpa using hv
    have hn := normZ true o n oo (by omega) (by rw [hv']; simp; omega)
    rcases hgr with ⟨e3, rfl⟩ | ⟨B, hB, e3, eB⟩
    ·exfalso; simp [val] at hv'; omega
    ·simp (maxSteps := 4000000) (disch := first | omega | (simp only [LL]; omega)) only [go_sem, g0, g2, g4, hh, e3, eB, mode_184, hn]
     rw [hr]
   ·obtain ⟨l2, on, hvn⟩ := digit_in oo hv hk (by omega)
    have kb : (k : Int) ≤ 9223372036854775808 := by
     have h1 : 1 * (k : Int) ≤ Bz ^ o.length * k := Int.mul_le_mul_of_nonneg_right (by have := bz_pos o.length; omega) (by omega)
     have := val_nonneg oo
     omega
    have hq : IntKind.i64.wrap ((-(k : Int)).tdiv 1000000000) = -((k / 1000000000 : Nat) : Int) := by
     rw [Int.neg_tdiv, Int.tdiv_eq_ediv_of_nonneg (by omega), IntWalk.i64_in _ (by omega)]; rfl
    by_cases hz : k % 1000000000 = 0
    ·have hm : (-(k : Int)).tmod 1000000000 = 0 := by rw [Int.neg_tmod, Int.tmod_eq_emod_of_nonneg (by omega)]; omega
     rw [hz] at on hvn
     rcases hgr with ⟨e3, rfl⟩ | ⟨B, hB, e3, eB⟩
     ·simp (maxSteps := 4000000) (disch := first | omega | (simp only [LL]; omega)) only [go_sem, g0, g2, g4, hh, e3, hm, hq]
      exact ⟨k / 1000000000, ⟨rfl, by omega, _, grow_one _ _ _ _ _ (by omega), on, by simp, hvn⟩, by omega⟩
     ·simp (maxSteps := 4000000) (disch := first | omega | (simp only [LL]; omega)) only [go_sem, g0, g2, g4, hh, e3, eB, hm, hq]
      exact ⟨k / 1000000000, ⟨rfl, by omega, _, grow_app _ _ _ _ _ _ _ (by omega) rfl, on, by simp; omega, hvn⟩, by omega⟩
    ·have hm : (-(k : Int)).tmod 1000000000 = -((k % 1000000000 : Nat) : Int) := by rw [Int.neg_tmod, Int.tmod_eq_emod_of_nonneg (by omega)]; rfl
     rcases hgr with ⟨e3, rfl⟩ | ⟨B, hB, e3, eB⟩
     ·simp (maxSteps := 4000000) (disch := first | omega | (simp only [LL]; omega)) only [go_sem, g0, g2, g4, hh, e3, hm, hq, Int.zero_sub, Int.neg_neg]
      exact ⟨k / 1000000000, ⟨rfl, by omega, _, grow_one _ _ _ _ _ (by omega), on, by simp, hvn⟩, by omega⟩
     ·simp (maxSteps := 4000000) (disch := first | omega | (simp only [LL]; omega)) only [go_sem, g0, g2, g4, hh, e3, eB, hm, hq, Int.zero_sub, Int.neg_neg]
      exact ⟨k / 1000000000, ⟨rfl, by omega, _, grow_app _ _ _ _ _ _ _ (by omega) rfl, on, by simp; omega, hvn⟩, by omega⟩
  ·simp (maxSteps := 4000000) (disch := first | omega | (simp only [LL]; omega)) only [go_sem]
   exact ⟨by congr 1; omega, [], grow_nil _ _ _, okd_nil, by simp, by simp [val]⟩
 ·simp (maxSteps := 4000000) (disch := first | omega | (simp only [LL]; omega)) only [go_sem]
  refine W_loop X (fun (k : Nat) s => s.env 0 = .int .i64 k ∧ s.env 2 = .ptr 0 0 ∧ s.env 4 = .bool false ∧ 0 < s.next ∧ s.heap 0 = some (.cells [AV.bool false, AV.ro [] 0 false] false false) ∧ ∃ o, Grow 1 s.heap s.next (s.env 3) o ∧ okd o ∧ o.length ≤ 3 ∧ val o + Bz ^ o.length * k = n.natAbs) (fun k => k) ?_ n.natAbs _ ?_
  ·rintro k ⟨env, heap, nx⟩ ⟨g0, g2, g4, hnx, hh, o, hgr, oo, lo, hv⟩
   simp only at g0 g2 g4 hnx hh hgr
   by_cases hk : k = 0
   ·subst hk
    have hv' : val o = n.natAbs := by simpa using hv
    have hn := normZ false o n oo (by omega) (by rw [hv']; simp; omega)
    rcases hgr with ⟨e3, rfl⟩ | ⟨B, hB, e3, eB⟩
    ·rw [isl_nil] at hn
     simp (maxSteps := 4000000) (disch := first | omega | (simp only [LL]; omega)) only [go_sem, g0, g2, g4, hh, e3, mode_184, hn]
     rw [hr]
    ·simp (maxSteps := 4000000) (disch := first | omega | (simp only [LL]; omega)) only [go_sem, g0, g2, g4, hh, e3, eB, mode_184, hn]
     rw [hr]
   ·obtain ⟨l2, on, hvn⟩ := digit_in oo hv hk (by omega)
    have kb : (k : Int) ≤ 9223372036854775808 := by
     have h1 : 1 * (k : Int) ≤ Bz ^ o.length * k := Int.mul_le_mul_of_nonneg_right (by have := bz_pos o.length; omega) (by omega)
     have := val_nonneg oo
     omega
    have kb' : (k : Int) ≤ 9223372036854775807 := by
     have h1 : 1 * (k : Int) ≤ Bz ^ o.length * k := Int.mul_le_mul_of_nonneg_right (by have := bz_pos o.length; omega) (by omega)
     have := val_nonneg oo
     omega
    have e1 : (k : Int) % 1000000000 = ((k % 1000000000 : Nat) : Int) := rfl
    have e2 : (k : Int) / 1000000000 = ((k / 1000000000 : Nat) : Int) := rfl
    rcases hgr with ⟨e3, rfl⟩ | ⟨B, hB, e3, eB⟩
    ·simp (maxSteps := 4000000) (disch := first | omega | (simp only [LL]; omega)) only [go_sem, g0, g2, g4, hh, e3, e1, e2]
     exact ⟨k / 1000000000, ⟨rfl, by omega, _, grow_one _ _ _ _ _ (by omega), on, by simp, hvn⟩, by omega⟩
    ·simp (maxSteps := 4000000) (disch := first | omega | (simp only [LL]; omega)) only [go_sem, g0, g2, g4, hh, e3, eB, e1, e2]
     exact ⟨k / 1000000000, ⟨rfl, by omega, _, grow_app _ _ _ _ _ _ _ (by omega) rfl, on, by simp; omega, hvn⟩, by omega⟩
  ·simp (maxSteps := 4000000) (disch := first | omega | (simp only [LL]; omega)) only [go_sem]
   exact ⟨by congr 1; omega, [], grow_nil _ _ _, okd_nil, by simp, by simp [val]⟩
theorem val_snoc (o : List Int) (d : Int) : val (o ++ [d]) = val o + Bz ^ o.length * d := by rw [val_app]; simp [val]
theorem okd_snoc {o : List Int} {d : Int} (oo : okd o) (h : 0 ≤ d ∧ d < Bz) : okd (o ++ [d]) := by
 rw [okd_app]; exact ⟨oo, by intro x hx; simp at hx; subst hx; exact h⟩
def RPlus (a b : List Int) (i : Nat) (c : Int) (o : List Int) : Prop :=
 o.length = i ∧ okd o ∧ (c = 0 ∨ c = 1) ∧ (i ≤ max a.length b.length ∨ i = max a.length b.length + 1 ∧ c = 0) ∧ val o + Bz ^ i * c = val (a.take i) + val (b.take i)
theorem rplus_step {a b o : List Int} {i : Nat} {c : Int} (h : RPlus a b i c o) (oa : okd a) (ob : okd b) (hi : i < a.length ∨ i < b.length ∨ c = 1) :
  RPlus a b (i + 1) ((a.getD i 0 + b.getD i 0 + c) / 1000000000) (o ++ [(a.getD i 0 + b.getD i 0 + c) % 1000000000]) ∧ i < max a.length b.length + 1 := by
 obtain ⟨h1, h2, h3, h4, h5⟩ := h
 have ka := okd_getD oa i
 have kb := okd_getD ob i
 simp only [Bz] at ka kb
 refine ⟨⟨by simp [h1], okd_snoc h2 (by simp only [Bz]; omega), by omega, ?_, ?_⟩, by omega⟩
 ·by_cases hm : i < max a.length b.length
  ·exact .inl (by omega)
  ·have e1 := getD_over a i (by omega)
   have e2 := getD_over b i (by omega)
   exact .inr ⟨by omega, by omega⟩
 ·rw [val_snoc, h1, val_take_succ', val_take_succ']
  have e1 : Bz ^ (i + 1) = Bz ^ i * Bz := Int.pow_succ Bz i
  have e2 := Int.mul_ediv_add_emod (a.getD i 0 + b.getD i 0 + c) 1000000000
  rw [e1]; simp only [Bz] at *
  generalize (a.getD i 0 + b.getD i 0 + c) / 1000000000 = x at *
  generalize (a.getD i 0 + b.getD i 0 + c) % 1000000000 = y at *
  grind
theorem rplus_end {a b o : List Int} {i : Nat} {c : Int} (h : RPlus a b i c o) (hi : ¬ (i < a.length ∨ i < b.length ∨ c = 1)) : okd o ∧ val o = val a + val b ∧ o.length ≤ max a.length b.length + 1 := by
 obtain ⟨h1, h2, h3, h4, h5⟩ := h
 rw [List.take_of_length_le (by omega), List.take_of_length_le (by omega), show c = 0 by omega] at h5
 exact ⟨h2, by simpa using h5, by omega⟩
theorem rplus_zero (a b : List Int) : RPlus a b 0 0 [] := ⟨rfl, okd_nil, .inl rfl, .inl (by omega), by simp [val]⟩
theorem M_185 [SpC] (a b : List Int) (ha : a.length < 2 ^ 30) (hb : b.length < 2 ^ 30) (oa : okd a) (ob : okd b) :
  ∃ out, M X 185 [isl a, isl b] = some (isl out) ∧ okd out ∧ val out = val a + val b ∧ out.length ≤ max a.length b.length + 1 := by
 suffices h : ∃ r, (∃ out, r = isl out ∧ okd out ∧ val out = val a + val b ∧ out.length ≤ max a.length b.length + 1) ∧ M X 185 [isl a, isl b] = some r by
  obtain ⟨r, ⟨out, rfl, h1⟩, h2⟩ := h
  exact ⟨out, h2, h1⟩
 refine M_ex (fn := Tryz.f185) Tryz.func185 rfl ok_185 mode_185 res_185 _ rfl _ ?_
 simp (maxSteps := 4000000) (disch := first | omega | (simp only [LL]; omega)) only [go_sem]
 refine W_loop X (fun (i : Nat) s => s.env 0 = isl a ∧ s.env 1 = isl b ∧ s.env 7 = .int .i64 i ∧ ∃ c o, s.env 6 = .int .i64 c ∧ Grow 1 s.heap s.next (s.env 5) o ∧ RPlus a b i c o) (fun i => max a.length b.length + 1 - i) ?_ 0 _ ?_
 ·rintro i ⟨env, heap, nx⟩ ⟨g0, g1, g7, c, o, g6, hgr, hp⟩
  simp only at g0 g1 g7 g6 hgr
  have lo := hp.1
  have hc := hp.2.2.1
  have him := hp.2.2.2.1
  have ka := okd_getD oa i
  have kb := okd_getD ob i
  simp only [Bz] at ka kb
  have md : ∀ l : List Int, M X 233 [isl l, .int .i64 i] = some (.int .i64 (l.getD i 0)) := fun l => by
   rw [M_233 l i (by omega), Int.toNat_natCast]
  by_cases hi : i < a.length ∨ i < b.length ∨ c = 1
  ·obtain ⟨hs, hm⟩ := rplus_step hp oa ob hi
   have hi3 : i < a.length ∨ (¬ i < a.length ∧ i < b.length) ∨ (¬ i < a.length ∧ ¬ i < b.length ∧ c = 1) := by omega
   rcases hi3 with hi3 | ⟨hi3, hi4⟩ | ⟨hi3, hi4, hi5⟩
   all_goals
    rcases hgr with ⟨e5, rfl⟩ | ⟨B, hB, e5, eB⟩
    ·simp (maxSteps := 4000000) (disch := first | omega | (simp only [LL]; omega)) only [go_sem, g0, g1, g7, g6, e5, mode_233, md]
     exact ⟨i + 1, ⟨rfl, _, _, rfl, grow_one _ _ _ _ _ (by omega), hs⟩, by omega⟩
    ·simp (maxSteps := 4000000) (disch := first | omega | (simp only [LL]; omega)) only [go_sem, g0, g1, g7, g6, e5, eB, mode_233, md]
     exact ⟨i + 1, ⟨rfl, _, _, rfl, grow_app _ _ _ _ _ _ _ (by omega) rfl, hs⟩, by omega⟩
  ·obtain ⟨r1, r2, r3⟩ := rplus_end hp hi
   rcases hgr with ⟨e5, rfl⟩ | ⟨B, hB, e5, eB⟩
   ·simp (maxSteps := 4000000) (disch := first | omega | (simp only [LL]; omega)) only [go_sem, g0, g1, g7, g6, e5]
    exact ⟨[], rfl, r1, r2, r3⟩
   ·simp (maxSteps := 4000000) (disch := first | omega | (simp only [LL]; omega)) only [go_sem, g0, g1, g7, g6, e5, eB]
    exact ⟨o, rfl, r1, r2, r3⟩
 ·simp (maxSteps := 4000000) (disch := first | omega | (simp only [LL]; omega)) only [go_sem]
  exact ⟨0, [], rfl, grow_nil _ _ _, rplus_zero a b⟩
def RMinus (a b : List Int) (i : Nat) (c : Int) (o : List Int) : Prop :=
 o.length = i ∧ okd o ∧ (c = 0 ∨ c = 1) ∧ i ≤ a.length ∧ val o = val (a.take i) - val (b.take i) + Bz ^ i * c
theorem rminus_step {a b o : List Int} {i : Nat} {c : Int} (h : RMinus a b i c o) (oa : okd a) (ob : okd b) (hi : i < a.length) (v : Int) (hv : v = a.getD i 0 - b.getD i 0 - c) :
  (v < 0 → RMinus a b (i + 1) 1 (o ++ [v + 1000000000])) ∧ (¬ v < 0 → RMinus a b (i + 1) 0 (o ++ [v])) := by
 obtain ⟨h1, h2, h3, h4, h5⟩ := h
 have ka := okd_getD oa i
 have kb := okd_getD ob i
 simp only [Bz] at ka kb
 have e1 : Bz ^ (i + 1) = Bz ^ i * Bz := Int.pow_succ Bz i
 refine ⟨fun hn => ⟨by simp [h1], okd_snoc h2 (by simp only [Bz]; omega), .inr rfl, hi, ?_⟩, fun hn => ⟨by simp [h1], okd_snoc h2 (by simp only [Bz]; omega), .inl rfl, hi, ?_⟩⟩
 ·rw [val_snoc, h1, val_take_succ', val_take_succ', h5, hv, e1]; simp only [Bz] at *; grind
 ·rw [val_snoc, h1, val_take_succ', val_take_succ', h5, hv]; grind
theorem rminus_end {a b o : List Int} {i : Nat} {c : Int} (h : RMinus a b i c o) (hi : ¬ i < a.length) (hl : b.length ≤ a.length) (hv : val b ≤ val a) : okd o ∧ val o = val a - val b ∧ o.length = a.length := by
 obtain ⟨h1, h2, h3, h4, h5⟩ := h
 rw [List.take_of_length_le (by omega), List.take_of_length_le (by omega)] at h5
 have h6 := val_lt h2
 rw [h1] at h6
 rcases h3 with rfl | rfl
 ·exact ⟨h2, by simpa using h5, by omega⟩
 ·exfalso; omega
theorem rminus_zero (a b : List Int) : RMinus a b 0 0 [] := ⟨rfl, okd_nil, .inl rfl, by omega, by simp [val]⟩
theorem M_187 [SpC] (a b : List Int) (ha : a.length < 2 ^ 30) (hl : b.length ≤ a.length) (oa : okd a) (ob : okd b) (hv : val b ≤ val a) :
  ∃ out, M X 187 [isl a, isl b] = some (isl out) ∧ okd out ∧ val out = val a - val b ∧ out.length = a.length := by
 suffices h : ∃ r, (∃ out, r = isl out ∧ okd out ∧ val out = val a - val b ∧ out.length = a.length) ∧ M X 187 [isl a, isl b] = some r by
  obtain ⟨r, ⟨out, rfl, h1⟩, h2⟩ := h
  exact ⟨out, h2, h1⟩
 refine M_ex (fn := Tryz.f187) Tryz.func187 rfl ok_187 mode_187 res_187 _ rfl _ ?_
 simp (maxSteps := 4000000) (disch := first | omega | (simp only [LL]; omega)) only [go_sem]
 refine W_loop X (fun (i : Nat) s => s.env 0 = isl a ∧ s.env 1 = isl b ∧ s.env 7 = .int .i64 i ∧ ∃ c o, s.env 6 = .int .i64 c ∧ Grow 1 s.heap s.next (s.env 5) o ∧ RMinus a b i c o) (fun i => a.length - i) ?_ 0 _ ?_
 ·rintro i ⟨env, heap, nx⟩ ⟨g0, g1, g7, c, o, g6, hgr, hp⟩
  simp only at g0 g1 g7 g6 hgr
  have lo := hp.1
  have hc := hp.2.2.1
  have him := hp.2.2.2.1
  have ka := okd_getD oa i
  have kb := okd_getD ob i
  simp only [Bz] at ka kb
  have md : ∀ l : List Int, M X 233 [isl l, .int .i64 i] = some (.int .i64 (l.getD i 0)) := fun l => by
   rw [M_233 l i (by omega), Int.toNat_natCast]
  by_cases hi : i < a.length
  ·obtain ⟨hs1, hs2⟩ := rminus_step hp oa ob hi _ rfl
   by_cases hn : a.getD i 0 - b.getD i 0 - c < 0
   ·have hs := hs1 hn
    rcases hgr with ⟨e5, rfl⟩ | ⟨B, hB, e5, eB⟩
    ·simp (maxSteps := 4000000) (disch := first | omega | (simp only [LL]; omega)) only [go_sem, g0, g1, g7, g6, e5, mode_233, md]
     exact ⟨i + 1, ⟨rfl, _, _, rfl, grow_one _ _ _ _ _ (by omega), hs⟩, by omega⟩
    ·simp (maxSteps := 4000000) (disch := first | omega | (simp only [LL]; omega)) only [go_sem, g0, g1, g7, g6, e5, eB, mode_233, md]
     exact ⟨i + 1, ⟨rfl, _, _, rfl, grow_app _ _ _ _ _ _ _ (by omega) rfl, hs⟩, by omega⟩
   ·have hs := hs2 hn
    rcases hgr with ⟨e5, rfl⟩ | ⟨B, hB, e5, eB⟩
    ·simp (maxSteps := 4000000) (disch := first | omega | (simp only [LL]; omega)) only [go_sem, g0, g1, g7, g6, e5, mode_233, md]
     exact ⟨i + 1, ⟨rfl, _, _, rfl, grow_one _ _ _ _ _ (by omega), hs⟩, by omega⟩
    ·simp (maxSteps := 4000000) (disch := first | omega | (simp only [LL]; omega)) only [go_sem, g0, g1, g7, g6, e5, eB, mode_233, md]
     exact ⟨i + 1, ⟨rfl, _, _, rfl, grow_app _ _ _ _ _ _ _ (by omega) rfl, hs⟩, by omega⟩
  ·obtain ⟨r1, r2, r3⟩ := rminus_end hp hi hl hv
   rcases hgr with ⟨e5, rfl⟩ | ⟨B, hB, e5, eB⟩
   ·simp (maxSteps := 4000000) (disch := first | omega | (simp only [LL]; omega)) only [go_sem, g0, g1, g7, g6, e5]
    exact ⟨[], rfl, r1, r2, r3⟩
   ·simp (maxSteps := 4000000) (disch := first | omega | (simp only [LL]; omega)) only [go_sem, g0, g1, g7, g6, e5, eB]
    exact ⟨o, rfl, r1, r2, r3⟩
 ·simp (maxSteps := 4000000) (disch := first | omega | (simp only [LL]; omega)) only [go_sem]
  exact ⟨0, [], rfl, grow_nil _ _ _, rminus_zero a b⟩
theorem rplusZ [SpC] (x y : Int) (hx : nd x < 2 ^ 28) (hy : nd y < 2 ^ 28) : ∃ out, M X 185 [zD x, zD y] = some (isl out) ∧ ∀ neg z, z = (if neg then -((x.natAbs : Int) + y.natAbs) else (x.natAbs : Int) + y.natAbs) → M X 184 [.bool neg, isl out] = some (.agg [zS z, zD z]) := by
 obtain ⟨out, h1, h2, h3, h4⟩ := M_185 (digs x.natAbs) (digs y.natAbs) (by rw [len_nd]; omega) (by rw [len_nd]; omega) (okd_nat x) (okd_nat y)
 rw [val_nat, val_nat] at h3
 rw [len_nd, len_nd] at h4
 exact ⟨out, h1, fun neg z hz => normZ neg out z h2 (by omega) (by rw [h3]; exact hz)⟩
theorem rminusZ [SpC] (x y : Int) (hx : nd x < 2 ^ 28) (hv : y.natAbs ≤ x.natAbs) : ∃ out, M X 187 [zD x, zD y] = some (isl out) ∧ ∀ neg z, z = (if neg then -((x.natAbs : Int) - y.natAbs) else (x.natAbs : Int) - y.natAbs) → M X 184 [.bool neg, isl out] = some (.agg [zS z, zD z]) := by
 obtain ⟨out, h1, h2, h3, h4⟩ := M_187 (digs x.natAbs) (digs y.natAbs) (by rw [len_nd]; omega) (nd_mono hv) (okd_nat x) (okd_nat y) (by rw [val_nat, val_nat]; omega)
 rw [val_nat, val_nat] at h3
 rw [len_nd] at h4
 exact ⟨out, h1, fun neg z hz => normZ neg out z h2 (by omega) (by rw [h3]; exact hz)⟩
theorem comparedZ [SpC] (x y : Int) (hx : nd x < 2 ^ 40) (hy : nd y < 2 ^ 40) : M X 186 [zD x, zD y] = some (.int .i64 (cmpZ x.natAbs y.natAbs)) := by
 rw [← cmpL_digs]
 exact M_186 _ _ hx hy
theorem normDg [SpC] (neg : Bool) (x z : Int) (hx : nd x < 2 ^ 40) (hz : z = if neg then -(x.natAbs : Int) else x.natAbs) : M X 184 [.bool neg, zD x] = some (.agg [zS z, zD z]) := by
 rw [zD_eq]
 exact normZ neg _ z (okd_nat x) (by rw [len_nd]; exact hx) (by rw [val_nat]; exact hz)
theorem M_119 [SpC] (x y : Int) (hx : nd x < 2 ^ 28) (hy : nd y < 2 ^ 28) : M X 119 [.agg [zS x, zD x], .agg [zS y, zD y]] = some (.agg [zS (x + y), zD (x + y)]) := by
 refine M_of X (fn := Tryz.f119) Tryz.func119 rfl ok_119 mode_119 res_119 _ rfl _ ?_
 intro r hr
 obtain ⟨p, p1, p5⟩ := rplusZ x y hx hy
 have hc := comparedZ x y (by omega) (by omega)
 have hc' : ¬ x.natAbs < y.natAbs → 0 ≤ cmpZ (x.natAbs : Int) y.natAbs := by intro h; unfold cmpZ; rw [if_neg (by omega)]; split <;> omega
 by_cases h1 : x < 0
 ·by_cases h2 : y < 0
  ·have p6 := p5 true (x + y) (by simp; omega)
   simp (maxSteps := 4000000) (disch := first | omega | (simp only [LL]; omega)) only [go_sem, zS_neg, mode_185, mode_184, p1, p6]
   simp (disch := omega) only [hr, zS_neg, zS_pos]
  ·by_cases h3 : x.natAbs < y.natAbs
   ·obtain ⟨m, m1, m5⟩ := rminusZ y x hy (by omega)
    have m6 := m5 false (x + y) (by simp; omega)
    rw [cmpZ_lt (by omega)] at hc
    simp (maxSteps := 4000000) (disch := first | omega | (simp only [LL]; omega)) only [go_sem, zS_neg, zS_pos, mode_187, mode_186, mode_184, m1, m6, hc]
    simp (disch := omega) only [hr, zS_neg, zS_pos]
   ·obtain ⟨m, m1, m5⟩ := rminusZ x y hx (by omega)
    have m6 := m5 true (x + y) (by simp; omega)
    have hc' := hc' h3
    simp (maxSteps := 4000000) (disch := first | omega | (simp only [LL]; omega)) only [go_sem, zS_neg, zS_pos, mode_187, mode_186, mode_184, m1, m6, hc]
    simp (disch := omega) only [hr, zS_neg, zS_pos]
 ·by_cases h2 : y < 0
  ·by_cases h3 : x.natAbs < y.natAbs
   ·obtain ⟨m, m1, m5⟩ := rminusZ y x hy (by omega)
    have m6 := m5 true (x + y) (by simp; omega)
    rw [cmpZ_lt (by omega)] at hc
    simp (maxSteps := 4000000) (disch := first | omega | (simp only [LL]; omega)) only [go_sem, zS_neg, zS_pos, mode_187, mode_186, mode_184, m1, m6, hc]
    simp (disch := omega) only [hr, zS_neg, zS_pos]
   ·obtain ⟨m, m1, m5⟩ := rminusZ x y hx (by omega)
    have m6 := m5 false (x + y) (by simp; omega)
    have hc' := hc' h3
    simp (maxSteps := 4000000) (disch := first | omega | (simp only [LL]; omega)) only [go_sem, zS_neg, zS_pos, mode_187, mode_186, mode_184, m1, m6, hc]
    simp (disch := omega) only [hr, zS_neg, zS_pos]
  ·have p6 := p5 false (x + y) (by simp; omega)
   simp (maxSteps := 4000000) (disch := first | omega | (simp only [LL]; omega)) only [go_sem, zS_pos, mode_185, mode_184, p1, p6]
   simp (disch := omega) only [hr, zS_neg, zS_pos]
theorem M_182 [SpC] (x : Int) (hx : nd x < 2 ^ 28) : M X 182 [.agg [zS x, zD x]] = some (.agg [zS (-x), zD (-x)]) := by
 refine M_of X (fn := Tryz.f182) Tryz.func182 rfl ok_182 mode_182 res_182 _ rfl _ ?_
 intro r hr
 by_cases h1 : x < 0
 ·have hn := normDg false x (-x) (by omega) (by simp; omega)
  simp (maxSteps := 4000000) (disch := first | omega | (simp only [LL]; omega)) only [go_sem, zS_neg x h1, mode_184, hn]
  rw [hr]
 ·have hn := normDg true x (-x) (by omega) (by simp; omega)
  simp (maxSteps := 4000000) (disch := first | omega | (simp only [LL]; omega)) only [go_sem, zS_pos x (Int.not_lt.1 h1), mode_184, hn]
  rw [hr]
theorem M_171 [SpC] (x y : Int) (hx : nd x < 2 ^ 28) (hy : nd y < 2 ^ 28) : M X 171 [.agg [zS x, zD x], .agg [zS y, zD y]] = some (.int .i64 (cmpZ x y)) := by
 refine M_of X (fn := Tryz.f171) Tryz.func171 rfl ok_171 mode_171 res_171 _ rfl _ ?_
 intro r hr
 have hc := comparedZ x y (by omega) (by omega)
 have hc' := comparedZ y x (by omega) (by omega)
 by_cases h1 : x < 0
 ·by_cases h2 : y < 0
  ·simp (maxSteps := 4000000) (disch := first | omega | (simp only [LL]; omega)) only [go_sem, zS_neg, mode_186, hc, hc']
   rw [hr]; congr 1; unfold cmpZ; grind
  ·simp (maxSteps := 4000000) (disch := first | omega | (simp only [LL]; omega)) only [go_sem, zS_neg, zS_pos, mode_186, hc, hc']
   rw [hr, cmpZ_lt (by omega)]
 ·by_cases h2 : y < 0
  ·simp (maxSteps := 4000000) (disch := first | omega | (simp only [LL]; omega)) only [go_sem, zS_neg, zS_pos, mode_186, hc, hc']
   rw [hr, cmpZ_gt (by omega)]
  ·simp (maxSteps := 4000000) (disch := first | omega | (simp only [LL]; omega)) only [go_sem, zS_pos, mode_186, hc, hc']
   rw [hr]; congr 1; unfold cmpZ; grind
theorem M_165 [SpC] (x : Int) (hx : nd x < 2 ^ 28) : M X 165 [.agg [zS x, zD x]] = some (.int .i64 (cmpZ x 0)) := by
 refine M_of X (fn := Tryz.f165) Tryz.func165 rfl ok_165 mode_165 res_165 _ rfl _ ?_
 intro r hr
 have hc := M_171 x 0 hx (by rw [nd_zero 0 rfl]; decide)
 rw [← zz_nil, ← zz_false] at hc
 simp (maxSteps := 4000000) (disch := first | omega | (simp only [LL]; omega)) only [go_sem, mode_171, hc]
 rw [hr]
theorem mulP_step' {a b o : List Int} {i k : Nat} {c : Int} (h : MulP a b i k c o) (hi : i < a.length) (hk : k < b.length) (oa : okd a) (ob : okd b) (v : Int) (hv : v = o.getD (i + k) 0 + a.getD i 0 * b.getD k 0 + c) :
  MulP a b i (k + 1) (v / 1000000000) (o.set (i + k) (v % 1000000000)) := by
 have := mulP_step h hi hk oa ob v _ hv rfl
 rwa [show v - v / 1000000000 * 1000000000 = v % 1000000000 by omega] at this
theorem rmulL [SpC] (na nb : Bool) (a b : List Int) (ha : a.length < 2 ^ 28) (hb : b.length < 2 ^ 28) (oa : okd a) (ob : okd b) (z : Int) (hz : z = if na = nb then val a * val b else -(val a * val b)) :
  M X 117 [.agg [.bool na, isl a], .agg [.bool nb, isl b]] = some (.agg [zS z, zD z]) := by
 refine M_of X (fn := Tryz.f117) Tryz.func117 rfl ok_117 mode_117 res_117 _ rfl _ ?_
 intro r hr
 have hof : ∀ out, okd out → val out = val a * val b → out.length < 2 ^ 40 → ∀ t, t = !(na == nb) → M X 184 [.bool t, isl out] = some (.agg [zS z, zD z]) := by
  intro out h2 h3 h4 t ht
  refine normZ _ out z h2 h4 ?_
  rw [hz, h3, ht]; cases na <;> cases nb <;> rfl
 simp (maxSteps := 4000000) (disch := first | omega | (simp only [LL]; omega)) only [go_sem]
 refine W_loop X (fun (i : Nat) s => i ≤ a.length ∧ s.env 2 = .ptr 0 0 ∧ s.env 3 = .ptr 8 0 ∧ s.env 4 = .ptr 16 0 ∧ s.env 5 = .sl 80 0 (a.length + b.length) (some (a.length + b.length)) 1 ∧
   s.env 6 = .int .i64 i ∧ s.heap 0 = some (.cells [.bool na, isl a] false false) ∧ s.heap 8 = some (.cells [.bool nb, isl b] false false) ∧ s.heap 16 = some (.cells [.bool false, .ro [] 0 false] false false) ∧ 80 < s.next ∧
   ∃ o, s.heap 80 = some (.cells (ints o) false false) ∧ MulP a b i 0 0 o) (fun i => a.length - i) ?_ 0 _ ?_
 ·rintro i ⟨env, heap, nx⟩ ⟨hi, g2, g3, g4, g5, g6, e0, e8, e16, hnx, o, gh, hm⟩
  simp only at g2 g3 g4 g5 g6 e0 e8 e16 gh hnx
  have ho := hm.1
  by_cases h3 : i < a.length
  ·simp (maxSteps := 4000000) (disch := first | omega | (simp only [LL]; omega)) only [go_sem, g2, g3, g4, g5, g6, e0, e8, e16, gh, ho]
   refine W_loop X (fun (k : Nat) s => k ≤ b.length ∧ s.env 2 = .ptr 0 0 ∧ s.env 3 = .ptr 8 0 ∧ s.env 4 = .ptr 16 0 ∧ s.env 5 = .sl 80 0 (a.length + b.length) (some (a.length + b.length)) 1 ∧
    s.env 6 = .int .i64 i ∧ s.env 8 = .int .i64 k ∧ s.heap 0 = some (.cells [.bool na, isl a] false false) ∧ s.heap 8 = some (.cells [.bool nb, isl b] false false) ∧ s.heap 16 = some (.cells [.bool false, .ro [] 0 false] false false) ∧ 80 < s.next ∧
    ∃ o c, s.heap 80 = some (.cells (ints o) false false) ∧ s.env 7 = .int .i64 c ∧ MulP a b i k c o) (fun k => b.length - k) ?_ 0 _ ?_
   ·clear gh hm ho g2 g3 g4 g5 g6 e0 e8 e16 hnx
    rintro k ⟨env, heap, nx⟩ ⟨hk, g2, g3, g4, g5, g6, g8, e0, e8, e16, hnx, o, c, gh, g7, hm⟩
    simp only at g2 g3 g4 g5 g6 g8 e0 e8 e16 gh hnx g7
    have ho := hm.1
    have hc := hm.2.2.1
    by_cases h4 : k < b.length
    ·have ka := okd_getD oa i
     have kb := okd_getD ob k
     have ko := okd_getD hm.2.1 (i + k)
     have hd := mul_dig ka kb
     simp only [Bz] at ka kb ko
     have hm' := mulP_step' hm h3 h4 oa ob _ rfl
     simp (maxSteps := 4000000) (disch := first | omega | (simp only [LL]; omega)) only [go_sem, g2, g3, g4, g5, g6, g7, g8, e0, e8, e16, gh, ho]
     exact ⟨k + 1, ⟨by omega, rfl, by omega, _, _, rfl, rfl, hm'⟩, by omega⟩
    ·have hk' : k = b.length := by omega
     subst hk'
     have hm' := mulP_end hm h3
     simp (maxSteps := 4000000) (disch := first | omega | (simp only [LL]; omega)) only [go_sem, g2, g3, g4, g5, g6, g7, g8, e0, e8, e16, gh, ho]
     exact ⟨i + 1, ⟨by omega, rfl, by omega, _, rfl, hm'⟩, by omega⟩
   ·simp (maxSteps := 4000000) (disch := first | omega | (simp only [LL]; omega)) only [go_sem, g2, g3, g4, g5, g6, e0, e8, e16, gh, ho]
    exact ⟨by omega, o, 0, rfl, rfl, hm⟩
  ·have hi' : i = a.length := by omega
   subst hi'
   have hv := mulP_val hm
   have hof' := hof o hv.1 hv.2 (by omega) _ rfl
   simp (maxSteps := 4000000) (disch := first | omega | (simp only [LL]; omega)) only [go_sem, g2, g3, g4, g5, g6, e0, e8, e16, gh, ho, mode_184, hof']
   rw [hr]
 ·simp (maxSteps := 4000000) (disch := first | omega | (simp only [LL]; omega)) only [go_sem]
  exact ⟨_, rfl, mulP_zero a b⟩
theorem M_117 [SpC] (x y : Int) (hx : nd x < 2 ^ 28) (hy : nd y < 2 ^ 28) : M X 117 [.agg [zS x, zD x], .agg [zS y, zD y]] = some (.agg [zS (x * y), zD (x * y)]) := by
 refine rmulL _ _ _ _ hx hy (okd_nat x) (okd_nat y) (x * y) ?_
 rw [val_nat, val_nat]
 rcases Int.natAbs_eq x with e1 | e1 <;> rcases Int.natAbs_eq y with e2 | e2 <;> generalize x.natAbs = m at * <;> generalize y.natAbs = n at * <;> subst e1 <;> subst e2
 ·rw [decide_eq_false (by omega), decide_eq_false (by omega)]; rfl
 ·by_cases hn : n = 0
  ·subst hn; simp
  ·rw [decide_eq_false (by omega), decide_eq_true (by omega)]; simp [Int.mul_neg]
 ·by_cases hm : m = 0
  ·subst hm; simp
  ·rw [decide_eq_true (by omega), decide_eq_false (by omega)]; simp [Int.neg_mul]
 ·by_cases hn : n = 0
  ·subst hn; simp
  ·by_cases hm : m = 0
   ·subst hm; simp
   ·rw [decide_eq_true (by omega), decide_eq_true (by omega)]; simp [Int.neg_mul_neg]
theorem nd_small (x : Int) (h : x.natAbs < 1000000000000000000000000000) : nd x ≤ 3 := by rw [nd, len_digs]; exact h
theorem M_248 [SpC] (y k : Int) (hy : nd y < 2 ^ 28) (hk : 0 ≤ k ∧ k ≤ 9223372036854775807) : M X 248 [zD y, .int .i64 k] = some (zD (y.natAbs * k)) := by
 refine M_of X (fn := Tryz.f248) Tryz.func248 rfl ok_248 mode_248 res_248 _ rfl _ ?_
 intro r hr
 have h1 := normDg false y y.natAbs (by omega) (by simp)
 have h2 := M_116 k (by omega)
 have h3 := M_117 y.natAbs k (by rw [nd_nat]; omega) (by have := nd_small k (by omega); omega)
 simp (maxSteps := 4000000) (disch := first | omega | (simp only [LL]; omega)) only [go_sem, mode_184, mode_116, mode_117, h1, h2, h3]
 rw [hr]
theorem digs_0 (n : Nat) : (digs n).getD 0 0 = ((n % Bn : Nat) : Int) := by
 by_cases h : n = 0
 ·subst h; rw [digs_zero]; rfl
 ·rw [digs_pos n h]; rfl
theorem digs_1 (n : Nat) : (digs n).getD 1 0 = ((n / Bn % Bn : Nat) : Int) := by
 by_cases h : n = 0
 ·subst h; rw [digs_zero]; rfl
 ·rw [digs_pos n h]
  exact digs_0 _
theorem M_231 [SpC] (x : Int) (h : x.natAbs < 1000000000000000000) : M X 231 [zD x] = some (.int .i64 x.natAbs) := by
 refine M_of X (fn := Tryz.f231) Tryz.func231 rfl ok_231 mode_231 res_231 _ rfl _ ?_
 intro r hr
 have h0 := M_233 (digs x.natAbs) 0 (by omega)
 have h1 := M_233 (digs x.natAbs) 1 (by omega)
 rw [show (0 : Int).toNat = 0 from rfl, digs_0, ← zD_eq] at h0
 rw [show (1 : Int).toNat = 1 from rfl, digs_1, ← zD_eq] at h1
 have e : ((x.natAbs / Bn % Bn : Nat) : Int) * 1000000000 + ((x.natAbs % Bn : Nat) : Int) = x.natAbs := by simp only [Bn]; omega
 have b1 : 0 ≤ ((x.natAbs / Bn % Bn : Nat) : Int) ∧ ((x.natAbs / Bn % Bn : Nat) : Int) < 1000000000 := by simp only [Bn]; omega
 have b2 : 0 ≤ ((x.natAbs % Bn : Nat) : Int) ∧ ((x.natAbs % Bn : Nat) : Int) < 1000000000 := by simp only [Bn]; omega
 generalize ((x.natAbs / Bn % Bn : Nat) : Int) = d1 at *
 generalize ((x.natAbs % Bn : Nat) : Int) = d0 at *
 simp (maxSteps := 4000000) (disch := first | omega | (simp only [LL]; omega)) only [go_sem, mode_233, h0, h1]
 rw [hr, e]
theorem inst_zD (id : Nat) (z : Int) : instantiate id (zD z) = some (zD z, []) := inst_isl id _
theorem src_zD (h : Heap) (z : Int) : srcCells h 1 (zD z) = some (ints (digs z.natAbs), nd z, []) := src_isl h _
theorem ixS_zD (z : Int) (n : Int) (hn : 0 ≤ n ∧ n < nd z) : ixS 1 (zD z) n = some (.loc ⟨.rptr (List.drop n.toNat (ints (digs z.natAbs))), [], []⟩) := ixS_isl _ n hn
theorem nd_mul (x y : Int) : nd (x * y) ≤ nd x + nd y := by
  refine nd_le_of ?_
  rw [Int.natAbs_mul, Nat.pow_add]
  have h1 := lt_of_nd x
  have h2 := lt_of_nd y
  rcases Nat.eq_zero_or_pos y.natAbs with h | h
  · rw [h, Nat.mul_zero]; exact Nat.mul_pos (Nat.pow_pos (by decide)) (Nat.pow_pos (by decide))
  · exact Nat.mul_lt_mul_of_lt_of_le h1 (Nat.le_of_lt h2) (Nat.pow_pos (by decide))
theorem nd_add (x y : Int) : nd (x + y) ≤ max (nd x) (nd y) + 1 := by
  refine nd_le_of ?_
  have h1 := Nat.lt_of_lt_of_le (lt_of_nd x) (Nat.pow_le_pow_right (show 0 < Bn by decide) (Nat.le_max_left (nd x) (nd y)))
  have h2 := Nat.lt_of_lt_of_le (lt_of_nd y) (Nat.pow_le_pow_right (show 0 < Bn by decide) (Nat.le_max_right (nd x) (nd y)))
  rw [Nat.pow_succ]
  have h3 := Int.natAbs_add_le x y
  simp only [Bn] at *; omega
def HalfP (R n : Int) (lo hi : Int) : Prop := 0 ≤ lo ∧ lo ≤ hi ∧ hi ≤ 999999999 ∧ lo * n ≤ R ∧ R < (hi + 1) * n
theorem half_end {R n lo hi : Int} (h : HalfP R n lo hi) (hh : ¬ lo < hi) (_ : 0 < n) : R / n = lo ∧ R % n = R - lo * n := by
  obtain ⟨h1, h2, h3, h4, h5⟩ := h
  have e : hi = lo := by omega
  subst e
  rw [Int.add_mul] at h5
  exact (Int.ediv_emod_unique (by omega)).2 ⟨by rw [Int.mul_comm n]; omega, by omega, by omega⟩
theorem M_232 [SpC] (x y : Int) (hx : nd x < 2 ^ 27) (hy : nd y < 2 ^ 27) (h0 : y ≠ 0) :
    ∃ q, M X 232 [zD x, zD y] = some (.tuple [isl q, zD ((x.natAbs : Int) % y.natAbs)]) ∧ okd q ∧ val q = (x.natAbs : Int) / y.natAbs ∧ q.length ≤ nd x + 3 := by
  suffices h : ∃ r, (∃ q, r = .tuple [isl q, zD ((x.natAbs : Int) % y.natAbs)] ∧ okd q ∧ val q = (x.natAbs : Int) / y.natAbs ∧ q.length ≤ nd x + 3) ∧ M X 232 [zD x, zD y] = some r by
    obtain ⟨r, ⟨q, rfl, h1⟩, h2⟩ := h
    exact ⟨q, h2, h1⟩
  refine M_ex (fn := Tryz.f232) Tryz.func232 rfl ok_232 mode_232 res_232 _ rfl _ ?_
  obtain ⟨d1, d2, d3, d4, d5⟩ := nat_div x y h0
  by_cases h1 : nd x ≤ 2 ∧ nd y ≤ 2
  · have x2 := (nd_le_two x).1 h1.1
    have y2 := (nd_le_two y).1 h1.2
    have t1 := M_231 x x2
    have t2 := M_231 y y2
    have o1 := M_116 ((x.natAbs : Int) / y.natAbs) (by omega)
    have o2 := M_116 ((x.natAbs : Int) % y.natAbs) (by omega)
    simp (maxSteps := 4000000) (disch := first | omega | (simp only [LL]; omega)) only [go_sem, mode_231, mode_116, t1, t2, o1, o2]
    refine ⟨digs ((x.natAbs : Int) / y.natAbs).natAbs, rfl, okd_digs _, by rw [val_digs]; omega, ?_⟩
    rw [len_nd]; have := nd_mono (x := (x.natAbs : Int) / y.natAbs) (y := x) (by omega); omega
  · have hn : ∀ (P : Prop), (nd x ≤ 2 → ¬ nd y ≤ 2 → P) → (¬ nd x ≤ 2 → P) → P := by
      intro P a b; by_cases h : nd x ≤ 2
      · exact a h (fun h' => h1 ⟨h, h'⟩)
      · exact b h
    have hn0 : nd x ≤ 2 → ¬ nd y ≤ 2 := fun h h' => h1 ⟨h, h'⟩
    have yn : (0 : Int) < y.natAbs := by omega
    by_cases h2 : nd x ≤ 2
    all_goals
      try have h3 := hn0 h2
      simp (maxSteps := 4000000) (disch := first | omega | (simp only [LL]; omega)) only [go_sem]
      refine W_loop X (fun (n : Nat) s => n ≤ nd x ∧ s.env 0 = zD x ∧ s.env 1 = zD y ∧ s.env 8 = .sl 96 0 (nd x) (some (nd x)) 1 ∧ s.env 10 = .int .i64 ((n : Int) - 1) ∧ 96 < s.next ∧
        ∃ (q : List Int) (c : Int), s.heap 96 = some (.cells (ints q) false false) ∧ (s.env 9 = zD c ∨ n = nd x ∧ c = 0 ∧ s.env 9 = .ro [] 0 true) ∧ ShoP (digs x.natAbs) y.natAbs n c q) (fun n => n) ?_ (nd x) _ ?_
      · rintro n ⟨env, heap, nx⟩ ⟨hn, g0, g1, g8, g10, hnx, q, c, gh, g9, hm⟩
        simp only at g0 g1 g8 g9 g10 gh hnx
        have hq := hm.1
        rw [len_nd] at hq
        have hc := hm.2.2.1
        have hlen := len_nd x
        obtain _ | m := n
        · have hv := hm.2.2.2
          rw [List.drop_zero, List.drop_zero, val_nat] at hv
          have e := (Int.ediv_emod_unique (a := (x.natAbs : Int)) (b := y.natAbs) (r := c) (q := val q) yn).2 ⟨by omega, hc.1, hc.2⟩
          rcases g9 with g9 | ⟨e0, rfl, g9⟩
          · simp (maxSteps := 4000000) (disch := first | omega | (simp only [LL]; omega)) only [go_sem, g0, g1, g8, g9, g10, gh, hq]
            exact ⟨q, by rw [e.2], hm.2.1, e.1.symm, by omega⟩
          · first
            | (exfalso; omega)
            | (simp (maxSteps := 4000000) (disch := first | omega | (simp only [LL]; omega)) only [go_sem, g0, g1, g8, g9, g10, gh, hq]
               exact ⟨q, by rw [e.2, zz_nil], hm.2.1, e.1.symm, by omega⟩)
        · have ka := okd_getD (okd_nat x) m
          simp only [Bz] at ka
          have hstep := shoP_step hm (by omega) (okd_nat x) yn
          obtain ⟨am, ham⟩ : ∃ am, am = (digs x.natAbs).getD m 0 := ⟨_, rfl⟩
          rw [← ham] at ka hstep
          obtain ⟨R, hR⟩ : ∃ R, R = c * 1000000000 + am := ⟨_, rfl⟩
          rw [← hR] at hstep
          have hdd := dig_div yn hc ka
          rw [← hR] at hdd
          have hR0 : 0 ≤ R := by omega
          have hRn : R.natAbs = R := by omega
          have hRh : R < 1000000000 * y.natAbs := by omega
          have nR : nd R ≤ nd y + 1 := nd_le_of (by rw [Nat.pow_succ]; have := lt_of_nd y; simp only [Bn] at *; omega)
          have nc : nd c ≤ nd y := nd_mono (by omega)
          have hcmp := comparedZ R y (by omega) (by omega)
          rw [hRn] at hcmp
          have hends : ∀ lo hi, HalfP R y.natAbs lo hi → ¬ lo < hi → ∃ o, M X 248 [zD y, .int .i64 lo] = some (zD (y.natAbs * lo)) ∧ M X 187 [zD R, zD (y.natAbs * lo)] = some (isl o) ∧
              M X 184 [.bool false, isl o] = some (.agg [zS (R % y.natAbs), zD (R % y.natAbs)]) ∧ R / y.natAbs = lo := by
            intro lo hi hp hlt
            obtain ⟨w1, w2⟩ := half_end hp hlt yn
            obtain ⟨p1, p2, p3, p4, p5⟩ := hp
            have w3 := Int.mul_nonneg (show (0 : Int) ≤ y.natAbs by omega) p1
            rw [Int.mul_comm lo] at p4 w2
            obtain ⟨o, o1, o2⟩ := rminusZ R (y.natAbs * lo) (by omega) (by omega)
            exact ⟨o, M_248 y lo (by omega) (by omega), o1, o2 false _ (by rw [w2]; simp; omega), w1⟩
          have hstep2 : ∀ lo hi, HalfP R y.natAbs lo hi → lo < hi → M X 248 [zD y, .int .i64 ((lo + hi + 1) / 2)] = some (zD (y.natAbs * ((lo + hi + 1) / 2))) ∧
              ((y.natAbs : Int) * ((lo + hi + 1) / 2) ≤ R → HalfP R y.natAbs ((lo + hi + 1) / 2) hi) ∧ (¬ (y.natAbs : Int) * ((lo + hi + 1) / 2) ≤ R → HalfP R y.natAbs lo ((lo + hi + 1) / 2 - 1)) ∧
              M X 186 [zD (y.natAbs * ((lo + hi + 1) / 2)), zD R] = some (.int .i64 (cmpZ (y.natAbs * ((lo + hi + 1) / 2)) R)) := by
            intro lo hi hp hlt
            obtain ⟨p1, p2, p3, p4, p5⟩ := hp
            have b1 : lo < (lo + hi + 1) / 2 ∧ (lo + hi + 1) / 2 ≤ hi := by omega
            obtain ⟨mid, hmid⟩ : ∃ mid, mid = (lo + hi + 1) / 2 := ⟨_, rfl⟩
            rw [← hmid] at b1 ⊢
            have w3 := Int.mul_nonneg (show (0 : Int) ≤ y.natAbs by omega) (show 0 ≤ mid by omega)
            have nm : nd mid ≤ 1 := nd_le_of (by simp only [Bn]; omega)
            have nmm := nd_mul y.natAbs mid
            rw [nd_nat] at nmm
            refine ⟨M_248 y mid (by omega) (by omega), fun h => ⟨by omega, by omega, p3, by rw [Int.mul_comm]; exact h, p5⟩, fun h => ⟨p1, by omega, by omega, p4, by rw [Int.sub_add_cancel, Int.mul_comm]; omega⟩, ?_⟩
            have := comparedZ (y.natAbs * mid) R (by omega) (by omega)
            rwa [hRn, Int.natAbs_of_nonneg w3] at this
          have hN1 : M X 184 [.bool false, isl [am]] = some (.agg [zS am, zD am]) := normZ false [am] am (by intro d hd; simp at hd; subst hd; exact ka) (by simp) (by simp [val])
          have hN2 : M X 184 [.bool false, isl (am :: digs c.natAbs)] = some (.agg [zS R, zD R]) := normZ false _ R (by rw [okd_cons]; exact ⟨ka, okd_nat c⟩) (by rw [List.length_cons, len_nd]; omega) (by simp only [val, val_nat, Bz]; simp; omega)
          have hlc := len_nd c
          have nz : c = 0 → nd c = 0 ∧ R = am := fun h => ⟨nd_zero c h, by rw [hR, h]; simp⟩
          have hcase : (∃ v, env 9 = v ∧ (v = zD c ∨ v = .ro [] 0 true) ∧ c = 0) ∨ (env 9 = zD c ∧ c ≠ 0) := by
            rcases g9 with g9 | ⟨e0, h, g9⟩
            · by_cases c0 : c = 0
              · exact .inl ⟨_, g9, .inl rfl, c0⟩
              · exact .inr ⟨g9, c0⟩
            · exact .inl ⟨_, g9, .inr rfl, h⟩
          clear g9
          rcases hcase with ⟨v, g9, rfl | rfl, c0⟩ | ⟨g9, c0⟩
          · obtain ⟨c1, c2⟩ := nz c0
            have hN : M X 184 [.bool false, .ro [.int .i64 am] 1 false] = some (.agg [zS R, zD R]) := by rw [c2]; exact hN1
            by_cases hlt : R < y.natAbs
            · rw [cmpZ_lt hlt] at hcmp
              simp (maxSteps := 4000000) (disch := first | omega | (simp only [LL]; omega)) only [go_sem, g0, g1, g8, g9, g10, gh, hq, ixS_zD, ← ham, src_zD, c1, mode_184, mode_186, hN, hcmp]
              have hp : HalfP R y.natAbs 0 0 := ⟨by omega, by omega, by omega, by omega, by omega⟩
              refine W_loop X (fun (p : Int × Int) s => s.env 0 = zD x ∧ s.env 1 = zD y ∧ s.env 8 = .sl 96 0 (nd x) (some (nd x)) 1 ∧ s.env 9 = zD R ∧ s.env 10 = .int .i64 m ∧ s.env 12 = .int .i64 p.1 ∧ s.env 13 = .int .i64 p.2 ∧ 96 < s.next ∧
                s.heap 96 = some (.cells (ints q) false false) ∧ HalfP R y.natAbs p.1 p.2) (fun p => (p.2 - p.1).toNat) ?_ (0, 0) _ ?_
              · clear g0 g1 g8 g9 g10 gh hnx hp hN hcmp
                rintro ⟨lo, hi⟩ ⟨env, heap, nx⟩ ⟨g0, g1, g8, g9, g10, g12, g13, hnx, gh, hp⟩
                simp only at g0 g1 g8 g9 g10 g12 g13 gh hnx hp
                have hpb : 0 ≤ lo ∧ lo ≤ hi ∧ hi ≤ 999999999 := ⟨hp.1, hp.2.1, hp.2.2.1⟩
                by_cases hlh : lo < hi
                · obtain ⟨s1, s2, s3, s4⟩ := hstep2 lo hi hp hlh
                  by_cases hle : (y.natAbs : Int) * ((lo + hi + 1) / 2) ≤ R
                  · have hz : cmpZ (y.natAbs * ((lo + hi + 1) / 2)) R ≤ 0 := by unfold cmpZ; split <;> (try split) <;> omega
                    have hp' := s2 hle
                    simp (maxSteps := 4000000) (disch := first | omega | (simp only [LL]; omega)) only [go_sem, g0, g1, g8, g9, g10, g12, g13, gh, hq, inst_zD, mode_248, mode_186, s1, s4]
                    exact ⟨((lo + hi + 1) / 2, hi), ⟨rfl, rfl, by omega, hp'⟩, by simp only; omega⟩
                  · have hz : 0 < cmpZ (y.natAbs * ((lo + hi + 1) / 2)) R := by rw [cmpZ_gt (by omega)]; omega
                    have hp' := s3 hle
                    simp (maxSteps := 4000000) (disch := first | omega | (simp only [LL]; omega)) only [go_sem, g0, g1, g8, g9, g10, g12, g13, gh, hq, inst_zD, mode_248, mode_186, s1, s4]
                    exact ⟨(lo, (lo + hi + 1) / 2 - 1), ⟨rfl, rfl, by omega, hp'⟩, by simp only; omega⟩
                · obtain ⟨o, o1, o2, o3, o4⟩ := hends lo hi hp hlh
                  rw [o4] at hstep
                  simp (maxSteps := 4000000) (disch := first | omega | (simp only [LL]; omega)) only [go_sem, g0, g1, g8, g9, g10, g12, g13, gh, hq, inst_zD, mode_248, mode_187, mode_184, o1, o2, o3]
                  exact ⟨m, ⟨by omega, rfl, by omega, _, _, rfl, .inl rfl, hstep⟩, by omega⟩
              · simp (maxSteps := 4000000) (disch := first | omega | (simp only [LL]; omega)) only [go_sem, g0, g1, g8, g10, gh, hq]
                exact ⟨by omega, hp⟩
            · have hcmp0 : 0 ≤ cmpZ R y.natAbs := by unfold cmpZ; rw [if_neg hlt]; split <;> omega
              simp (maxSteps := 4000000) (disch := first | omega | (simp only [LL]; omega)) only [go_sem, g0, g1, g8, g9, g10, gh, hq, ixS_zD, ← ham, src_zD, c1, mode_184, mode_186, hN, hcmp]
              have hp : HalfP R y.natAbs 0 999999999 := ⟨by omega, by omega, by omega, by omega, by omega⟩
              refine W_loop X (fun (p : Int × Int) s => s.env 0 = zD x ∧ s.env 1 = zD y ∧ s.env 8 = .sl 96 0 (nd x) (some (nd x)) 1 ∧ s.env 9 = zD R ∧ s.env 10 = .int .i64 m ∧ s.env 12 = .int .i64 p.1 ∧ s.env 13 = .int .i64 p.2 ∧ 96 < s.next ∧
                s.heap 96 = some (.cells (ints q) false false) ∧ HalfP R y.natAbs p.1 p.2) (fun p => (p.2 - p.1).toNat) ?_ (0, 999999999) _ ?_
              · clear g0 g1 g8 g9 g10 gh hnx hp hN hcmp
                rintro ⟨lo, hi⟩ ⟨env, heap, nx⟩ ⟨g0, g1, g8, g9, g10, g12, g13, hnx, gh, hp⟩
                simp only at g0 g1 g8 g9 g10 g12 g13 gh hnx hp
                have hpb : 0 ≤ lo ∧ lo ≤ hi ∧ hi ≤ 999999999 := ⟨hp.1, hp.2.1, hp.2.2.1⟩
                by_cases hlh : lo < hi
                · obtain ⟨s1, s2, s3, s4⟩ := hstep2 lo hi hp hlh
                  by_cases hle : (y.natAbs : Int) * ((lo + hi + 1) / 2) ≤ R
                  · have hz : cmpZ (y.natAbs * ((lo + hi + 1) / 2)) R ≤ 0 := by unfold cmpZ; split <;> (try split) <;> omega
                    have hp' := s2 hle
                    simp (maxSteps := 4000000) (disch := first | omega | (simp only [LL]; omega)) only [go_sem, g0, g1, g8, g9, g10, g12, g13, gh, hq, inst_zD, mode_248, mode_186, s1, s4]
                    exact ⟨((lo + hi + 1) / 2, hi), ⟨rfl, rfl, by omega, hp'⟩, by simp only; omega⟩
                  · have hz : 0 < cmpZ (y.natAbs * ((lo + hi + 1) / 2)) R := by rw [cmpZ_gt (by omega)]; omega
                    have hp' := s3 hle
                    simp (maxSteps := 4000000) (disch := first | omega | (simp only [LL]; omega)) only [go_sem, g0, g1, g8, g9, g10, g12, g13, gh, hq, inst_zD, mode_248, mode_186, s1, s4]
                    exact ⟨(lo, (lo + hi + 1) / 2 - 1), ⟨rfl, rfl, by omega, hp'⟩, by simp only; omega⟩
                · obtain ⟨o, o1, o2, o3, o4⟩ := hends lo hi hp hlh
                  rw [o4] at hstep
                  simp (maxSteps := 4000000) (disch := first | omega | (simp only [LL]; omega)) only [go_sem, g0, g1, g8, g9, g10, g12, g13, gh, hq, inst_zD, mode_248, mode_187, mode_184, o1, o2, o3]
                  exact ⟨m, ⟨by omega, rfl, by omega, _, _, rfl, .inl rfl, hstep⟩, by omega⟩
              · simp (maxSteps := 4000000) (disch := first | omega | (simp only [LL]; omega)) only [go_sem, g0, g1, g8, g10, gh, hq]
                exact ⟨by omega, hp⟩
          · obtain ⟨c1, c2⟩ := nz c0
            have hN : M X 184 [.bool false, .ro [.int .i64 am] 1 false] = some (.agg [zS R, zD R]) := by rw [c2]; exact hN1
            by_cases hlt : R < y.natAbs
            · rw [cmpZ_lt hlt] at hcmp
              simp (maxSteps := 4000000) (disch := first | omega | (simp only [LL]; omega)) only [go_sem, g0, g1, g8, g9, g10, gh, hq, ixS_zD, ← ham, src_zD, c1, mode_184, mode_186, hN, hcmp]
              have hp : HalfP R y.natAbs 0 0 := ⟨by omega, by omega, by omega, by omega, by omega⟩
              refine W_loop X (fun (p : Int × Int) s => s.env 0 = zD x ∧ s.env 1 = zD y ∧ s.env 8 = .sl 96 0 (nd x) (some (nd x)) 1 ∧ s.env 9 = zD R ∧ s.env 10 = .int .i64 m ∧ s.env 12 = .int .i64 p.1 ∧ s.env 13 = .int .i64 p.2 ∧ 96 < s.next ∧
                s.heap 96 = some (.cells (ints q) false false) ∧ HalfP R y.natAbs p.1 p.2) (fun p => (p.2 - p.1).toNat) ?_ (0, 0) _ ?_
              · clear g0 g1 g8 g9 g10 gh hnx hp hN hcmp
                rintro ⟨lo, hi⟩ ⟨env, heap, nx⟩ ⟨g0, g1, g8, g9, g10, g12, g13, hnx, gh, hp⟩
                simp only at g0 g1 g8 g9 g10 g12 g13 gh hnx hp
                have hpb : 0 ≤ lo ∧ lo ≤ hi ∧ hi ≤ 999999999 := ⟨hp.1, hp.2.1, hp.2.2.1⟩
                by_cases hlh : lo < hi
                · obtain ⟨s1, s2, s3, s4⟩ := hstep2 lo hi hp hlh
                  by_cases hle : (y.natAbs : Int) * ((lo + hi + 1) / 2) ≤ R
                  · have hz : cmpZ (y.natAbs * ((lo + hi + 1) / 2)) R ≤ 0 := by unfold cmpZ; split <;> (try split) <;> omega
                    have hp' := s2 hle
                    simp (maxSteps := 4000000) (disch := first | omega | (simp only [LL]; omega)) only [go_sem, g0, g1, g8, g9, g10, g12, g13, gh, hq, inst_zD, mode_248, mode_186, s1, s4]
                    exact ⟨((lo + hi + 1) / 2, hi), ⟨rfl, rfl, by omega, hp'⟩, by simp only; omega⟩
                  · have hz : 0 < cmpZ (y.natAbs * ((lo + hi + 1) / 2)) R := by rw [cmpZ_gt (by omega)]; omega
                    have hp' := s3 hle
                    simp (maxSteps := 4000000) (disch := first | omega | (simp only [LL]; omega)) only [go_sem, g0, g1, g8, g9, g10, g12, g13, gh, hq, inst_zD, mode_248, mode_186, s1, s4]
                    exact ⟨(lo, (lo + hi + 1) / 2 - 1), ⟨rfl, rfl, by omega, hp'⟩, by simp only; omega⟩
                · obtain ⟨o, o1, o2, o3, o4⟩ := hends lo hi hp hlh
                  rw [o4] at hstep
                  simp (maxSteps := 4000000) (disch := first | omega | (simp only [LL]; omega)) only [go_sem, g0, g1, g8, g9, g10, g12, g13, gh, hq, inst_zD, mode_248, mode_187, mode_184, o1, o2, o3]
                  exact ⟨m, ⟨by omega, rfl, by omega, _, _, rfl, .inl rfl, hstep⟩, by omega⟩
              · simp (maxSteps := 4000000) (disch := first | omega | (simp only [LL]; omega)) only [go_sem, g0, g1, g8, g10, gh, hq]
                exact ⟨by omega, hp⟩
            · have hcmp0 : 0 ≤ cmpZ R y.natAbs := by unfold cmpZ; rw [if_neg hlt]; split <;> omega
              simp (maxSteps := 4000000) (disch := first | omega | (simp only [LL]; omega)) only [go_sem, g0, g1, g8, g9, g10, gh, hq, ixS_zD, ← ham, src_zD, c1, mode_184, mode_186, hN, hcmp]
              have hp : HalfP R y.natAbs 0 999999999 := ⟨by omega, by omega, by omega, by omega, by omega⟩
              refine W_loop X (fun (p : Int × Int) s => s.env 0 = zD x ∧ s.env 1 = zD y ∧ s.env 8 = .sl 96 0 (nd x) (some (nd x)) 1 ∧ s.env 9 = zD R ∧ s.env 10 = .int .i64 m ∧ s.env 12 = .int .i64 p.1 ∧ s.env 13 = .int .i64 p.2 ∧ 96 < s.next ∧
                s.heap 96 = some (.cells (ints q) false false) ∧ HalfP R y.natAbs p.1 p.2) (fun p => (p.2 - p.1).toNat) ?_ (0, 999999999) _ ?_
              · clear g0 g1 g8 g9 g10 gh hnx hp hN hcmp
                rintro ⟨lo, hi⟩ ⟨env, heap, nx⟩ ⟨g0, g1, g8, g9, g10, g12, g13, hnx, gh, hp⟩
                simp only at g0 g1 g8 g9 g10 g12 g13 gh hnx hp
                have hpb : 0 ≤ lo ∧ lo ≤ hi ∧ hi ≤ 999999999 := ⟨hp.1, hp.2.1, hp.2.2.1⟩
                by_cases hlh : lo < hi
                · obtain ⟨s1, s2, s3, s4⟩ := hstep2 lo hi hp hlh
                  by_cases hle : (y.natAbs : Int) * ((lo + hi + 1) / 2) ≤ R
                  · have hz : cmpZ (y.natAbs * ((lo + hi + 1) / 2)) R ≤ 0 := by unfold cmpZ; split <;> (try split) <;> omega
                    have hp' := s2 hle
                    simp (maxSteps := 4000000) (disch := first | omega | (simp only [LL]; omega)) only [go_sem, g0, g1, g8, g9, g10, g12, g13, gh, hq, inst_zD, mode_248, mode_186, s1, s4]
                    exact ⟨((lo + hi + 1) / 2, hi), ⟨rfl, rfl, by omega, hp'⟩, by simp only; omega⟩
                  · have hz : 0 < cmpZ (y.natAbs * ((lo + hi + 1) / 2)) R := by rw [cmpZ_gt (by omega)]; omega
                    have hp' := s3 hle
                    simp (maxSteps := 4000000) (disch := first | omega | (simp only [LL]; omega)) only [go_sem, g0, g1, g8, g9, g10, g12, g13, gh, hq, inst_zD, mode_248, mode_186, s1, s4]
                    exact ⟨(lo, (lo + hi + 1) / 2 - 1), ⟨rfl, rfl, by omega, hp'⟩, by simp only; omega⟩
                · obtain ⟨o, o1, o2, o3, o4⟩ := hends lo hi hp hlh
                  rw [o4] at hstep
                  simp (maxSteps := 4000000) (disch := first | omega | (simp only [LL]; omega)) only [go_sem, g0, g1, g8, g9, g10, g12, g13, gh, hq, inst_zD, mode_248, mode_187, mode_184, o1, o2, o3]
                  exact ⟨m, ⟨by omega, rfl, by omega, _, _, rfl, .inl rfl, hstep⟩, by omega⟩
              · simp (maxSteps := 4000000) (disch := first | omega | (simp only [LL]; omega)) only [go_sem, g0, g1, g8, g10, gh, hq]
                exact ⟨by omega, hp⟩
          · have c1 := nd_pos c c0
            obtain ⟨L, hL⟩ : ∃ L, L = am :: digs c.natAbs := ⟨_, rfl⟩
            rw [← hL] at hN2
            have hLi : (AV.int .i64 am :: ints (digs c.natAbs)) = ints L := by rw [hL]; rfl
            have hLl : L.length = 1 + nd c := by rw [hL, List.length_cons, len_nd]; omega
            have hN := hN2
            by_cases hlt : R < y.natAbs
            · rw [cmpZ_lt hlt] at hcmp
              simp (maxSteps := 4000000) (disch := first | omega | (simp only [LL]; omega)) only [go_sem, g0, g1, g8, g9, g10, gh, hq, ixS_zD, ← ham, src_zD, hLi, mode_184, mode_186, hN, hcmp]
              have hp : HalfP R y.natAbs 0 0 := ⟨by omega, by omega, by omega, by omega, by omega⟩
              refine W_loop X (fun (p : Int × Int) s => s.env 0 = zD x ∧ s.env 1 = zD y ∧ s.env 8 = .sl 96 0 (nd x) (some (nd x)) 1 ∧ s.env 9 = zD R ∧ s.env 10 = .int .i64 m ∧ s.env 12 = .int .i64 p.1 ∧ s.env 13 = .int .i64 p.2 ∧ 96 < s.next ∧
                s.heap 96 = some (.cells (ints q) false false) ∧ HalfP R y.natAbs p.1 p.2) (fun p => (p.2 - p.1).toNat) ?_ (0, 0) _ ?_
              · clear g0 g1 g8 g9 g10 gh hnx hp hN hcmp
                rintro ⟨lo, hi⟩ ⟨env, heap, nx⟩ ⟨g0, g1, g8, g9, g10, g12, g13, hnx, gh, hp⟩
                simp only at g0 g1 g8 g9 g10 g12 g13 gh hnx hp
                have hpb : 0 ≤ lo ∧ lo ≤ hi ∧ hi ≤ 999999999 := ⟨hp.1, hp.2.1, hp.2.2.1⟩
                by_cases hlh : lo < hi
                · obtain ⟨s1, s2, s3, s4⟩ := hstep2 lo hi hp hlh
                  by_cases hle : (y.natAbs : Int) * ((lo + hi + 1) / 2) ≤ R
                  · have hz : cmpZ (y.natAbs * ((lo + hi + 1) / 2)) R ≤ 0 := by unfold cmpZ; split <;> (try split) <;> omega
                    have hp' := s2 hle
                    simp (maxSteps := 4000000) (disch := first | omega | (simp only [LL]; omega)) only [go_sem, g0, g1, g8, g9, g10, g12, g13, gh, hq, inst_zD, mode_248, mode_186, s1, s4]
                    exact ⟨((lo + hi + 1) / 2, hi), ⟨rfl, rfl, by omega, hp'⟩, by simp only; omega⟩
                  · have hz : 0 < cmpZ (y.natAbs * ((lo + hi + 1) / 2)) R := by rw [cmpZ_gt (by omega)]; omega
                    have hp' := s3 hle
                    simp (maxSteps := 4000000) (disch := first | omega | (simp only [LL]; omega)) only [go_sem, g0, g1, g8, g9, g10, g12, g13, gh, hq, inst_zD, mode_248, mode_186, s1, s4]
                    exact ⟨(lo, (lo + hi + 1) / 2 - 1), ⟨rfl, rfl, by omega, hp'⟩, by simp only; omega⟩
                · obtain ⟨o, o1, o2, o3, o4⟩ := hends lo hi hp hlh
                  rw [o4] at hstep
                  simp (maxSteps := 4000000) (disch := first | omega | (simp only [LL]; omega)) only [go_sem, g0, g1, g8, g9, g10, g12, g13, gh, hq, inst_zD, mode_248, mode_187, mode_184, o1, o2, o3]
                  exact ⟨m, ⟨by omega, rfl, by omega, _, _, rfl, .inl rfl, hstep⟩, by omega⟩
              · simp (maxSteps := 4000000) (disch := first | omega | (simp only [LL]; omega)) only [go_sem, g0, g1, g8, g10, gh, hq]
                exact ⟨by omega, hp⟩
            · have hcmp0 : 0 ≤ cmpZ R y.natAbs := by unfold cmpZ; rw [if_neg hlt]; split <;> omega
              simp (maxSteps := 4000000) (disch := first | omega | (simp only [LL]; omega)) only [go_sem, g0, g1, g8, g9, g10, gh, hq, ixS_zD, ← ham, src_zD, hLi, mode_184, mode_186, hN, hcmp]
              have hp : HalfP R y.natAbs 0 999999999 := ⟨by omega, by omega, by omega, by omega, by omega⟩
              refine W_loop X (fun (p : Int × Int) s => s.env 0 = zD x ∧ s.env 1 = zD y ∧ s.env 8 = .sl 96 0 (nd x) (some (nd x)) 1 ∧ s.env 9 = zD R ∧ s.env 10 = .int .i64 m ∧ s.env 12 = .int .i64 p.1 ∧ s.env 13 = .int .i64 p.2 ∧ 96 < s.next ∧
                s.heap 96 = some (.cells (ints q) false false) ∧ HalfP R y.natAbs p.1 p.2) (fun p => (p.2 - p.1).toNat) ?_ (0, 999999999) _ ?_
              · clear g0 g1 g8 g9 g10 gh hnx hp hN hcmp
                rintro ⟨lo, hi⟩ ⟨env, heap, nx⟩ ⟨g0, g1, g8, g9, g10, g12, g13, hnx, gh, hp⟩
                simp only at g0 g1 g8 g9 g10 g12 g13 gh hnx hp
                have hpb : 0 ≤ lo ∧ lo ≤ hi ∧ hi ≤ 999999999 := ⟨hp.1, hp.2.1, hp.2.2.1⟩
                by_cases hlh : lo < hi
                · obtain ⟨s1, s2, s3, s4⟩ := hstep2 lo hi hp hlh
                  by_cases hle : (y.natAbs : Int) * ((lo + hi + 1) / 2) ≤ R
                  · have hz : cmpZ (y.natAbs * ((lo + hi + 1) / 2)) R ≤ 0 := by unfold cmpZ; split <;> (try split) <;> omega
                    have hp' := s2 hle
                    simp (maxSteps := 4000000) (disch := first | omega | (simp only [LL]; omega)) only [go_sem, g0, g1, g8, g9, g10, g12, g13, gh, hq, inst_zD, mode_248, mode_186, s1, s4]
                    exact ⟨((lo + hi + 1) / 2, hi), ⟨rfl, rfl, by omega, hp'⟩, by simp only; omega⟩
                  · have hz : 0 < cmpZ (y.natAbs * ((lo + hi + 1) / 2)) R := by rw [cmpZ_gt (by omega)]; omega
                    have hp' := s3 hle
                    simp (maxSteps := 4000000) (disch := first | omega | (simp only [LL]; omega)) only [go_sem, g0, g1, g8, g9, g10, g12, g13, gh, hq, inst_zD, mode_248, mode_186, s1, s4]
                    exact ⟨(lo, (lo + hi + 1) / 2 - 1), ⟨rfl, rfl, by omega, hp'⟩, by simp only; omega⟩
                · obtain ⟨o, o1, o2, o3, o4⟩ := hends lo hi hp hlh
                  rw [o4] at hstep
                  simp (maxSteps := 4000000) (disch := first | omega | (simp only [LL]; omega)) only [go_sem, g0, g1, g8, g9, g10, g12, g13, gh, hq, inst_zD, mode_248, mode_187, mode_184, o1, o2, o3]
                  exact ⟨m, ⟨by omega, rfl, by omega, _, _, rfl, .inl rfl, hstep⟩, by omega⟩
              · simp (maxSteps := 4000000) (disch := first | omega | (simp only [LL]; omega)) only [go_sem, g0, g1, g8, g10, gh, hq]
                exact ⟨by omega, hp⟩
      · simp (maxSteps := 4000000) (disch := first | omega | (simp only [LL]; omega)) only [go_sem]
        exact ⟨_, 0, rfl, .inr rfl, shoP_zero (digs x.natAbs) y.natAbs yn⟩
def isqGo : Nat → Nat → Nat
 | 0, _ => 0
 | k + 1, n => if (k + 1) * (k + 1) ≤ n then k + 1 else isqGo k n
def isq (n : Nat) : Nat := isqGo n n
theorem isqGo_spec (k n : Nat) (h : n < (k + 1) * (k + 1)) : isqGo k n * isqGo k n ≤ n ∧ n < (isqGo k n + 1) * (isqGo k n + 1) := by
 induction k with
 | zero => simp only [isqGo]; omega
 | succ k ih =>
  unfold isqGo
  split
  ·next h1 => exact ⟨h1, h⟩
  ·exact ih (by omega)
theorem isq_spec (n : Nat) : isq n * isq n ≤ n ∧ n < (isq n + 1) * (isq n + 1) := isqGo_spec n n (by
 have : n * 1 ≤ n * (n + 1) := Nat.mul_le_mul_left n (by omega)
 rw [Nat.add_mul]; omega)
theorem isq_le {n r : Nat} (h : n < (r + 1) * (r + 1)) : isq n ≤ r := by
 have h1 := (isq_spec n).1
 apply Classical.byContradiction; intro h2
 have := Nat.mul_le_mul (show r + 1 ≤ isq n by omega) (show r + 1 ≤ isq n by omega)
 omega
theorem le_isq {n r : Nat} (h : r * r ≤ n) : r ≤ isq n := by
 have h1 := (isq_spec n).2
 apply Classical.byContradiction; intro h2
 have := Nat.mul_le_mul (show isq n + 1 ≤ r by omega) (show isq n + 1 ≤ r by omega)
 omega
theorem newton_ge {n r : Nat} (hr : 0 < r) : isq n ≤ (r + n / r) / 2 := by
 have h1 := (isq_spec n).1
 generalize isq n = s at *
 have hq := Nat.lt_div_mul_add hr (a := n)
 generalize n / r = q at *
 apply Classical.byContradiction; intro h2
 have h3 : r + q + 1 ≤ 2 * s := by omega
 have h4 : q * r + r ≤ (2 * s - r) * r := by
  rw [show q * r + r = (q + 1) * r by rw [Nat.add_mul, Nat.one_mul]]
  exact Nat.mul_le_mul_right r (by omega)
 have h5 : (2 * s - r) * r ≤ s * s := by
  rcases Nat.le_total r s with h6 | h6
  ·obtain ⟨d, rfl⟩ := Nat.exists_eq_add_of_le h6
   rw [show 2 * (r + d) - r = r + 2 * d by omega]
   grind
  ·obtain ⟨d, rfl⟩ := Nat.exists_eq_add_of_le h6
   by_cases h7 : d ≤ s
   ·obtain ⟨e, rfl⟩ := Nat.exists_eq_add_of_le h7
    rw [show 2 * (d + e) - (d + e + d) = e by omega]
    grind
   ·rw [show 2 * s - (s + d) = 0 by omega]; omega
 omega
theorem newton_end {n r : Nat} (h1 : isq n ≤ r) (h2 : r ≤ (r + n / r) / 2) : r = isq n := by
 have h3 := Nat.div_mul_le_self n r
 have h4 : r * r ≤ n := Nat.le_trans (Nat.mul_le_mul_right r (show r ≤ n / r by omega)) h3
 have := le_isq h4
 omega
theorem isq_pos {n : Nat} (h : 0 < n) : 0 < isq n := le_isq (r := 1) (by omega)
theorem isq_start (x : Nat) : isq x ≤ Bn ^ ((nd x + 1) / 2) := by
 apply isq_le
 have h := lt_of_nd x
 rw [Int.natAbs_natCast] at h
 have h1 : Bn ^ nd (x : Int) ≤ Bn ^ ((nd x + 1) / 2 + (nd x + 1) / 2) := Nat.pow_le_pow_right (by decide) (by omega)
 rw [Nat.pow_add] at h1
 have h2 := Nat.mul_le_mul (show Bn ^ ((nd x + 1) / 2) ≤ Bn ^ ((nd x + 1) / 2) + 1 by omega) (show Bn ^ ((nd x + 1) / 2) ≤ Bn ^ ((nd x + 1) / 2) + 1 by omega)
 omega
theorem nd_pow (k : Nat) : nd ((Bn ^ k : Nat) : Int) ≤ k + 1 := nd_le_of (by
 rw [Int.natAbs_natCast]; exact Nat.pow_lt_pow_right (by decide) (by omega))
theorem val_start (k : Nat) : val (List.replicate k 0 ++ [1]) = ((Bn ^ k : Nat) : Int) := by
 rw [val_app, val_rep, List.length_replicate, val, val]; simp
theorem okd_start (k : Nat) : okd (List.replicate k 0 ++ [1]) := (okd_app _ _).2 ⟨okd_rep k, by intro d hd; simp at hd; subst hd; decide⟩
theorem M_204 [SpC] (x : Nat) (hx : nd x < 2 ^ 20) : M X 204 [.agg [zS x, zD x]] =
  some (.tuple [.agg [zS (isq x), zD (isq x)], .bool (decide (isq x * isq x = x))]) := by
 refine M_of X (fn := Tryz.f204) Tryz.func204 rfl ok_204 mode_204 res_204 _ rfl _ ?_
 intro r hr
 by_cases h0 : x = 0
 ·have xz := nd_zero (x : Int) (by omega)
  simp (maxSteps := 4000000) (disch := first | omega | (simp only [LL]; omega)) only [go_sem, xz, zS_pos (x : Int) (by omega)]
  rw [hr, h0]; simp [isq, isqGo, zS, zD, digs_zero, isl, ints]
 ·have xp := nd_pos (x : Int) (by omega)
  have hst := ofZ false (List.replicate ((nd x + 1) / 2) 0 ++ [1]) ((Bn ^ ((nd x + 1) / 2) : Nat) : Int) (okd_start _) (by simp; omega) (by rw [val_start]; rfl)
  have hs := isq_start x
  have hn := nd_pow ((nd x + 1) / 2)
  obtain ⟨k, hk⟩ : ∃ k, k = (nd (x : Int) + 1) / 2 := ⟨_, rfl⟩
  have hk' : ((nd (x : Int) + 1 : Nat) : Int) / 2 = (k : Int) := by omega
  rw [← hk] at hst hs hn
  obtain ⟨r0, hr0⟩ : ∃ r0, r0 = Bn ^ k := ⟨_, rfl⟩
  rw [← hr0] at hst hs hn
  have hst' : M X 154 [AV.bool false, AV.ro (ints (List.replicate k 0 ++ [1])) (k + 1) false] = some (.agg [zS (r0 : Int), zD (r0 : Int)]) := by
   rw [← hst, isl]; simp
  simp (maxSteps := 4000000) (disch := first | omega | (simp only [LL]; omega)) only [go_sem, zS_pos (x : Int) (by omega), hk', mode_154, hst']
  refine W_loop X (fun (m : Nat) s => isq x ≤ m ∧ nd m ≤ k + 1 ∧ s.env 1 = .ptr 0 0 ∧ s.env 2 = .ptr 8 0 ∧ s.env 4 = .ptr 160 0 ∧ 160 < s.next ∧ s.heap 0 = some (.cells [.bool false, zD x] false false) ∧ s.heap 8 = some (.cells [.bool false, .ro [] 0 false] false false) ∧ s.heap 160 = some (.cells [zS m, zD m] false false)) (fun m => m) ?_ r0 _ ?_
  ·clear hst hst' hs hn
   rintro m ⟨env, heap, nx⟩ ⟨hs, hm, g1, g2, g4, hnx, e0, e8, e160⟩
   simp only at g1 g2 g4 hnx e0 e8 e160
   have hp := isq_pos (n := x) (by omega)
   have hd := M_161 x m (by omega) (by omega) (by omega)
   rw [zS_pos (x : Int) (by omega)] at hd
   have hnq : nd ((x : Int) / m) ≤ nd x := nd_mono (by rw [← Int.natCast_ediv, Int.natAbs_natCast, Int.natAbs_natCast]; exact Nat.div_le_self _ _)
   have ha := nd_add m ((x : Int) / m)
   have hN : ((m : Int) + (x : Int) / m) / 2 = (((m + x / m) / 2 : Nat) : Int) := by rw [Int.natCast_ediv, Int.natCast_add, Int.natCast_ediv]; rfl
   have hh := M_161 (m + (x : Int) / m) 2 (by omega) (Nat.lt_of_le_of_lt (nd_le_of (k := 1) (by decide)) (by decide)) (by decide)
   rw [hN] at hh
   have g1' := newton_ge (n := x) (r := m) (by omega)
   have g2' := newton_end (n := x) (r := m) hs
   obtain ⟨N, hNN⟩ : ∃ N, N = (m + x / m) / 2 := ⟨_, rfl⟩
   rw [← hNN] at hh g1' g2'
   by_cases h1 : N < m
   ·have hnN : nd (N : Int) ≤ nd (m : Int) := nd_mono (by omega)
    simp (maxSteps := 4000000) (disch := first | omega | (simp only [LL]; omega)) only [go_sem, M_147, M_77, M_146, g1, g2, g4, e0, e8, e160, mode_161, hd, hh, cmpZ_lt (x := (N : Int)) (y := m) (by omega)]
    exact ⟨N, ⟨g1', by omega, by omega, rfl⟩, h1⟩
   ·have hmN := g2' (by omega)
    have hnN : nd (N : Int) ≤ nd ((m : Int) + (x : Int) / m) := nd_mono (by
     have : ((x / m : Nat) : Int) = (x : Int) / m := Int.natCast_ediv x m
     omega)
    have hge : ∃ c : Int, 0 ≤ c ∧ cmpZ (N : Int) (m : Int) = c := by
     rcases Int.lt_or_eq_of_le (show (m : Int) ≤ N by omega) with h2 | h2
     ·exact ⟨1, by omega, cmpZ_gt h2⟩
     ·exact ⟨0, by omega, by rw [h2]; exact cmpZ_self _⟩
    obtain ⟨c, c0, hc⟩ := hge
    have hmm := nd_mul m m
    have hcm := M_146 ((m : Int) * m) x (by omega) (by omega)
    rw [zS_pos (x : Int) (by omega)] at hcm
    obtain ⟨e, he, hee⟩ : ∃ e, e = cmpZ ((m : Int) * m) x ∧ (e = 0 ↔ m * m = x) := ⟨_, rfl, by
     rw [← Int.natCast_mul]
     constructor
     ·intro h; apply Classical.byContradiction; intro h3
      rcases Nat.lt_or_gt_of_ne h3 with h4 | h4
      ·rw [cmpZ_lt (by omega)] at h; omega
      ·rw [cmpZ_gt (by omega)] at h; omega
     ·intro h; rw [h]; exact cmpZ_self _⟩
    rw [← he] at hcm
    by_cases h5 : m * m = x
    ·have := hee.2 h5; subst this
     simp (maxSteps := 4000000) (disch := first | omega | (simp only [LL]; omega)) only [go_sem, M_147, M_77, M_146, M_80, g1, g2, g4, e0, e8, e160, mode_161, hd, hh, hc, hcm]
     rw [hr, ← hmN, decide_eq_true h5]
    ·have : e ≠ 0 := fun h => h5 (hee.1 h)
     simp (maxSteps := 4000000) (disch := first | omega | (simp only [LL]; omega)) only [go_sem, M_147, M_77, M_146, M_80, g1, g2, g4, e0, e8, e160, mode_161, hd, hh, hc, hcm]
     rw [hr, ← hmN, decide_eq_false h5]
  ·simp (maxSteps := 4000000) (disch := first | omega | (simp only [LL]; omega)) only [go_sem]
   exact ⟨hs, hn⟩
theorem M_181 [SpC] (x y : Int) (hx : nd x < 2 ^ 27 - 1) (hy : nd y < 2 ^ 27) (h0 : y ≠ 0) : M X 181 [.agg [zS x, zD x], .agg [zS y, zD y]] =
  some (.tuple [.agg [zS (x / y), zD (x / y)], .agg [zS (x % y), zD (x % y)]]) := by
 refine M_of X (fn := Tryz.f181) Tryz.func181 rfl ok_181 mode_181 res_181 _ rfl _ ?_
 intro w hw
 obtain ⟨qs, hd, oq, vq, lq⟩ := M_232 x y (by omega) hy h0
 obtain ⟨d1, d2, d3, d4, d5⟩ := nat_div x y h0
 have he := Int.mul_ediv_add_emod (x.natAbs : Int) y.natAbs
 obtain ⟨q, hq⟩ : ∃ q, q = (x.natAbs : Int) / y.natAbs := ⟨_, rfl⟩
 obtain ⟨r, hr⟩ : ∃ r, r = (x.natAbs : Int) % y.natAbs := ⟨_, rfl⟩
 rw [← hr] at hd
 rw [← hq, ← hr] at he
 rw [← hq] at d1 d2 vq
 rw [← hr] at d3 d4 d5
 have yp := nd_pos y h0
 have nq : nd q ≤ nd x := nd_mono (by omega)
 have nr' : nd r ≤ nd y := nd_mono (by omega)
 have n1 := normZ true qs (-q) oq (by omega) (by rw [vq]; simp)
 have n2 := normZ false qs q oq (by omega) (by rw [vq]; simp)
 have n3 := normDg false r r (by omega) (by simp; omega)
 by_cases h1 : x < 0
 ·by_cases h2 : r = 0
  ·have rz := nd_zero r h2
   by_cases h3 : y < 0
   ·have e := div_unique (x := x) (y := y) (q := q) (r := 0) (by rw [h2, show (y.natAbs : Int) = -y by omega, Int.neg_mul] at he; omega) (by omega) (by omega)
    simp (maxSteps := 4000000) (disch := first | omega | (simp only [LL]; omega)) only [go_sem, zS_neg x h1, zS_neg y h3, mode_232, mode_184, hd, n2, n3, rz]
    rw [hw, e.1, e.2, h2]
   ·have e := div_unique (x := x) (y := y) (q := -q) (r := 0) (by rw [h2, show (y.natAbs : Int) = y by omega] at he; rw [Int.mul_neg]; omega) (by omega) (by omega)
    simp (maxSteps := 4000000) (disch := first | omega | (simp only [LL]; omega)) only [go_sem, zS_neg x h1, zS_pos y (Int.not_lt.1 h3), mode_232, mode_184, hd, n1, n3, rz]
    rw [hw, e.1, e.2, h2]
  ·have rp := nd_pos r h2
   obtain ⟨m, m1, m5⟩ := rminusZ y r (by omega) (by omega)
   have m6 := m5 false (y.natAbs - r) (by simp; omega)
   have o1 := normZ true [1] (-1) (by intro d hd; simp at hd; subst hd; decide) (by decide) (by decide)
   have o2 := normZ false [1] 1 (by intro d hd; simp at hd; subst hd; decide) (by decide) (by decide)
   rw [isl_one] at o1 o2
   have nneg : nd (-q) = nd q := by rw [nd, nd, Int.natAbs_neg]
   have none1 : nd (-1) = 1 := nd_one
   have a1 := M_119 (-q) (-1) (by omega) (by omega)
   have a2 := M_119 q 1 (by omega) (by rw [nd_one]; decide)
   by_cases h3 : y < 0
   ·have e := div_unique (x := x) (y := y) (q := q + 1) (r := y.natAbs - r) (by rw [show (y.natAbs : Int) = -y by omega] at he ⊢; rw [Int.neg_mul] at he; rw [Int.mul_add]; omega) (by omega) (by omega)
    simp (maxSteps := 4000000) (disch := first | omega | (simp only [LL]; omega)) only [go_sem, zS_neg x h1, zS_neg y h3, mode_232, mode_184, mode_187, mode_119, hd, n2, n3, o2, a2, m1, m6]
    rw [hw, e.1, e.2]
   ·have e := div_unique (x := x) (y := y) (q := -q + -1) (r := y.natAbs - r) (by rw [show (y.natAbs : Int) = y by omega] at he ⊢; rw [Int.mul_add, Int.mul_neg]; omega) (by omega) (by omega)
    simp (maxSteps := 4000000) (disch := first | omega | (simp only [LL]; omega)) only [go_sem, zS_neg x h1, zS_pos y (Int.not_lt.1 h3), mode_232, mode_184, mode_187, mode_119, hd, n1, n3, o1, a1, m1, m6]
    rw [hw, e.1, e.2]
 ·by_cases h3 : y < 0
  ·have e := div_unique (x := x) (y := y) (q := -q) (r := r) (by rw [show (y.natAbs : Int) = -y by omega] at he; rw [Int.neg_mul] at he; rw [Int.mul_neg]; omega) (by omega) (by omega)
   simp (maxSteps := 4000000) (disch := first | omega | (simp only [LL]; omega)) only [go_sem, zS_pos x (Int.not_lt.1 h1), zS_neg y h3, mode_232, mode_184, hd, n1, n3]
   rw [hw, e.1, e.2]
  ·have e := div_unique (x := x) (y := y) (q := q) (r := r) (by rw [show (y.natAbs : Int) = y by omega] at he; omega) (by omega) (by omega)
   simp (maxSteps := 4000000) (disch := first | omega | (simp only [LL]; omega)) only [go_sem, zS_pos x (Int.not_lt.1 h1), zS_pos y (Int.not_lt.1 h3), mode_232, mode_184, hd, n2, n3]
   rw [hw, e.1, e.2]
theorem M_180 [SpC] (x y : Int) (hx : nd x < 2 ^ 27 - 1) (hy : nd y < 2 ^ 27 - 1) : M X 180 [.agg [zS x, zD x], .agg [zS y, zD y]] = some (.agg [zS (Int.gcd x y), zD (Int.gcd x y)]) := by
 refine M_of X (fn := Tryz.f180) Tryz.func180 rfl ok_180 mode_180 res_180 _ rfl _ ?_
 intro r hr
 have ox := normDg false x (x.natAbs : Int) (by omega) (by simp)
 have oy := normDg false y (y.natAbs : Int) (by omega) (by simp)
 simp (maxSteps := 4000000) (disch := first | omega | (simp only [LL]; omega)) only [go_sem, mode_184, ox, oy]
 refine W_loop X (fun (n : Nat) s => s.env 4 = .ptr 16 0 ∧ s.env 5 = .ptr 48 0 ∧ s.env 6 = .ptr 88 0 ∧ 88 < s.next ∧ s.heap 16 = some (.cells [.bool false, .ro [] 0 false] false false) ∧ ∃ m : Nat, s.heap 48 = some (.cells [zS m, zD m] false false) ∧ s.heap 88 = some (.cells [zS n, zD n] false false) ∧ nd m < 2 ^ 27 - 1 ∧ nd n < 2 ^ 27 - 1 ∧ Nat.gcd m n = Int.gcd x y) (fun n => n) ?_ y.natAbs _ ?_
 ·rintro n ⟨env, heap, nx⟩ ⟨g4, g5, g6, hnx, h16, m, h72, h80, hm, hn, hg⟩
  simp only at g4 g5 g6 hnx h16 h72 h80
  by_cases h0 : n = 0
  ·have nz := nd_zero (n : Int) (by omega)
   simp (maxSteps := 4000000) (disch := first | omega | (simp only [LL]; omega)) only [go_sem, g4, g5, g6, h16, h72, h80, nz]
   rw [h0, Nat.gcd_zero_right] at hg
   rw [hr, ← hg]
  ·have np := nd_pos (n : Int) (by omega)
   by_cases h1 : nd (m : Int) ≤ 2 ∧ nd (n : Int) ≤ 2
   ·have m2 := (nd_le_two _).1 h1.1
    have n2 := (nd_le_two _).1 h1.2
    have t1 := M_231 (m : Int) m2
    have t2 := M_231 (n : Int) n2
    rw [Int.natAbs_natCast] at t1 t2 m2 n2
    simp (maxSteps := 4000000) (disch := first | omega | (simp only [LL]; omega)) only [go_sem, g4, g5, g6, h16, h72, h80, mode_231, t1, t2]
    refine W_loop X (fun (n : Nat) s => s.env 4 = .ptr 16 0 ∧ 88 < s.next ∧ s.heap 16 = some (.cells [.bool false, .ro [] 0 false] false false) ∧ ∃ m : Nat, s.env 7 = .int .i64 m ∧ s.env 8 = .int .i64 n ∧ m < 1000000000000000000 ∧ n < 1000000000000000000 ∧ Nat.gcd m n = Int.gcd x y) (fun n => n) ?_ n _ ?_
    ·clear g4 g5 g6 hnx h16 h72 h80 t1 t2 hm hn np h0 h1 hg m2 n2
     rintro n' ⟨env, heap, nx⟩ ⟨g4, hnx, h16, m', g7, g8, hm, hn, hg⟩
     simp only at g4 hnx h16 g7 g8
     by_cases h2 : n' = 0
     ·rw [h2, Nat.gcd_zero_right] at hg
      have u1 := M_116 (m' : Int) (by omega)
      simp (maxSteps := 4000000) (disch := first | omega | (simp only [LL]; omega)) only [go_sem, g4, g7, g8, h16, mode_116, u1]
      rw [hr, ← hg]
     ·have hlt := Nat.mod_lt m' (show 0 < n' by omega)
      simp (maxSteps := 4000000) (disch := first | omega | (simp only [LL]; omega)) only [go_sem, g4, g7, g8, h16]
      exact ⟨m' % n', ⟨by omega, n', rfl, rfl, hn, by omega, by rw [gcd_step, hg]⟩, by omega⟩
    ·simp (maxSteps := 4000000) (disch := first | omega | (simp only [LL]; omega)) only [go_sem, g4, h16]
     exact ⟨by omega, m, rfl, m2, n2, hg⟩
   ·have hd := M_181 m n hm (by omega) (by omega)
    have hlt := Nat.mod_lt m (show 0 < n by omega)
    by_cases h2 : nd (m : Int) ≤ 2
    all_goals
     try have h3 : ¬ nd (n : Int) ≤ 2 := fun h' => h1 ⟨h2, h'⟩
     simp (maxSteps := 4000000) (disch := first | omega | (simp only [LL]; omega)) only [go_sem, g4, g5, g6, h16, h72, h80, mode_181, hd]
     exact ⟨m % n, ⟨by omega, n, rfl, rfl, hn, Nat.lt_of_le_of_lt (nd_natmono (by omega)) hn, by rw [gcd_step, hg]⟩, by omega⟩
 ·simp (maxSteps := 4000000) (disch := first | omega | (simp only [LL]; omega)) only [go_sem]
  exact ⟨x.natAbs, rfl, by rw [nd_nat]; exact hx, by rw [nd_nat]; exact hy, rfl⟩
def dz (x : Rat) : Int := if x.den = 1 then 0 else x.den
theorem dz_one {x : Rat} (h : x.den = 1) : dz x = 0 := if_pos h
theorem dz_ne {x : Rat} (h : x.den ≠ 1) : dz x = x.den := if_neg h
theorem dz_nonneg (x : Rat) : 0 ≤ dz x := by unfold dz; split <;> omega
theorem den_pos (x : Rat) : 0 < x.den := Nat.pos_of_ne_zero x.den_nz
theorem dI {p q : Int} (hq : 0 < q) (hc : Int.gcd p q = 1) : (Rat.divInt p q).num = p ∧ ((Rat.divInt p q).den : Int) = q := by
 have e : q = (q.toNat : Int) := by omega
 have hc' : Nat.gcd p.natAbs q.toNat = 1 := by
  have : q.natAbs = q.toNat := by omega
  rw [← this]; exact hc
 have h := Rat.mk_eq_divInt (num := p) (den := q.toNat) (nz := by omega) (c := hc')
 rw [← e] at h
 rw [← h]; exact ⟨rfl, by simp; omega⟩
theorem divInt_neg_neg (p q : Int) : Rat.divInt (-p) (-q) = Rat.divInt p q := Rat.neg_divInt_neg p q
theorem gcd_neg_neg (p q : Int) : Int.gcd (-p) (-q) = Int.gcd p q := by simp [Int.gcd]
theorem divInt_gcd {p q : Int} (hq : q ≠ 0) : Rat.divInt (p / Int.gcd p q) (q / Int.gcd p q) = Rat.divInt p q ∧ Int.gcd (p / Int.gcd p q) (q / Int.gcd p q) = 1 ∧ q / Int.gcd p q ≠ 0 := by
 have hg : (Int.gcd p q : Int) ≠ 0 := by
  intro h
  have : Int.gcd p q = 0 := by omega
  exact hq (Int.gcd_eq_zero_iff.1 this).2
 have h1 : p / Int.gcd p q * Int.gcd p q = p := Int.ediv_mul_cancel (Int.gcd_dvd_left ..)
 have h2 : q / Int.gcd p q * Int.gcd p q = q := Int.ediv_mul_cancel (Int.gcd_dvd_right ..)
 have h3 : q / Int.gcd p q ≠ 0 := fun h => by rw [h] at h2; simp at h2; exact hq h2.symm
 refine ⟨?_, ?_, h3⟩
 ·have := Rat.divInt_mul_right (n := p / Int.gcd p q) (d := q / Int.gcd p q) hg
  rw [h1, h2] at this
  exact this.symm
 ·have e : Int.gcd (p / Int.gcd p q * Int.gcd p q) (q / Int.gcd p q * Int.gcd p q) = Int.gcd (p / Int.gcd p q) (q / Int.gcd p q) * Int.gcd p q := by
   rw [Int.gcd_mul_right]; simp
  rw [h1, h2] at e
  have hg' : 0 < Int.gcd p q := by omega
  have : Int.gcd (p / Int.gcd p q) (q / Int.gcd p q) * Int.gcd p q = 1 * Int.gcd p q := by omega
  exact Nat.eq_of_mul_eq_mul_right hg' this
def sz (x : Rat) : Nat := max (nd x.num) (nd x.den)
class RS (x : Rat) (n : outParam Nat) : Prop where
 le : sz x ≤ n
theorem RS.num {x : Rat} {n : Nat} [h : RS x n] : nd x.num ≤ n := by have := h.le; unfold sz at this; omega
theorem RS.den {x : Rat} {n : Nat} [h : RS x n] : nd (x.den : Int) ≤ n := by have := h.le; unfold sz at this; omega
theorem RS.of {x : Rat} {n : Nat} (h1 : nd x.num ≤ n) (h2 : nd (x.den : Int) ≤ n) : RS x n := ⟨by unfold sz; omega⟩
theorem RS.mono {x : Rat} {n m : Nat} (h : RS x n) (hm : n ≤ m) : RS x m := ⟨by have := h.le; omega⟩
theorem rs_divInt {p q : Int} {n : Nat} (hn : 1 ≤ n) (hp : nd p ≤ n) (hq : nd q ≤ n) : RS (Rat.divInt p q) n := by
 by_cases h : q = 0
 ·subst h; rw [Rat.divInt_zero]
  exact RS.of (by rw [show (0 : Rat).num = 0 from rfl, nd_zero 0 rfl]; omega) (by rw [show ((0 : Rat).den : Int) = 1 from rfl, nd_one]; omega)
 ·obtain ⟨h1, h2, h3⟩ := divInt_gcd (p := p) h
  have k1 : (p / Int.gcd p q).natAbs ≤ p.natAbs := by
   rw [Int.natAbs_ediv_of_dvd (Int.gcd_dvd_left ..)]; exact Nat.div_le_self _ _
  have k2 : (q / Int.gcd p q).natAbs ≤ q.natAbs := by
   rw [Int.natAbs_ediv_of_dvd (Int.gcd_dvd_right ..)]; exact Nat.div_le_self _ _
  rw [← h1]
  generalize p / Int.gcd p q = a at *
  generalize q / Int.gcd p q = b at *
  rcases Int.lt_or_gt_of_ne h3 with hb | hb
  ·rw [← divInt_neg_neg]
   obtain ⟨e1, e2⟩ := dI (p := -a) (q := -b) (by omega) (by rw [gcd_neg_neg]; exact h2)
   exact RS.of (Nat.le_trans (by rw [e1]; exact nd_mono (by omega)) hp) (Nat.le_trans (by rw [e2]; exact nd_mono (by omega)) hq)
  ·obtain ⟨e1, e2⟩ := dI (p := a) (q := b) (by omega) h2
   exact RS.of (Nat.le_trans (by rw [e1]; exact nd_mono k1) hp) (Nat.le_trans (by rw [e2]; exact nd_mono k2) hq)
theorem nd_den_pos (x : Rat) : 1 ≤ nd (x.den : Int) := nd_pos _ (by have := den_pos x; omega)
theorem nd_neg (x : Int) : nd (-x) = nd x := by rw [nd, nd, Int.natAbs_neg]
theorem add_divInt (x y : Rat) : x + y = Rat.divInt (x.num * y.den + y.num * x.den) ((x.den : Int) * y.den) := by
 rw [Rat.add_def', ← Int.natCast_mul, Rat.divInt_ofNat]
theorem mul_divInt (x y : Rat) : x * y = Rat.divInt (x.num * y.num) ((x.den : Int) * y.den) := by
 rw [Rat.mul_def', ← Int.natCast_mul, Rat.divInt_ofNat]
theorem div_divInt (x y : Rat) : x / y = Rat.divInt (x.num * y.den) ((x.den : Int) * y.num) := by
 rw [Rat.div_def, Rat.inv_def]
 conv => lhs; rw [← Rat.num_divInt_den x]
 rw [Rat.divInt_mul_divInt]
instance rs_add {x y : Rat} {n m : Nat} [hx : RS x n] [hy : RS y m] : RS (x + y) (n + m + 1) := by
 have a1 := hx.num; have a2 := hx.den; have a3 := hy.num; have a4 := hy.den
 rw [add_divInt]
 have b1 := nd_mul x.num y.den; have b2 := nd_mul y.num x.den; have b3 := nd_mul (x.den : Int) y.den
 have b4 := nd_add (x.num * y.den) (y.num * x.den)
 exact rs_divInt (by omega) (by omega) (by omega)
instance rs_mul {x y : Rat} {n m : Nat} [hx : RS x n] [hy : RS y m] : RS (x * y) (n + m) := by
 have a1 := hx.num; have a2 := hx.den; have a3 := hy.num; have a4 := hy.den
 rw [mul_divInt]
 have b1 := nd_mul x.num y.num; have b3 := nd_mul (x.den : Int) y.den
 have := nd_den_pos x
 exact rs_divInt (by omega) (by omega) (by omega)
instance rs_div {x y : Rat} {n m : Nat} [hx : RS x n] [hy : RS y m] : RS (x / y) (n + m) := by
 have a1 := hx.num; have a2 := hx.den; have a3 := hy.num; have a4 := hy.den
 rw [div_divInt]
 have b1 := nd_mul x.num y.den; have b3 := nd_mul (x.den : Int) y.num
 have := nd_den_pos x
 exact rs_divInt (by omega) (by omega) (by omega)
instance rs_neg {x : Rat} {n : Nat} [hx : RS x n] : RS (-x) n := RS.of (by rw [Rat.neg_num, nd_neg]; exact hx.num) (by rw [Rat.neg_den]; exact hx.den)
instance rs_sub {x y : Rat} {n m : Nat} [hx : RS x n] [hy : RS y m] : RS (x - y) (n + m + 1) := by
 rw [Rat.sub_eq_add_neg]; exact rs_add
instance rs_zero : RS 0 1 := RS.of (by rw [show (0 : Rat).num = 0 from rfl, nd_zero 0 rfl]; omega) (by rw [show ((0 : Rat).den : Int) = 1 from rfl, nd_one]; omega)
theorem num_zero_iff (x : Rat) : x.num = 0 ↔ x = 0 := Rat.num_eq_zero
theorem zz_rat : AV.agg [.bool false, .ro [] 0 false, .bool false, .ro [] 0 false] = .agg [zS (Rat.num (0)), zD (Rat.num (0)), zS (dz (0)), zD (dz (0))] := by
 rw [show dz 0 = 0 from rfl, show (0 : Rat).num = 0 from rfl, zz_nil, zz_false]
def cmpQ (x y : Rat) : Int := if x < y then -1 else if y < x then 1 else 0
theorem cmpQ_num (x y : Rat) : cmpZ (x.num * y.den) (y.num * x.den) = cmpQ x y := by
 unfold cmpZ cmpQ
 simp only [Rat.lt_iff]
theorem cmpQ_sign (x : Rat) : cmpZ x.num 0 = cmpQ x 0 := by
 rw [← cmpQ_num]; simp
end Go.Proofs.YtenhjccadhlgoaaGreat.Abs
