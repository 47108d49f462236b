/-
  Package gap: rate, Gap, Meet. No conditions. Packages gantryref12 and gantryref13: Norm, Next, Turn, Most, Dot, Gap, Meet. No conditions. Package gantryref12: Sides. No conditions. Package gantryref15: what suits a model and a state; Ends. No conditions. Package gantryref15: Fit. No conditions. The comparisons of the law: what is the same as itself. No conditions. Packages integer, rat and model: which numbers are valid; what ContainsFunc finds. No conditions.
-/
import Derived.Test.YtenhjccadhlgoaaGreatQ06
import Derived.Test.YtenhjccadhlgoaaGreatQ07
set_option linter.unusedSimpArgs false
set_option linter.unusedVariables false
set_option maxRecDepth 100000
set_option maxHeartbeats 16000000
namespace Go.Proofs.YtenhjccadhlgoaaGreat.Abs
open Go
theorem M_145 [SpC] {x y : Rat} {n m : Nat} [hx : RS x n] [hy : RS y m] (h : n + m < 2 ^ 26) : M X 145 [.agg [zS (Rat.num (x)), zD (Rat.num (x)), zS (dz (x)), zD (dz (x))], .agg [zS (Rat.num (y)), zD (Rat.num (y)), zS (dz (y)), zD (dz (y))]] = some (.agg [zS (Rat.num (x - y)), zD (Rat.num (x - y)), zS (dz (x - y)), zD (dz (x - y))]) := by
 refine M_of X (fn := Tryz.f145) Tryz.func145 rfl ok_145 mode_145 res_145 _ rfl _ ?_
 intro r hr
 rw [hr, Rat.sub_eq_add_neg]
 simp (maxSteps := 4000000) (disch := first | omega | (simp only [LL]; omega)) only [go_sem, M_206, M_19]
def rateQ (d : Dr) (x y : Rat) : Rat := (Rat.divInt d.1 1 * x + Rat.divInt d.2.1 1 * y) / Rat.divInt d.2.2 1
def gapQ (e : Ed) (x y : Rat) : Rat := rateQ e.1 x y - Rat.divInt e.2 e.1.2.2
theorem M_200 [SpC] (d : Dr) (h1 : ok64 d.1) (h2 : ok64 d.2.1) (h3 : ok64 d.2.2) {x y : Rat} {n m : Nat} [hx : RS x n] [hy : RS y m] (h : n + m < 2 ^ 24) : M X 200 [.agg [.int .i64 d.1, .int .i64 d.2.1, .int .i64 d.2.2], .agg [zS (Rat.num (x)), zD (Rat.num (x)), zS (dz (x)), zD (dz (x)), zS (Rat.num (y)), zD (Rat.num (y)), zS (dz (y)), zD (dz (y))]] = some (.agg [zS (Rat.num (rateQ d x y)), zD (Rat.num (rateQ d x y)), zS (dz (rateQ d x y)), zD (dz (rateQ d x y))]) := by
 refine M_of X (fn := Tryz.f200) Tryz.func200 rfl ok_200 mode_200 res_200 _ rfl _ ?_
 intro r hr
 obtain ⟨u1, u2⟩ := h1
 obtain ⟨u3, u4⟩ := h2
 obtain ⟨u5, u6⟩ := h3
 have r1 : RS (Rat.divInt d.1 1) 3 := rs_divInt (by omega) (nd_lit (by simp only [Bn]; omega)) (nd_lit (by decide))
 have r2 : RS (Rat.divInt d.2.1 1) 3 := rs_divInt (by omega) (nd_lit (by simp only [Bn]; omega)) (nd_lit (by decide))
 have r3 : RS (Rat.divInt d.2.2 1) 3 := rs_divInt (by omega) (nd_lit (by simp only [Bn]; omega)) (nd_lit (by decide))
 have o1 := M_151 d.1 1 (by omega) (by omega)
 have o2 := M_151 d.2.1 1 (by omega) (by omega)
 have o3 := M_151 d.2.2 1 (by omega) (by omega)
 rw [hr, rateQ]
 generalize Rat.divInt d.1 1 = p1 at *
 generalize Rat.divInt d.2.1 1 = p2 at *
 generalize Rat.divInt d.2.2 1 = p3 at *
 simp (maxSteps := 4000000) (disch := first | omega | (simp only [LL]; omega)) only [go_sem, M_150, M_19, M_237, mode_151, o1, o2, o3]
theorem rs_rate (d : Dr) (h1 : ok64 d.1) (h2 : ok64 d.2.1) (h3 : ok64 d.2.2) {x y : Rat} {n m : Nat} [hx : RS x n] [hy : RS y m] : RS (rateQ d x y) (2 * (n + m) + 32) := by
 obtain ⟨u1, u2⟩ := h1
 obtain ⟨u3, u4⟩ := h2
 obtain ⟨u5, u6⟩ := h3
 have r1 : RS (Rat.divInt d.1 1) 3 := rs_divInt (by omega) (nd_lit (by simp only [Bn]; omega)) (nd_lit (by decide))
 have r2 : RS (Rat.divInt d.2.1 1) 3 := rs_divInt (by omega) (nd_lit (by simp only [Bn]; omega)) (nd_lit (by decide))
 have r3 : RS (Rat.divInt d.2.2 1) 3 := rs_divInt (by omega) (nd_lit (by simp only [Bn]; omega)) (nd_lit (by decide))
 unfold rateQ
 exact (inferInstance : RS (_ / _) _).mono (by omega)
def okE (e : Ed) : Prop := okd3 e.1 ∧ ok64 e.1.2.2 ∧ ok64 e.2
theorem M_138 [SpC] (e : Ed) (he : okE e) {x y : Rat} {n m : Nat} [hx : RS x n] [hy : RS y m] (h : n + m < 2 ^ 23) : M X 138 [.agg (edA e), .agg [zS (Rat.num (x)), zD (Rat.num (x)), zS (dz (x)), zD (dz (x)), zS (Rat.num (y)), zD (Rat.num (y)), zS (dz (y)), zD (dz (y))]] = some (.agg [zS (Rat.num (gapQ e x y)), zD (Rat.num (gapQ e x y)), zS (dz (gapQ e x y)), zD (dz (gapQ e x y))]) := by
 refine M_of X (fn := Tryz.f138) Tryz.func138 rfl ok_138 mode_138 res_138 _ rfl _ ?_
 intro r hr
 obtain ⟨⟨h1, h2⟩, ⟨h3, h4⟩, h5, h6⟩ := he
 have v1 := M_200 e.1 ⟨by omega, by omega⟩ ⟨by omega, by omega⟩ ⟨h3, h4⟩ (x := x) (y := y) (by omega)
 have r1 : RS (rateQ e.1 x y) (2 * (n + m) + 32) := rs_rate e.1 ⟨by omega, by omega⟩ ⟨by omega, by omega⟩ ⟨h3, h4⟩
 have o1 := M_151 e.2 e.1.2.2 (by omega) (by omega)
 have r2 : RS (Rat.divInt e.2 e.1.2.2) 4 := by
  by_cases h0 : e.1.2.2 = 0
  ·rw [h0, Rat.divInt_zero]; exact rs_zero.mono (by omega)
  ·exact (rs_divInt (n := 3) (by omega) (nd_lit (k := 3) (by simp only [Bn]; omega)) (nd_lit (k := 3) (by simp only [Bn]; omega))).mono (by omega)
 rw [hr, gapQ]
 generalize Rat.divInt e.2 e.1.2.2 = p1 at *
 generalize rateQ e.1 x y = p2 at *
 simp (maxSteps := 4000000) (disch := first | omega | (simp only [LL]; omega)) only [go_sem, M_145, mode_151, o1, mode_200, v1]
theorem rs_gap (e : Ed) (he : okE e) {x y : Rat} {n m : Nat} [hx : RS x n] [hy : RS y m] : RS (gapQ e x y) (2 * (n + m) + 48) := by
 obtain ⟨⟨h1, h2⟩, ⟨h3, h4⟩, h5, h6⟩ := he
 have r1 : RS (rateQ e.1 x y) (2 * (n + m) + 32) := rs_rate e.1 ⟨by omega, by omega⟩ ⟨by omega, by omega⟩ ⟨h3, h4⟩
 have r2 : RS (Rat.divInt e.2 e.1.2.2) 4 := by
  by_cases h0 : e.1.2.2 = 0
  ·rw [h0, Rat.divInt_zero]; exact rs_zero.mono (by omega)
  ·exact (rs_divInt (n := 3) (by omega) (nd_lit (k := 3) (by simp only [Bn]; omega)) (nd_lit (k := 3) (by simp only [Bn]; omega))).mono (by omega)
 unfold gapQ
 exact (inferInstance : RS (_ - _) _).mono (by omega)
def opens (x y : Rat) (e : Ed) : Bool := decide (0 ≤ cmpQ (gapQ e x y) 0)
theorem M_137 [SpC] (e : Ed) (he : okE e) {x y : Rat} {n m : Nat} [hx : RS x n] [hy : RS y m] (h : n + m < 2 ^ 22) : M X 137 [.agg (edA e), .rptr [zS (Rat.num (x)), zD (Rat.num (x)), zS (dz (x)), zD (dz (x)), zS (Rat.num (y)), zD (Rat.num (y)), zS (dz (y)), zD (dz (y))]] = some (.bool (opens x y e)) := by
 refine M_of X (fn := Tryz.f137) Tryz.func137 rfl ok_137 mode_137 res_137 _ rfl _ ?_
 intro r hr
 have v1 := M_138 e he (x := x) (y := y) (by omega)
 have r1 : RS (gapQ e x y) (2 * (n + m) + 48) := rs_gap e he
 have v2 := M_69 (gapQ e x y)
 rw [hr, opens]
 generalize gapQ e x y = g at *
 generalize cmpQ g 0 = c at *
 simp (maxSteps := 4000000) (disch := first | omega | (simp only [LL]; omega)) only [go_sem, mode_138, v1, mode_69, v2]
theorem M_70 [SpC] (l : List Ed) (hl : l.length < 2 ^ 30) (he : ∀ e ∈ l, okE e) {x y : Rat} {n m : Nat} [hx : RS x n] [hy : RS y m] (h : n + m < 2 ^ 22) : M X 70 [.ro (edC l) l.length false, .agg [zS (Rat.num (x)), zD (Rat.num (x)), zS (dz (x)), zD (dz (x)), zS (Rat.num (y)), zD (Rat.num (y)), zS (dz (y)), zD (dz (y))]] = some (.bool (!l.any (opens x y))) := by
 refine M_of X (fn := Tryz.f70) Tryz.func70 rfl ok_70 mode_70 res_70 _ rfl _ ?_
 intro r hr
 have v1 := con_edge 137 mode_137 [zS (Rat.num (x)), zD (Rat.num (x)), zS (dz (x)), zD (dz (x)), zS (Rat.num (y)), zD (Rat.num (y)), zS (dz (y)), zD (dz (y))] (by simp only [weak_zS, weak_zD, weakgo_nil, weakgo_cons]) (opens x y) l (fun e hm => M_137 e (he e hm) (by omega)) hl false
 have hl2 := edC_length l
 rw [hr]
 simp (maxSteps := 4000000) (disch := first | omega | (simp only [LL]; omega)) only [go_sem, hl2, weaks_edC, weak_rptr, mode_136, v1]
theorem M_167 [SpC] (a b : Pt) (ha : okp a) (hb : okp b) : M X 167 [.agg [.int .i64 a.1, .int .i64 a.2], .agg [.int .i64 b.1, .int .i64 b.2]] =
  some (.tuple [.agg (drC (normV (b.1 - a.1) (b.2 - a.2))), .bool (normOk (b.1 - a.1) (b.2 - a.2))]) := by
 refine M_of X (fn := Tryz.f167) Tryz.func167 rfl ok_167 mode_167 res_167 _ rfl _ ?_
 intro r hr
 obtain ⟨⟨a1, a2⟩, a3, a4⟩ := ha
 obtain ⟨⟨b1, b2⟩, b3, b4⟩ := hb
 obtain ⟨x, hx⟩ : ∃ x, x = b.1 - a.1 := ⟨_, rfl⟩
 obtain ⟨y, hy⟩ : ∃ y, y = b.2 - a.2 := ⟨_, rfl⟩
 rw [← hx, ← hy] at hr
 have hle := sq2_le (x := x) (y := y) (k := 2097152) (by omega) (by omega)
 have hin := sq2_int x y
 have hxx : x * x = (x.natAbs * x.natAbs : Nat) := by rw [Int.natCast_mul, Int.natAbs_mul_self']
 have hyy : y * y = (y.natAbs * y.natAbs : Nat) := by rw [Int.natCast_mul, Int.natAbs_mul_self']
 have hq1 : x.natAbs * x.natAbs ≤ sq2 x y := by rw [sq2]; omega
 have hq2 : y.natAbs * y.natAbs ≤ sq2 x y := by rw [sq2]; omega
 have hnd := nd_small (sq2 x y : Int) (by omega)
 have hrt := M_223 (sq2 x y) (by omega)
 have hof := M_116 (x * x + y * y) (by omega)
 rw [← hin] at hof
 have hsm := M_224 (normH x y) (by have := isq_self (sq2 x y); rw [normH_eq] at this; omega)
 rw [normH_eq] at hrt
 by_cases hok : normH x y * normH x y = sq2 x y
 ·rw [decide_eq_true hok] at hrt
  by_cases h0 : normH x y = 0
  ·have hN : normOk x y = false := decide_eq_false (by omega)
   simp (maxSteps := 4000000) (disch := first | omega | (simp only [LL]; omega)) only [go_sem, ← hx, ← hy, ← hin, hrt, hof, hsm]
   rw [hr, normV, hN]; rfl
  ·have hN : normOk x y = true := decide_eq_true ⟨hok, h0⟩
   have hle2 : normH x y ≤ sq2 x y := by rw [← normH_eq]; exact isq_self _
   have hz1 := M_198 x (by omega)
   have hz2 := M_198 y (by omega)
   have hg1 := M_197 (x.natAbs : Int) (y.natAbs : Int) (by omega) (by omega)
   rw [show Int.gcd (x.natAbs : Int) (y.natAbs : Int) = Int.gcd x y from rfl] at hg1
   have hgl : Int.gcd x y ≤ sq2 x y := by
    by_cases hx0 : x = 0
    ·rw [hx0, Int.gcd_zero_left, sq2]
     have : y.natAbs * 1 ≤ y.natAbs * y.natAbs ∨ y.natAbs = 0 := by
      by_cases h : y.natAbs = 0
      ·exact .inr h
      ·exact .inl (Nat.mul_le_mul_left _ (by omega))
     rw [hx0] at *
     omega
    ·have h1 := Nat.gcd_le_left y.natAbs (show 0 < x.natAbs by omega)
     have h2 : x.natAbs * 1 ≤ x.natAbs * x.natAbs := Nat.mul_le_mul_left _ (by omega)
     rw [Int.gcd]; omega
   have hg2 := M_197 (Int.gcd x y) (normH x y) (by omega) (by omega)
   rw [show Int.gcd (Int.gcd x y) (normH x y) = normG x y from rfl] at hg2
   have hgp : 0 < normG x y := Nat.pos_of_ne_zero fun h => h0 (by have := Int.gcd_eq_zero_iff.1 h; omega)
   simp (maxSteps := 4000000) (disch := first | omega | (simp only [LL]; omega)) only [go_sem, ← hx, ← hy, ← hin, hrt, hof, hsm, hz1, hz2, hg1, hg2]
   have w1 : IntKind.wrap .i64 (y.tdiv (normG x y)) = y.tdiv (normG x y) := IntWalk.i64_in _ (by have := Int.natAbs_tdiv_le_natAbs y (normG x y); omega)
   have w2 : IntKind.wrap .i64 ((0 - x).tdiv (normG x y)) = (0 - x).tdiv (normG x y) := IntWalk.i64_in _ (by have := Int.natAbs_tdiv_le_natAbs (0 - x) (normG x y); omega)
   rw [hr, normV, hN, w1, w2]; rfl
 ·have hN : normOk x y = false := decide_eq_false (by omega)
  rw [decide_eq_false hok] at hrt
  simp (maxSteps := 4000000) (disch := first | omega | (simp only [LL]; omega)) only [go_sem, ← hx, ← hy, ← hin, hrt, hof, hsm]
  rw [hr, normV, hN]; rfl
theorem M_168 [SpC] (l : List Pt) (i : Nat) (hi : i < l.length) (hl : l.length < 2 ^ 30) : M X 168 [.ro (ptC l) l.length false, .int .i64 i] =
  some (.agg [.int .i64 (l.getD ((i + 1) % l.length) (0, 0)).1, .int .i64 (l.getD ((i + 1) % l.length) (0, 0)).2]) := by
 refine M_of X (fn := Tryz.f168) Tryz.func168 rfl ok_168 mode_168 res_168 _ rfl _ ?_
 intro r hr
 have hl2 := ptC_length l
 rw [hr]
 by_cases h1 : i + 1 < l.length
 ·have hd := ptC_take l (i + 1) h1
  rw [Nat.mod_eq_of_lt h1]
  simp (maxSteps := 4000000) (disch := first | omega | (simp only [LL]; omega)) only [go_sem, hl2, hd]
 ·have e : i + 1 = l.length := by omega
  have hd := ptC_take l 0 (by omega)
  simp only [Nat.zero_mul, List.drop_zero] at hd
  rw [e, Nat.mod_self]
  simp (maxSteps := 4000000) (disch := first | omega | (simp only [LL]; omega)) only [go_sem, hl2, hd]
theorem M_169 [SpC] (d : Dr) (hd : okd3 d) : M X 169 [.agg [.int .i64 d.1, .int .i64 d.2.1, .int .i64 d.2.2]] = some (.agg [.int .i64 (turnD d).1, .int .i64 (turnD d).2.1, .int .i64 (turnD d).2.2]) := by
 refine M_of X (fn := Tryz.f169) Tryz.func169 rfl ok_169 mode_169 res_169 _ rfl _ ?_
 intro r hr
 obtain ⟨⟨a, b⟩, c, e⟩ := hd
 simp (maxSteps := 4000000) (disch := first | omega | (simp only [LL]; omega)) only [go_sem]
 rw [hr]; rfl
theorem ite_maxI (x y : Int) : (if x < y then y else x) = max x y := by split <;> omega
theorem M_170 [SpC] (d : Dr) (hd : okd3 d) (l : List Pt) (hp : ∀ p ∈ l, okp p) (hn : 0 < l.length) (hlen : l.length < 2 ^ 30) : M X 170 [.ro (ptC l) l.length false, .agg [.int .i64 d.1, .int .i64 d.2.1, .int .i64 d.2.2]] = some (.int .i64 (mostP l d)) := by
 refine M_of X (fn := Tryz.f170) Tryz.func170 rfl ok_170 mode_170 res_170 _ rfl _ ?_
 intro r hr
 have hl2 := ptC_length l
 have hd0 := ptC_drop l 0 hn
 simp only [Nat.zero_mul, List.drop_zero, Nat.zero_add] at hd0
 have hp0 := okp_getD hp 0
 have b1 := prodc hd.1 hp0.1
 have b2 := prodc hd.2 hp0.2
 have e0 : topZ (dotP d) l 0 = d.1 * (ptA l 0).1 + d.2.1 * (ptA l 0).2 := rfl
 rw [show l.getD 0 (0, 0) = ptA l 0 from rfl] at hd0
 generalize ptA l 0 = p0 at *
 simp (maxSteps := 4000000) (disch := first | omega | (simp only [LL]; omega)) only [go_sem, hl2, hd0]
 refine W_loop X (fun (k : Nat) s => k ≤ l.length ∧ s.env 0 = .ro (ptC l) l.length false ∧ s.env 3 = .ptr 0 0 ∧ s.env 5 = .int .i64 (topZ (dotP d) l (k - 1)) ∧ s.env 6 = .int .i64 k ∧ s.heap 0 = some (.cells [.int .i64 d.1, .int .i64 d.2.1, .int .i64 d.2.2] false false)) (fun k => l.length - k) ?_ 0 _ ?_
 ·rintro k ⟨env, heap, nx⟩ ⟨hk, g0, g3, g5, g6, h0⟩
  simp only at g0 g3 g5 g6 h0
  by_cases h1 : k < l.length
  ·have hdk := ptC_drop l k h1
   have hpk := okp_getD hp k
   have c1 := prodc hd.1 hpk.1
   have c2 := prodc hd.2 hpk.2
   have hs : max (topZ (dotP d) l (k - 1)) (d.1 * (ptA l k).1 + d.2.1 * (ptA l k).2) = topZ (dotP d) l k := by
    cases k with
    | zero =>
     show max (topZ (dotP d) l 0) (dotP d (l.getD 0 (0, 0))) = topZ (dotP d) l 0
     rw [show topZ (dotP d) l 0 = dotP d (l.getD 0 (0, 0)) from rfl, Int.max_self]
    | succ k => rfl
   rw [show l.getD k (0, 0) = ptA l k from rfl] at hdk
   generalize ptA l k = q at *
   simp (maxSteps := 4000000) (disch := first | omega | (simp only [LL]; omega)) only [go_sem, hl2, hdk, g0, g3, g5, g6, h0, ite_maxI, hs]
   exact ⟨k + 1, ⟨by omega, rfl, rfl⟩, by omega⟩
  ·obtain rfl : k = l.length := by omega
   simp (maxSteps := 4000000) (disch := first | omega | (simp only [LL]; omega)) only [go_sem, hl2, g0, g3, g5, g6, h0]
   rw [hr]; rfl
 ·simp (maxSteps := 4000000) (disch := first | omega | (simp only [LL]; omega)) only [go_sem]
  exact ⟨by rw [hd0]; rfl, by rw [← e0]⟩
def dotQ (d : Dr) (x y : Rat) : Rat := Rat.divInt d.1 1 * x + Rat.divInt d.2.1 1 * y
theorem M_96 [SpC] (d : Dr) (h1 : ok64 d.1) (h2 : ok64 d.2.1) {x y : Rat} {n m : Nat} [hx : RS x n] [hy : RS y m] (h : n + m < 2 ^ 24) : M X 96 [.agg [.int .i64 d.1, .int .i64 d.2.1, .int .i64 d.2.2], .agg [zS (Rat.num (x)), zD (Rat.num (x)), zS (dz (x)), zD (dz (x)), zS (Rat.num (y)), zD (Rat.num (y)), zS (dz (y)), zD (dz (y))]] = some (.agg [zS (Rat.num (dotQ d x y)), zD (Rat.num (dotQ d x y)), zS (dz (dotQ d x y)), zD (dz (dotQ d x y))]) := by
 refine M_of X (fn := Tryz.f96) Tryz.func96 rfl ok_96 mode_96 res_96 _ rfl _ ?_
 intro r hr
 obtain ⟨u1, u2⟩ := h1
 obtain ⟨u3, u4⟩ := h2
 have r1 : RS (Rat.divInt d.1 1) 3 := rs_divInt (by omega) (nd_lit (by simp only [Bn]; omega)) (nd_lit (by decide))
 have r2 : RS (Rat.divInt d.2.1 1) 3 := rs_divInt (by omega) (nd_lit (by simp only [Bn]; omega)) (nd_lit (by decide))
 have o1 := M_44 d.1 1 (by omega) (by omega)
 have o2 := M_44 d.2.1 1 (by omega) (by omega)
 rw [hr, dotQ]
 generalize Rat.divInt d.1 1 = p1 at *
 generalize Rat.divInt d.2.1 1 = p2 at *
 simp (maxSteps := 4000000) (disch := first | omega | (simp only [LL]; omega)) only [go_sem, M_84, M_49, mode_44, o1, o2]
theorem rs_dot (d : Dr) (h1 : ok64 d.1) (h2 : ok64 d.2.1) {x y : Rat} {n m : Nat} [hx : RS x n] [hy : RS y m] : RS (dotQ d x y) (n + m + 7) := by
 obtain ⟨u1, u2⟩ := h1
 obtain ⟨u3, u4⟩ := h2
 have r1 : RS (Rat.divInt d.1 1) 3 := rs_divInt (by omega) (nd_lit (by simp only [Bn]; omega)) (nd_lit (by decide))
 have r2 : RS (Rat.divInt d.2.1 1) 3 := rs_divInt (by omega) (nd_lit (by simp only [Bn]; omega)) (nd_lit (by decide))
 unfold dotQ
 exact (inferInstance : RS (_ + _) _).mono (by omega)
theorem gap_eq (e : Ed) (x y : Rat) : gapQ e x y = (dotQ e.1 x y - Rat.divInt e.2 1) / Rat.divInt e.1.2.2 1 := by
 unfold gapQ rateQ dotQ
 have h1 : ((1 : Int) : Rat) = 1 := rfl
 rw [Rat.divInt_eq_div e.2 e.1.2.2, Rat.divInt_eq_div e.2 1, Rat.divInt_eq_div e.1.2.2 1, h1]
 simp only [Rat.div_def]
 generalize Rat.divInt e.1.1 1 * x + Rat.divInt e.1.2.1 1 * y = s
 have h2 : (1 : Rat)⁻¹ = 1 := by decide +kernel
 rw [h2]
 grind
theorem M_166 [SpC] (e : Ed) (he : okE e) {x y : Rat} {n m : Nat} [hx : RS x n] [hy : RS y m] (h : n + m < 2 ^ 22) : M X 166 [.agg (edA e), .agg [zS (Rat.num (x)), zD (Rat.num (x)), zS (dz (x)), zD (dz (x)), zS (Rat.num (y)), zD (Rat.num (y)), zS (dz (y)), zD (dz (y))]] = some (.agg [zS (Rat.num (gapQ e x y)), zD (Rat.num (gapQ e x y)), zS (dz (gapQ e x y)), zD (dz (gapQ e x y))]) := by
 refine M_of X (fn := Tryz.f166) Tryz.func166 rfl ok_166 mode_166 res_166 _ rfl _ ?_
 intro r hr
 obtain ⟨⟨h1, h2⟩, ⟨h3, h4⟩, h5, h6⟩ := he
 have v1 := M_96 e.1 ⟨by omega, by omega⟩ ⟨by omega, by omega⟩ (x := x) (y := y) (by omega)
 have r1 : RS (dotQ e.1 x y) (n + m + 7) := rs_dot e.1 ⟨by omega, by omega⟩ ⟨by omega, by omega⟩
 have o1 := M_44 e.2 1 (by omega) (by omega)
 have o2 := M_44 e.1.2.2 1 (by omega) (by omega)
 have r2 : RS (Rat.divInt e.2 1) 3 := rs_divInt (by omega) (nd_lit (by simp only [Bn]; omega)) (nd_lit (by decide))
 have r3 : RS (Rat.divInt e.1.2.2 1) 3 := rs_divInt (by omega) (nd_lit (by simp only [Bn]; omega)) (nd_lit (by decide))
 rw [hr, gap_eq]
 generalize Rat.divInt e.2 1 = p1 at *
 generalize Rat.divInt e.1.2.2 1 = p3 at *
 generalize dotQ e.1 x y = p2 at *
 simp (maxSteps := 4000000) (disch := first | omega | (simp only [LL]; omega)) only [go_sem, M_222, M_95, mode_44, o1, o2, mode_96, v1]
theorem M_91 [SpC] (l : List Ed) (hl : l.length < 2 ^ 30) (he : ∀ e ∈ l, okE e) {x y : Rat} {n m : Nat} [hx : RS x n] [hy : RS y m] (h : n + m < 2 ^ 22) : M X 91 [.ro (edC l) l.length false, .agg [zS (Rat.num (x)), zD (Rat.num (x)), zS (dz (x)), zD (dz (x)), zS (Rat.num (y)), zD (Rat.num (y)), zS (dz (y)), zD (dz (y))]] = some (.bool (!l.any (opens x y))) := by
 refine M_of X (fn := Tryz.f91) Tryz.func91 rfl ok_91 mode_91 res_91 _ rfl _ ?_
 intro r hr
 have hl2 := edC_length l
 simp (maxSteps := 4000000) (disch := first | omega | (simp only [LL]; omega)) only [go_sem, hl2]
 refine W_loop X (fun (k : Nat) s => k ≤ l.length ∧ (∀ j, j < k → opens x y (l.getD j ed0) = false) ∧ s.env 0 = .ro (edC l) l.length false ∧ s.env 3 = .ptr 0 0 ∧ s.env 5 = .int .i64 k ∧ s.heap 0 = some (.cells [zS (Rat.num (x)), zD (Rat.num (x)), zS (dz (x)), zD (dz (x)), zS (Rat.num (y)), zD (Rat.num (y)), zS (dz (y)), zD (dz (y))] false false)) (fun k => l.length - k) ?_ 0 _ ?_
 ·rintro k ⟨env, heap, nx⟩ ⟨hk, hj, g0, g3, g5, h0⟩
  simp only at g0 g3 g5 h0
  by_cases h1 : k < l.length
  ·have hd := edC_take l k h1
   have hmem : l.getD k ed0 ∈ l := by rw [List.getD_eq_getElem?_getD, List.getElem?_eq_getElem h1]; exact List.getElem_mem h1
   have v1 := M_166 (l.getD k ed0) (he _ hmem) (x := x) (y := y) (by omega)
   have r1 : RS (gapQ (l.getD k ed0) x y) (2 * (n + m) + 48) := rs_gap _ (he _ hmem)
   have v2 := M_90 (x := gapQ (l.getD k ed0) x y) (by omega)
   have hop : opens x y (l.getD k ed0) = decide (0 ≤ cmpQ (gapQ (l.getD k ed0) x y) 0) := rfl
   by_cases h2 : opens x y (l.getD k ed0) = true
   ·have hany : l.any (opens x y) = true := List.any_eq_true.2 ⟨_, hmem, h2⟩
    rw [hop] at h2
    have h3 := of_decide_eq_true h2
    clear hj
    generalize l.getD k ed0 = e at *
    generalize gapQ e x y = g at *
    generalize cmpQ g 0 = c at *
    simp (maxSteps := 4000000) (disch := first | omega | (simp only [LL]; omega)) only [go_sem, hl2, hd, g0, g3, g5, h0, v1, v2]
    rw [hr, hany]; rfl
   ·simp only [Bool.not_eq_true] at h2
    have hj' : ∀ j, j < k + 1 → opens x y (l.getD j ed0) = false := by
     intro j h3
     rcases Nat.lt_or_ge j k with h4 | h4
     ·exact hj j h4
     ·obtain rfl : j = k := by omega
      exact h2
    rw [hop] at h2
    have h3 := of_decide_eq_false h2
    clear hj
    generalize l.getD k ed0 = e at hd v1 v2 r1 h3
    generalize gapQ e x y = g at *
    generalize cmpQ g 0 = c at *
    simp (maxSteps := 4000000) (disch := first | omega | (simp only [LL]; omega)) only [go_sem, hl2, hd, g0, g3, g5, h0, v1, v2]
    exact ⟨k + 1, ⟨by omega, hj', rfl⟩, by omega⟩
  ·have hany : l.any (opens x y) = false := by
    rw [List.any_eq_false]
    intro e he
    obtain ⟨j, h3, rfl⟩ := List.getElem_of_mem he
    have := hj j (by omega)
    rw [List.getD_eq_getElem?_getD, List.getElem?_eq_getElem h3] at this
    simpa using this
   clear hj
   simp (maxSteps := 4000000) (disch := first | omega | (simp only [LL]; omega)) only [go_sem, hl2, g0, g3, g5, h0]
   rw [hr, hany]; rfl
 ·simp (maxSteps := 4000000) (disch := first | omega | (simp only [LL]; omega)) only [go_sem]
  exact fun j h => absurd h (Nat.not_lt_zero j)
def neD (d e : Dr) : Bool := !(decide (d.1 = e.1) && (decide (d.2.1 = e.2.1) && decide (d.2.2 = e.2.2)))
def dirsR (a b : List Pt) : List Dr := (List.range a.length).map (dirN a) ++ (List.range b.length).map (fun i => turnD (dirN b i))
def sidR (ds : List Dr) (a b : List Pt) : Nat → List Ed
 | 0 => []
 | i + 1 => sidR ds a b i ++ if (ds.take i).all (fun d => neD d (ds.getD i (0, 0, 0))) then [(ds.getD i (0, 0, 0), mostP a (ds.getD i (0, 0, 0)) + mostP b (turnD (ds.getD i (0, 0, 0))))] else []
def sidesR (a b : List Pt) : List Ed := sidR (dirsR a b) a b (dirsR a b).length
theorem sidR_len (ds : List Dr) (a b : List Pt) : ∀ i, (sidR ds a b i).length ≤ i
 | 0 => Nat.le_refl _
 | i + 1 => by
  have := sidR_len ds a b i
  unfold sidR
  rw [List.length_append]
  split <;> simp <;> omega
theorem dirsR_ok {a b : List Pt} (ha : ∀ p ∈ a, okp p) (hb : ∀ p ∈ b, okp p) (i : Nat) : okd3 ((dirsR a b).getD i (0, 0, 0)) := by
 have h0 : okd3 (0, 0, 0) := ⟨⟨by decide, by decide⟩, by decide, by decide⟩
 rw [List.getD_eq_getElem?_getD]
 by_cases h : i < (dirsR a b).length
 ·rw [List.getElem?_eq_getElem h]
  have hm := List.getElem_mem h
  show okd3 (dirsR a b)[i]
  generalize (dirsR a b)[i] = d at *
  unfold dirsR at hm
  rcases List.mem_append.1 hm with hm | hm
  ·obtain ⟨j, _, rfl⟩ := List.mem_map.1 hm; exact dirN_ok ha j
  ·obtain ⟨j, _, rfl⟩ := List.mem_map.1 hm; exact turn_ok (dirN_ok hb j)
 ·rw [List.getElem?_eq_none (by omega)]; exact h0
theorem sr_facts [SpC] (l : List Pt) (hp : ∀ p ∈ l, okp p) (hl : l.length < 2 ^ 16) (i : Nat) (hi : i < l.length) (d : Dr) (hd : d = dirN l i) :
  ∃ q : Pt, ∃ is : Bool, M X 168 [.ro (ptC l) l.length false, .int .i64 i] = some (.agg [.int .i64 q.1, .int .i64 q.2]) ∧
  M X 167 [.agg [.int .i64 (l.getD i (0, 0)).1, .int .i64 (l.getD i (0, 0)).2], .agg [.int .i64 q.1, .int .i64 q.2]] = some (.tuple [.agg [.int .i64 d.1, .int .i64 d.2.1, .int .i64 d.2.2], .bool is]) ∧
  M X 169 [.agg [.int .i64 d.1, .int .i64 d.2.1, .int .i64 d.2.2]] = some (.agg [.int .i64 (turnD d).1, .int .i64 (turnD d).2.1, .int .i64 (turnD d).2.2]) ∧ okd3 d := by
 subst hd
 exact ⟨ptA l ((i + 1) % l.length), _, M_168 l i hi (by omega), M_167 (ptA l i) (ptA l ((i + 1) % l.length)) (okp_getD hp i) (okp_getD hp _), M_169 _ (dirN_ok hp i), dirN_ok hp i⟩
theorem mr_facts [SpC] (a b : List Pt) (ha : ∀ p ∈ a, okp p) (hb : ∀ p ∈ b, okp p) (a0 : 0 < a.length) (b0 : 0 < b.length) (al : a.length < 2 ^ 16) (bl : b.length < 2 ^ 16) (d : Dr) (hd : okd3 d) :
  ∃ m1 m2 : Int, M X 170 [.ro (ptC a) a.length false, .agg [.int .i64 d.1, .int .i64 d.2.1, .int .i64 d.2.2]] = some (.int .i64 m1) ∧
  M X 170 [.ro (ptC b) b.length false, .agg [.int .i64 (turnD d).1, .int .i64 (turnD d).2.1, .int .i64 (turnD d).2.2]] = some (.int .i64 m2) ∧
  M X 169 [.agg [.int .i64 d.1, .int .i64 d.2.1, .int .i64 d.2.2]] = some (.agg [.int .i64 (turnD d).1, .int .i64 (turnD d).2.1, .int .i64 (turnD d).2.2]) ∧
  (-8796093022208 ≤ m1 ∧ m1 ≤ 8796093022208) ∧ (-8796093022208 ≤ m2 ∧ m2 ≤ 8796093022208) ∧ mostP a d + mostP b (turnD d) = m1 + m2 :=
 ⟨mostP a d, mostP b (turnD d), M_170 d hd a ha a0 (by omega), M_170 (turnD d) (turn_ok hd) b hb b0 (by omega), M_169 d hd, mostP_bd hd ha, mostP_bd (turn_ok hd) hb, rfl⟩
theorem M_92 [SpC] (a b : List Pt) (ha : ∀ p ∈ a, okp p) (hb : ∀ p ∈ b, okp p) (a0 : 0 < a.length) (b0 : 0 < b.length) (al : a.length < 2 ^ 16) (bl : b.length < 2 ^ 16) :
  M X 92 [.ro (ptC a) a.length false, .ro (ptC b) b.length false] = some (.ro (edC (sidesR a b)) (sidesR a b).length false) := by
 refine M_of X (fn := Tryz.f92) Tryz.func92 rfl ok_92 mode_92 res_92 _ rfl _ ?_
 intro r hr
 have al2 := ptC_length a
 have bl2 := ptC_length b
 simp (maxSteps := 4000000) (disch := first | omega | (simp only [LL]; omega)) only [go_sem]
 refine W_loop X (fun (k : Nat) s => k ≤ a.length ∧ s.env 0 = .ro (ptC a) a.length false ∧ s.env 1 = .ro (ptC b) b.length false ∧ s.env 6 = .int .i64 k ∧ GrowC 0 s.heap s.next (s.env 5) (cat dirA ((List.range k).map (dirN a))) k 3) (fun k => a.length - k) ?_ 0 _ ?_
 ·rintro k ⟨env, heap, nx⟩ ⟨hk, g0, g1, g6, hgr⟩
  simp only at g0 g1 g6 hgr
  have hdl := cat_length (f := dirA) ((List.range k).map (dirN a))
  rw [List.length_map, List.length_range] at hdl
  by_cases h1 : k < a.length
  ·have hs : cat dirA ((List.range (k + 1)).map (dirN a)) = cat dirA ((List.range k).map (dirN a)) ++ dirA (dirN a k) := by rw [List.range_succ, List.map_append, cat_append]; simp [cat]
   rw [dirA_eq] at hs
   obtain ⟨q, is, w1, w2, w3, w4⟩ := sr_facts a ha al k h1 (dirN a k) rfl
   have hpt := ptC_take a k h1
   generalize dirN a k = d at hs w2 w3 w4
   rcases hgr with ⟨e3, ec, e0⟩ | ⟨B, hB, e3, eB⟩
   ·simp (maxSteps := 4000000) (disch := first | omega | (simp only [LL]; omega)) only [go_sem, al2, g0, g1, g6, e3, replA_1, hpt, w1, w2, weaks_ptC]
    refine ⟨k + 1, ?_, by omega⟩
    repeat' apply And.intro
    all_goals first | omega | rfl | (rw [hs, ec, e0]; exact growC_put _ _ _ _ _ _ _ (by omega))
   ·simp (maxSteps := 4000000) (disch := first | omega | (simp only [LL]; omega)) only [go_sem, al2, g0, g1, g6, e3, eB, hdl, replA_1, hpt, w1, w2, weaks_ptC]
    refine ⟨k + 1, ?_, by omega⟩
    repeat' apply And.intro
    all_goals first | omega | rfl | (rw [hs]; exact growC_put _ _ _ _ _ _ _ (by omega))
  ·obtain rfl : k = a.length := by omega
   simp (maxSteps := 4000000) (disch := first | omega | (simp only [LL]; omega)) only [go_sem, al2, g0, g1, g6]
   refine W_loop X (fun (k : Nat) s => k ≤ b.length ∧ s.env 0 = .ro (ptC a) a.length false ∧ s.env 1 = .ro (ptC b) b.length false ∧ s.env 9 = .int .i64 k ∧ GrowC 0 s.heap s.next (s.env 5) (cat dirA ((List.range a.length).map (dirN a) ++ (List.range k).map (fun i => turnD (dirN b i)))) (a.length + k) 3) (fun k => b.length - k) ?_ 0 _ ?_
   ·clear g0 g1 g6 hgr hk
    rintro k ⟨env, heap, nx⟩ ⟨hk, g0, g1, g9, hgr⟩
    simp only at g0 g1 g9 hgr
    have hdl := cat_length (f := dirA) ((List.range a.length).map (dirN a) ++ (List.range k).map (fun i => turnD (dirN b i)))
    rw [List.length_append, List.length_map, List.length_range, List.length_map, List.length_range] at hdl
    by_cases h1 : k < b.length
    ·have hs : cat dirA ((List.range a.length).map (dirN a) ++ (List.range (k + 1)).map (fun i => turnD (dirN b i))) = cat dirA ((List.range a.length).map (dirN a) ++ (List.range k).map (fun i => turnD (dirN b i))) ++ dirA (turnD (dirN b k)) := by
      rw [List.range_succ, List.map_append, ← List.append_assoc, cat_append]; simp [cat]
     rw [dirA_eq] at hs
     obtain ⟨q, is, w1, w2, w3, w4⟩ := sr_facts b hb bl k h1 (dirN b k) rfl
     have hpt := ptC_take b k h1
     generalize (List.range a.length).map (dirN a) ++ (List.range k).map (fun i => turnD (dirN b i)) = ds at *
     generalize dirN b k = d at hs w2 w3 w4
     generalize turnD d = td at *
     rcases hgr with ⟨e3, ec, e0⟩ | ⟨B, hB, e3, eB⟩
     ·omega
     ·simp (maxSteps := 4000000) (disch := first | omega | (simp only [LL]; omega)) only [go_sem, bl2, g0, g1, g9, e3, eB, hdl, replA_1, hpt, w1, w2, w3, weaks_ptC]
      refine ⟨k + 1, ?_, by omega⟩
      repeat' apply And.intro
      all_goals first | omega | rfl | (rw [hs]; exact growC_put _ _ _ _ _ _ _ (by omega))
    ·obtain rfl : k = b.length := by omega
     have hdsl : (dirsR a b).length = a.length + b.length := by unfold dirsR; simp
     have hok := dirsR_ok ha hb
     rw [show (List.range a.length).map (dirN a) ++ (List.range b.length).map (fun i => turnD (dirN b i)) = dirsR a b from rfl] at hgr hdl
     have hsr : sidesR a b = sidR (dirsR a b) a b (dirsR a b).length := rfl
     rw [hsr] at hr
     clear hsr
     generalize dirsR a b = ds at *
     rcases hgr with ⟨e3, ec, e0⟩ | ⟨D, hD, e3, eD⟩
     ·omega
     rw [← hdsl] at e3
     simp (maxSteps := 4000000) (disch := first | omega | (simp only [LL]; omega)) only [go_sem, bl2, g0, g1, g9]
     refine W_loop X (fun (i : Nat) s => i ≤ ds.length ∧ s.env 0 = .ro (ptC a) a.length false ∧ s.env 1 = .ro (ptC b) b.length false ∧ s.env 5 = .sl D 0 ds.length none 3 ∧ s.env 13 = .int .i64 i ∧ D < s.next ∧ s.heap D = some (.cells (cat dirA ds) true false) ∧ GrowC (D + 1) s.heap s.next (s.env 12) (edC (sidR ds a b i)) (sidR ds a b i).length 4) (fun i => ds.length - i) ?_ 0 _ ?_
     ·clear g0 g1 g9 hk e3 eD hD
      rintro i ⟨env, heap, nx⟩ ⟨hi, g0, g1, g5, g13, hnx, hD, hgr⟩
      simp only at g0 g1 g5 g13 hnx hD hgr
      have hdl := cat_length (f := dirA) ds
      by_cases h1 : i < ds.length
      ·have hgi := getD_some (l := ds) (i := i) h1 (0, 0, 0)
       have hdi := cat_take (f := dirA) hgi
       rw [dirA_eq] at hdi
       have hs : sidR ds a b (i + 1) = sidR ds a b i ++ if (ds.take i).all (fun d => neD d (ds.getD i (0, 0, 0))) then [(ds.getD i (0, 0, 0), mostP a (ds.getD i (0, 0, 0)) + mostP b (turnD (ds.getD i (0, 0, 0))))] else [] := rfl
       have hel := edC_length (sidR ds a b i)
       have hsl := sidR_len ds a b i
       obtain ⟨m1, m2, y1, y2, y3, y4, y5, y6⟩ := mr_facts a b ha hb a0 b0 al bl (ds.getD i (0, 0, 0)) (hok i)
       rw [y6] at hs
       clear y6
       generalize sidR ds a b i = out at *
       generalize ds.getD i (0, 0, 0) = d at *
       generalize turnD d = td at *
       simp (maxSteps := 4000000) (disch := first | omega | (simp only [LL]; omega)) only [go_sem, g0, g1, g5, g13]
       refine W_loop X (fun (k : Nat) s => k ≤ i ∧ s.env 0 = .ro (ptC a) a.length false ∧ s.env 1 = .ro (ptC b) b.length false ∧ s.env 5 = .sl D 0 ds.length none 3 ∧ s.env 13 = .int .i64 i ∧ s.env 14 = .bool ((ds.take k).all (fun e => neD e d)) ∧ s.env 15 = .int .i64 k ∧ D < s.next ∧ s.heap D = some (.cells (cat dirA ds) true false) ∧ GrowC (D + 1) s.heap s.next (s.env 12) (edC out) out.length 4) (fun k => i - k) ?_ 0 _ ?_
       ·clear g0 g1 g5 g13 hnx hD hgr
        rintro k ⟨env, heap, nx⟩ ⟨hk, g0, g1, g5, g13, g14, g15, hnx, hD, hgr⟩
        simp only at g0 g1 g5 g13 g14 g15 hnx hD hgr
        by_cases h2 : k < i
        ·have hgk := getD_some (l := ds) (i := k) (by omega) (0, 0, 0)
         have hdk := cat_take (f := dirA) hgk
         rw [dirA_eq] at hdk
         have he := all_take_succ (fun e => neD e d) hgk
         have hq : neD (ds.getD k (0, 0, 0)) d = !(decide ((ds.getD k (0, 0, 0)).1 = d.1) && (decide ((ds.getD k (0, 0, 0)).2.1 = d.2.1) && decide ((ds.getD k (0, 0, 0)).2.2 = d.2.2))) := rfl
         rw [hq] at he
         generalize ds.getD k (0, 0, 0) = x at *
         generalize (ds.take k).all (fun e => neD e d) = c at *
         cases c with
         | false =>
          simp (maxSteps := 4000000) (disch := first | omega | (simp only [LL]; omega)) only [go_sem, g0, g1, g5, g13, g14, g15, hD, hdl]
          refine ⟨k + 1, ?_, by omega⟩
          repeat' apply And.intro
          all_goals first | omega | rfl | (rw [he]; rfl) | exact growC_mono hgr (fun _ _ => rfl) (by omega)
         | true =>
          simp (maxSteps := 4000000) (disch := first | omega | (simp only [LL]; omega)) only [go_sem, g0, g1, g5, g13, g14, g15, hD, hdl, hdk, hdi]
          refine ⟨k + 1, ?_, by omega⟩
          repeat' apply And.intro
          all_goals first | omega | rfl | (rw [he]; rfl) | (rw [he, Bool.true_and]) | exact growC_mono hgr (fun _ _ => rfl) (by omega)
        ·obtain rfl : k = i := by omega
         cases hc : (ds.take k).all (fun e => neD e d) with
         | false =>
          rw [hc] at g14 hs
          have hs' : sidR ds a b (k + 1) = out := by rw [hs]; simp
          simp (maxSteps := 4000000) (disch := first | omega | (simp only [LL]; omega)) only [go_sem, g0, g1, g5, g13, g14, g15, hD, hdl]
          refine ⟨k + 1, ?_, by omega⟩
          repeat' apply And.intro
          all_goals first | omega | rfl | (rw [hs']; exact growC_mono hgr (fun _ _ => rfl) (by omega)) | skip
         | true =>
          rw [hc] at g14 hs
          have hs' : sidR ds a b (k + 1) = out ++ [(d, m1 + m2)] := by rw [hs]; simp
          have hsn := edC_snoc out (d, m1 + m2)
          rcases hgr with ⟨e3, ec, e0⟩ | ⟨B, hB, e3, eB⟩
          ·simp (maxSteps := 4000000) (disch := first | omega | (simp only [LL]; omega)) only [go_sem, g0, g1, g5, g13, g14, g15, hD, hdl, hdi, al2, bl2, weaks_ptC, y1, y2, y3, e3, replA_1]
           refine ⟨k + 1, ?_, by omega⟩
           repeat' apply And.intro
           all_goals first | omega | rfl | (rw [hs', hsn, ec, List.length_append, e0]; exact growC_put _ _ _ _ _ _ _ (by omega)) | skip
          ·simp (maxSteps := 4000000) (disch := first | omega | (simp only [LL]; omega)) only [go_sem, g0, g1, g5, g13, g14, g15, hD, hdl, hdi, al2, bl2, weaks_ptC, y1, y2, y3, e3, eB, hel, replA_1]
           refine ⟨k + 1, ?_, by omega⟩
           repeat' apply And.intro
           all_goals first | omega | rfl | (rw [hs', hsn, List.length_append]; exact growC_put _ _ _ _ _ _ _ (by omega)) | skip
       ·simp (maxSteps := 4000000) (disch := first | omega | (simp only [LL]; omega)) only [go_sem, g0, g1, g5, g13]
        repeat' apply And.intro
        all_goals first | omega | rfl | exact hD | exact growC_mono hgr (fun _ _ => rfl) (by omega)
      ·obtain rfl : i = ds.length := by omega
       have hel := edC_length (sidR ds a b ds.length)
       generalize sidR ds a b ds.length = out at *
       rcases hgr with ⟨e3, ec, e0⟩ | ⟨B, hB, e3, eB⟩
       ·simp (maxSteps := 4000000) (disch := first | omega | (simp only [LL]; omega)) only [go_sem, g0, g1, g5, g13, e3]
        rw [hr, List.eq_nil_of_length_eq_zero e0]; rfl
       ·simp (maxSteps := 4000000) (disch := first | omega | (simp only [LL]; omega)) only [go_sem, g0, g1, g5, g13, e3, eB, hel, snaps_edC, weaks_edC]
        rw [hr]
     ·simp (maxSteps := 4000000) (disch := first | omega | (simp only [LL]; omega)) only [go_sem, g0, g1, e3]
      exact ⟨by omega, eD, growC_nil _ _ _ _⟩
   ·simp (maxSteps := 4000000) (disch := first | omega | (simp only [LL]; omega)) only [go_sem, g0, g1]
    simp only [List.range_zero, List.map_nil, List.append_nil, Nat.add_zero]
    exact growC_mono hgr (fun _ _ => rfl) (by omega)
 ·simp (maxSteps := 4000000) (disch := first | omega | (simp only [LL]; omega)) only [go_sem]
  exact growC_nil _ _ _ _
structure OkRope (m : MdlR) (N : Nat) (r : RopeR) : Prop where
 a : 0 ≤ r.a ∧ r.a < m.parts.length
 b : -1 ≤ r.b ∧ r.b < m.parts.length
 fx : RS r.fx N
 fy : RS r.fy N
 tx : RS r.tx N
 ty : RS r.ty N
 len : RS r.len N
 dl : r.dirs.length < 2 ^ 10
 dirs : ∀ d ∈ r.dirs, okd3 d ∧ ok64 d.2.2
structure OkPart (n N : Nat) (p : PartR) : Prop where
 cols : okCols n N p.cols
 hx : RS p.hx N
 hy : RS p.hy N
 s0 : 0 < p.shape.length
 sl : p.shape.length < 2 ^ 10
 pts : ∀ q ∈ p.shape, okp q
structure GoodM (m : MdlR) (N : Nat) : Prop where
 dl : m.dofs.length < 2 ^ 10
 pl : m.parts.length < 2 ^ 10
 rl : m.ropes.length < 2 ^ 10
 sl : m.skip.length < 2 ^ 10
 part : ∀ p ∈ m.parts, OkPart m.dofs.length N p
 dof : ∀ d ∈ m.dofs, RS d.lo N ∧ RS d.hi N
 rope : ∀ r ∈ m.ropes, OkRope m N r
structure GoodS (m : MdlR) (s : StaR) (N : Nat) : Prop where
 tick : ok64 s.tick
 ql : s.q.length = m.dofs.length
 vl : s.v.length = m.dofs.length
 hl : s.here.length = m.parts.length
 q : ∀ x ∈ s.q, RS x N
 v : ∀ x ∈ s.v, RS x N
theorem GoodM.live {m : MdlR} {N : Nat} (h : GoodM m N) : okLive m := by
 have h1 := h.dl
 have h2 := h.pl
 refine ⟨by omega, by omega, fun p hp => ?_⟩
 obtain ⟨c1, c2⟩ := (h.part p hp).cols
 exact ⟨by omega, fun c hc => (c2 c hc).1⟩
def posV (m : MdlR) (q : List Rat) (i : Int) : Rat × Rat := atV q (m.parts.getD i.toNat part0)
theorem posV_rs {m : MdlR} {s : StaR} {N : Nat} (hg : GoodM m N) (hs : GoodS m s N) (hN : N < 2 ^ 10) {i : Int} (hi : 0 ≤ i ∧ i < m.parts.length) : RS (posV m s.q i).1 (2 ^ 16) ∧ RS (posV m s.q i).2 (2 ^ 16) := by
 have h := getD_some (l := m.parts) (i := i.toNat) (by omega) part0
 have hp := hg.part _ (List.mem_of_getElem? h)
 exact at_rs hs.q (by rw [hs.ql]; exact hp.cols) hp.hx hp.hy hN
theorem at_pos [SpC] {m : MdlR} {s : StaR} {N : Nat} (hg : GoodM m N) (hs : GoodS m s N) (hN : N < 2 ^ 10) {i : Int} (hi : 0 ≤ i ∧ i < m.parts.length) : M X 23 [.agg (mdlA m), .ro (cat ratA s.q) s.q.length false, .int .i64 i] = some (.agg [zS (Rat.num ((posV m s.q i).1)), zD (Rat.num ((posV m s.q i).1)), zS (dz ((posV m s.q i).1)), zD (dz ((posV m s.q i).1)), zS (Rat.num ((posV m s.q i).2)), zD (Rat.num ((posV m s.q i).2)), zS (dz ((posV m s.q i).2)), zD (dz ((posV m s.q i).2))]) := by
 have h := getD_some (l := m.parts) (i := i.toNat) (by omega) part0
 have hp := hg.part _ (List.mem_of_getElem? h)
 have h1 := hg.dl
 have h2 := hg.pl
 have := M_23 m s.q i.toNat _ N h (by omega) hs.q (by rw [hs.ql]; omega) (by rw [hs.ql]; exact hp.cols) hp.hx hp.hy hN
 rw [show ((i.toNat : Nat) : Int) = i by omega] at this
 exact this
def hereB (s : StaR) (i : Int) : Bool := s.here.getD i.toNat false
def endsV (m : MdlR) (s : StaR) (r : RopeR) : Option (Rat × Rat × Rat × Rat) :=
 if hereB s r.a = false then none
 else if 0 ≤ r.b then (if hereB s r.b = false then none else some (r.fx + (posV m s.q r.a).1, r.fy + (posV m s.q r.a).2, r.tx + (posV m s.q r.b).1, r.ty + (posV m s.q r.b).2))
 else some (r.fx + (posV m s.q r.a).1, r.fy + (posV m s.q r.a).2, r.tx, r.ty)
def endsA : Option (Rat × Rat × Rat × Rat) → AV
 | none => .tuple [.agg [zS (Rat.num (0)), zD (Rat.num (0)), zS (dz (0)), zD (dz (0)), zS (Rat.num (0)), zD (Rat.num (0)), zS (dz (0)), zD (dz (0))], .agg [zS (Rat.num (0)), zD (Rat.num (0)), zS (dz (0)), zD (dz (0)), zS (Rat.num (0)), zD (Rat.num (0)), zS (dz (0)), zD (dz (0))], .bool false]
 | some e => .tuple [.agg [zS (Rat.num (e.1)), zD (Rat.num (e.1)), zS (dz (e.1)), zD (dz (e.1)), zS (Rat.num (e.2.1)), zD (Rat.num (e.2.1)), zS (dz (e.2.1)), zD (dz (e.2.1))], .agg [zS (Rat.num (e.2.2.1)), zD (Rat.num (e.2.2.1)), zS (dz (e.2.2.1)), zD (dz (e.2.2.1)), zS (Rat.num (e.2.2.2)), zD (Rat.num (e.2.2.2)), zS (dz (e.2.2.2)), zD (dz (e.2.2.2))], .bool true]
theorem M_94 [SpC] (m : MdlR) (s : StaR) (r0 : RopeR) (N : Nat) (hg : GoodM m N) (hs : GoodS m s N) (hN : N < 2 ^ 10) (ho : OkRope m N r0) :
  M X 94 [.agg (mdlA m), .agg (staA s), .agg (ropeA r0)] = some (endsA (endsV m s r0)) := by
 refine M_of X (fn := Tryz.f94) Tryz.func94 rfl ok_94 mode_94 res_94 _ rfl _ ?_
 intro r hr
 obtain ⟨⟨a1, a2⟩, ⟨b1, b2⟩, f1, f2, t1, t2, f3, _, _⟩ := ho
 have hhl := cat_length (f := boolA) s.here
 have hl := hs.hl
 have hq := hs.ql
 have h1 := hg.dl
 have h2 := hg.pl
 have ha := cat_drop (f := boolA) (getD_some (l := s.here) (i := r0.a.toNat) (by omega) false)
 rw [boolA_eq] at ha
 simp only [Nat.mul_one] at ha
 have pa := at_pos hg hs hN (i := r0.a) ⟨a1, a2⟩
 obtain ⟨ra1, ra2⟩ := posV_rs hg hs hN (i := r0.a) ⟨a1, a2⟩
 rw [mdlA_eq] at pa
 rw [hr]
 clear hr
 unfold endsV hereB
 generalize s.here.getD r0.a.toNat false = ba at *
 generalize posV m s.q r0.a = qa at *
 cases ba with
 | false =>
  rw [if_pos rfl, endsA]
  simp (maxSteps := 4000000) (disch := first | omega | (simp only [LL]; omega)) only [go_sem, mdlA_eq, staA_eq, ropeA_eq, hhl, ha]
  simp only [q0a, q0b, q0c, q0d]
 | true =>
  rw [if_neg (by decide)]
  by_cases hb : 0 ≤ r0.b
  ·rw [if_pos hb]
   have hbd := cat_drop (f := boolA) (getD_some (l := s.here) (i := r0.b.toNat) (by omega) false)
   rw [boolA_eq] at hbd
   simp only [Nat.mul_one] at hbd
   have pb := at_pos hg hs hN (i := r0.b) ⟨hb, b2⟩
   obtain ⟨rb1, rb2⟩ := posV_rs hg hs hN (i := r0.b) ⟨hb, b2⟩
   rw [mdlA_eq] at pb
   generalize s.here.getD r0.b.toNat false = bb at *
   generalize posV m s.q r0.b = qb at *
   cases bb with
   | false =>
    rw [if_pos rfl, endsA]
    simp (maxSteps := 4000000) (disch := first | omega | (simp only [LL]; omega)) only [go_sem, mdlA_eq, staA_eq, ropeA_eq, hhl, ha, hbd]
    simp only [q0a, q0b, q0c, q0d]
   | true =>
    rw [if_neg (by decide), endsA]
    simp (maxSteps := 4000000) (disch := first | omega | (simp only [LL]; omega)) only [go_sem, M_82, mdlA_eq, staA_eq, ropeA_eq, hhl, ha, hbd, weaks_cat, weaks_ptC, mode_23, pa, pb]
  ·rw [if_neg hb, endsA]
   simp (maxSteps := 4000000) (disch := first | omega | (simp only [LL]; omega)) only [go_sem, M_82, mdlA_eq, staA_eq, ropeA_eq, hhl, ha, weaks_cat, weaks_ptC, mode_23, pa]
def dof0 : DofR := ⟨0, .bad, false, 0, 0⟩
def velBad (m : MdlR) (s : StaR) (i : Nat) : Bool := !(liveV m s.here).getD i false && !decide (cmpQ (s.v.getD i 0) 0 = 0)
def shapeAt (m : MdlR) (i : Int) : List Pt := (m.parts.getD i.toNat part0).shape
def meetV (m : MdlR) (s : StaR) (x : Pt) : Bool := !(sidesR (shapeAt m x.1) (shapeAt m x.2)).any (opens ((posV m s.q x.2).1 - (posV m s.q x.1).1) ((posV m s.q x.2).2 - (posV m s.q x.1).2))
def dofBad (m : MdlR) (s : StaR) (i : Nat) : Bool := ((liveV m s.here).getD i false && (m.dofs.getD i dof0).bd) && (decide (cmpQ (s.q.getD i 0) (m.dofs.getD i dof0).lo < 0) || decide (0 < cmpQ (s.q.getD i 0) (m.dofs.getD i dof0).hi))
def dirBad (e : Rat × Rat × Rat × Rat) (len : Rat) (d : Dr) : Bool := decide (0 < cmpQ (dotQ d (e.2.2.1 - e.1) (e.2.2.2 - e.2.1) / Rat.divInt d.2.2 1) len)
def ropeBad (m : MdlR) (s : StaR) (r : RopeR) : Bool := match endsV m s r with
 | none => false
 | some e => r.dirs.any (dirBad e r.len)
def fitV (m : MdlR) (s : StaR) : Int :=
 if (List.range m.dofs.length).any (velBad m s) then 1
 else if (pairsV m s.here).any (meetV m s) then 14
 else if (List.range m.dofs.length).any (dofBad m s) then 5
 else if m.ropes.any (ropeBad m s) then 5 else 0
theorem anyR_succ (P : Nat → Bool) (k : Nat) : (List.range (k + 1)).any P = ((List.range k).any P || P k) := by rw [List.range_succ, List.any_append]; simp
theorem anyR_hit {P : Nat → Bool} {k n : Nat} (hk : k < n) (h : P k = true) : (List.range n).any P = true := List.any_eq_true.2 ⟨k, List.mem_range.2 hk, h⟩
theorem any_take_succ {α : Type} (f : α → Bool) {l : List α} {i : Nat} {x : α} (h : l[i]? = some x) : (l.take (i + 1)).any f = ((l.take i).any f || f x) := by
 obtain ⟨hi, rfl⟩ := List.getElem?_eq_some_iff.1 h
 rw [List.take_succ_eq_append_getElem hi, List.any_append]; simp
theorem any_hit {α : Type} {f : α → Bool} {l : List α} {i : Nat} {x : α} (h : l[i]? = some x) (hf : f x = true) : l.any f = true := List.any_eq_true.2 ⟨x, List.mem_of_getElem? h, hf⟩
theorem rowV_mem (m : MdlR) (here : List Bool) (a : Nat) : ∀ k, ∀ x ∈ rowV m here a k, x.1 = a ∧ (a : Int) < x.2 ∧ x.2 < ((a + 1 + k : Nat) : Int)
 | 0 => by intro x hx; simp [rowV] at hx
 | k + 1 => by
  intro x hx
  unfold rowV at hx
  rcases List.mem_append.1 hx with hx | hx
  ·obtain ⟨h1, h2, h3⟩ := rowV_mem m here a k x hx; exact ⟨h1, h2, by omega⟩
  ·split at hx
   ·simp only [List.mem_cons, List.not_mem_nil, or_false] at hx
    subst hx
    exact ⟨rfl, by dsimp only; omega, by dsimp only; omega⟩
   ·simp at hx
theorem pairsK_mem (m : MdlR) (here : List Bool) : ∀ a, a ≤ m.parts.length → ∀ x ∈ pairsK m here a, 0 ≤ x.1 ∧ x.1 < x.2 ∧ x.2 < m.parts.length
 | 0, _ => by intro x hx; simp [pairsK] at hx
 | a + 1, ha => by
  intro x hx
  unfold pairsK at hx
  rcases List.mem_append.1 hx with hx | hx
  ·exact pairsK_mem m here a (by omega) x hx
  ·obtain ⟨h1, h2, h3⟩ := rowV_mem m here a _ x hx
   omega
theorem pairsV_mem {m : MdlR} {here : List Bool} {x : Pt} (hx : x ∈ pairsV m here) : 0 ≤ x.1 ∧ x.1 < x.2 ∧ x.2 < m.parts.length := pairsK_mem m here _ (Nat.le_refl _) x hx
theorem isqGo_le (k n : Nat) : isqGo k n ≤ k := by
 induction k with
 | zero => exact Nat.le_refl _
 | succ k ih => unfold isqGo; split <;> omega
theorem normV_h {x y : Int} (hx : -2097152 ≤ x ∧ x ≤ 2097152) (hy : -2097152 ≤ y ∧ y ≤ 2097152) : 0 ≤ (normV x y).2.2 ∧ (normV x y).2.2 ≤ 4194304 := by
 unfold normV
 split
 ·have h1 := isqGo_le (x.natAbs + y.natAbs) (sq2 x y)
  have h2 : normH x y = isqGo (x.natAbs + y.natAbs) (sq2 x y) := rfl
  have h3 := Int.ediv_nonneg (show (0 : Int) ≤ normH x y by omega) (show (0 : Int) ≤ normG x y by omega)
  have h4 : (normH x y : Int) / normG x y ≤ normH x y := Int.ediv_le_self _ (by omega)
  dsimp only
  omega
 ·dsimp only; omega
theorem dirN_h {l : List Pt} (hp : ∀ p ∈ l, okp p) (i : Nat) : ok64 (dirN l i).2.2 := by
 obtain ⟨⟨a1, a2⟩, a3, a4⟩ := okp_getD hp i
 obtain ⟨⟨b1, b2⟩, b3, b4⟩ := okp_getD hp ((i + 1) % l.length)
 have := normV_h (x := (ptA l ((i + 1) % l.length)).1 - (ptA l i).1) (y := (ptA l ((i + 1) % l.length)).2 - (ptA l i).2) (by omega) (by omega)
 unfold dirN
 exact ⟨by omega, by omega⟩
theorem dirsR_h {a b : List Pt} (ha : ∀ p ∈ a, okp p) (hb : ∀ p ∈ b, okp p) (i : Nat) : ok64 ((dirsR a b).getD i (0, 0, 0)).2.2 := by
 rw [List.getD_eq_getElem?_getD]
 by_cases h : i < (dirsR a b).length
 ·rw [List.getElem?_eq_getElem h]
  have hm := List.getElem_mem h
  show ok64 ((dirsR a b)[i]).2.2
  generalize (dirsR a b)[i] = d at *
  unfold dirsR at hm
  rcases List.mem_append.1 hm with hm | hm
  ·obtain ⟨j, _, rfl⟩ := List.mem_map.1 hm; exact dirN_h ha j
  ·obtain ⟨j, _, rfl⟩ := List.mem_map.1 hm; exact dirN_h hb j
 ·rw [List.getElem?_eq_none (by omega)]; exact ⟨by decide, by decide⟩
theorem sidR_okE {a b : List Pt} (ha : ∀ p ∈ a, okp p) (hb : ∀ p ∈ b, okp p) : ∀ i, ∀ e ∈ sidR (dirsR a b) a b i, okE e
 | 0 => by intro e he; simp [sidR] at he
 | i + 1 => by
  intro e he
  unfold sidR at he
  rcases List.mem_append.1 he with he | he
  ·exact sidR_okE ha hb i e he
  ·split at he
   ·simp only [List.mem_cons, List.not_mem_nil, or_false] at he
    subst he
    have h1 := dirsR_ok ha hb i
    have h2 := mostP_bd (d := (dirsR a b).getD i (0, 0, 0)) h1 ha
    have h3 := mostP_bd (d := turnD ((dirsR a b).getD i (0, 0, 0))) (turn_ok h1) hb
    exact ⟨h1, dirsR_h ha hb i, ⟨by dsimp only; omega, by dsimp only; omega⟩⟩
   ·simp at he
theorem sidesR_okE {a b : List Pt} (ha : ∀ p ∈ a, okp p) (hb : ∀ p ∈ b, okp p) : ∀ e ∈ sidesR a b, okE e := sidR_okE ha hb _
theorem sidesR_len (a b : List Pt) : (sidesR a b).length ≤ a.length + b.length := by
 have h := sidR_len (dirsR a b) a b (dirsR a b).length
 have h2 : (dirsR a b).length = a.length + b.length := by unfold dirsR; simp
 unfold sidesR; omega
theorem pair_facts [SpC] {m : MdlR} {s : StaR} {N : Nat} (hg : GoodM m N) (hs : GoodS m s N) (hN : N < 2 ^ 10) {x : Pt} (hx : x ∈ pairsV m s.here) :
  ∃ (sa sb : List Pt) (pa pb : Rat × Rat) (rx ry : Rat) (es : List Ed), (0 ≤ x.1 ∧ x.1 < m.parts.length) ∧ (0 ≤ x.2 ∧ x.2 < m.parts.length) ∧
   (∃ qa, m.parts[x.1.toNat]? = some qa ∧ qa.shape = sa) ∧ (∃ qb, m.parts[x.2.toNat]? = some qb ∧ qb.shape = sb) ∧
   M X 23 [.agg (mdlA m), .ro (cat ratA s.q) s.q.length false, .int .i64 x.1] = some (.agg [zS (Rat.num (pa.1)), zD (Rat.num (pa.1)), zS (dz (pa.1)), zD (dz (pa.1)), zS (Rat.num (pa.2)), zD (Rat.num (pa.2)), zS (dz (pa.2)), zD (dz (pa.2))]) ∧ M X 23 [.agg (mdlA m), .ro (cat ratA s.q) s.q.length false, .int .i64 x.2] = some (.agg [zS (Rat.num (pb.1)), zD (Rat.num (pb.1)), zS (dz (pb.1)), zD (dz (pb.1)), zS (Rat.num (pb.2)), zD (Rat.num (pb.2)), zS (dz (pb.2)), zD (dz (pb.2))]) ∧
   M X 27 [.agg [zS (Rat.num (pb.1)), zD (Rat.num (pb.1)), zS (dz (pb.1)), zD (dz (pb.1)), zS (Rat.num (pb.2)), zD (Rat.num (pb.2)), zS (dz (pb.2)), zD (dz (pb.2))], .agg [zS (Rat.num (pa.1)), zD (Rat.num (pa.1)), zS (dz (pa.1)), zD (dz (pa.1)), zS (Rat.num (pa.2)), zD (Rat.num (pa.2)), zS (dz (pa.2)), zD (dz (pa.2))]] = some (.agg [zS (Rat.num (rx)), zD (Rat.num (rx)), zS (dz (rx)), zD (dz (rx)), zS (Rat.num (ry)), zD (Rat.num (ry)), zS (dz (ry)), zD (dz (ry))]) ∧
   M X 92 [.ro (ptC sa) sa.length false, .ro (ptC sb) sb.length false] = some (.ro (edC es) es.length false) ∧
   M X 91 [.ro (edC es) es.length false, .agg [zS (Rat.num (rx)), zD (Rat.num (rx)), zS (dz (rx)), zD (dz (rx)), zS (Rat.num (ry)), zD (Rat.num (ry)), zS (dz (ry)), zD (dz (ry))]] = some (.bool (meetV m s x)) := by
 obtain ⟨h1, h2, h3⟩ := pairsV_mem hx
 have ga := getD_some (l := m.parts) (i := x.1.toNat) (by omega) part0
 have gb := getD_some (l := m.parts) (i := x.2.toNat) (by omega) part0
 have oa := hg.part _ (List.mem_of_getElem? ga)
 have ob := hg.part _ (List.mem_of_getElem? gb)
 obtain ⟨r1, r2⟩ := posV_rs hg hs hN (i := x.1) ⟨by omega, by omega⟩
 obtain ⟨r3, r4⟩ := posV_rs hg hs hN (i := x.2) ⟨by omega, by omega⟩
 have l1 := oa.sl
 have l2 := ob.sl
 refine ⟨_, _, posV m s.q x.1, posV m s.q x.2, (posV m s.q x.2).1 - (posV m s.q x.1).1, (posV m s.q x.2).2 - (posV m s.q x.1).2, sidesR (shapeAt m x.1) (shapeAt m x.2), ⟨by omega, by omega⟩, ⟨by omega, by omega⟩, ⟨_, ga, rfl⟩, ⟨_, gb, rfl⟩,
  at_pos hg hs hN ⟨by omega, by omega⟩, at_pos hg hs hN ⟨by omega, by omega⟩, M_27 (by omega),
  M_92 _ _ oa.pts ob.pts oa.s0 ob.s0 (by omega) (by omega), ?_⟩
 have hl := sidesR_len (shapeAt m x.1) (shapeAt m x.2)
 exact M_91 _ (by unfold shapeAt at hl; omega) (sidesR_okE oa.pts ob.pts) (by omega)
theorem dir_facts [SpC] {m : MdlR} {s : StaR} {N : Nat} (hg : GoodM m N) (hs : GoodS m s N) (hN : N < 2 ^ 10) {r : RopeR} (hr : OkRope m N r) {e : Rat × Rat × Rat × Rat} (he : endsV m s r = some e) {d : Dr} (hd : d ∈ r.dirs) :
  ∃ (vx vy q c : Rat), M X 27 [.agg [zS (Rat.num (e.2.2.1)), zD (Rat.num (e.2.2.1)), zS (dz (e.2.2.1)), zD (dz (e.2.2.1)), zS (Rat.num (e.2.2.2)), zD (Rat.num (e.2.2.2)), zS (dz (e.2.2.2)), zD (dz (e.2.2.2))], .agg [zS (Rat.num (e.1)), zD (Rat.num (e.1)), zS (dz (e.1)), zD (dz (e.1)), zS (Rat.num (e.2.1)), zD (Rat.num (e.2.1)), zS (dz (e.2.1)), zD (dz (e.2.1))]] = some (.agg [zS (Rat.num (vx)), zD (Rat.num (vx)), zS (dz (vx)), zD (dz (vx)), zS (Rat.num (vy)), zD (Rat.num (vy)), zS (dz (vy)), zD (dz (vy))]) ∧ M X 96 [.agg [.int .i64 d.1, .int .i64 d.2.1, .int .i64 d.2.2], .agg [zS (Rat.num (vx)), zD (Rat.num (vx)), zS (dz (vx)), zD (dz (vx)), zS (Rat.num (vy)), zD (Rat.num (vy)), zS (dz (vy)), zD (dz (vy))]] = some (.agg [zS (Rat.num (q)), zD (Rat.num (q)), zS (dz (q)), zD (dz (q))]) ∧
   M X 44 [.int .i64 d.2.2, .int .i64 1] = some (.agg [zS (Rat.num (Rat.divInt d.2.2 1)), zD (Rat.num (Rat.divInt d.2.2 1)), zS (dz (Rat.divInt d.2.2 1)), zD (dz (Rat.divInt d.2.2 1))]) ∧ M X 95 [.agg [zS (Rat.num (q)), zD (Rat.num (q)), zS (dz (q)), zD (dz (q))], .agg [zS (Rat.num (Rat.divInt d.2.2 1)), zD (Rat.num (Rat.divInt d.2.2 1)), zS (dz (Rat.divInt d.2.2 1)), zD (dz (Rat.divInt d.2.2 1))]] = some (.agg [zS (Rat.num (c)), zD (Rat.num (c)), zS (dz (c)), zD (dz (c))]) ∧ M X 93 [.agg [zS (Rat.num (c)), zD (Rat.num (c)), zS (dz (c)), zD (dz (c))], .agg [zS (Rat.num (r.len)), zD (Rat.num (r.len)), zS (dz (r.len)), zD (dz (r.len))]] = some (.int .i64 (cmpQ c r.len)) ∧ dirBad e r.len d = decide (0 < cmpQ c r.len) := by
 have rb : RS e.1 (2 ^ 17) ∧ RS e.2.1 (2 ^ 17) ∧ RS e.2.2.1 (2 ^ 17) ∧ RS e.2.2.2 (2 ^ 17) := by
  obtain ⟨a1, a2⟩ := posV_rs hg hs hN hr.a
  have f1 := hr.fx
  have f2 := hr.fy
  have f3 := hr.tx
  have f4 := hr.ty
  unfold endsV at he
  split at he
  ·cases he
  ·split at he
   ·rename_i hb
    split at he
    ·cases he
    ·obtain ⟨b1, b2⟩ := posV_rs hg hs hN ⟨hb, hr.b.2⟩
     cases he
     exact ⟨(inferInstance : RS (_ + _) _).mono (by omega), (inferInstance : RS (_ + _) _).mono (by omega), (inferInstance : RS (_ + _) _).mono (by omega), (inferInstance : RS (_ + _) _).mono (by omega)⟩
   ·cases he
    exact ⟨(inferInstance : RS (_ + _) _).mono (by omega), (inferInstance : RS (_ + _) _).mono (by omega), f3.mono (by omega), f4.mono (by omega)⟩
 obtain ⟨r1, r2, r3, r4⟩ := rb
 obtain ⟨⟨⟨d1, d2⟩, d3, d4⟩, d5, d6⟩ := hr.dirs d hd
 have v1 : RS (e.2.2.1 - e.1) (2 ^ 19) := (inferInstance : RS (_ - _) _).mono (by omega)
 have v2 : RS (e.2.2.2 - e.2.1) (2 ^ 19) := (inferInstance : RS (_ - _) _).mono (by omega)
 have q1 : RS (dotQ d (e.2.2.1 - e.1) (e.2.2.2 - e.2.1)) (2 ^ 19 + 2 ^ 19 + 7) := rs_dot d ⟨by omega, by omega⟩ ⟨by omega, by omega⟩
 have o1 : RS (Rat.divInt d.2.2 1) 3 := rs_divInt (by omega) (nd_lit (by simp only [Bn]; omega)) (nd_lit (by decide))
 have c1 : RS (dotQ d (e.2.2.1 - e.1) (e.2.2.2 - e.2.1) / Rat.divInt d.2.2 1) (2 ^ 21) := (inferInstance : RS (_ / _) _).mono (by omega)
 have fl := hr.len
 exact ⟨e.2.2.1 - e.1, e.2.2.2 - e.2.1, dotQ d (e.2.2.1 - e.1) (e.2.2.2 - e.2.1), dotQ d (e.2.2.1 - e.1) (e.2.2.2 - e.2.1) / Rat.divInt d.2.2 1, M_27 (by omega), M_96 d ⟨by omega, by omega⟩ ⟨by omega, by omega⟩ (by omega), M_44 d.2.2 1 ⟨d5, d6⟩ (by omega), M_95 (by omega), M_93 (by omega), rfl⟩
theorem M_34 [SpC] (m : MdlR) (s : StaR) (N : Nat) (hg : GoodM m N) (hs : GoodS m s N) (hN : N < 2 ^ 10) (ht : 0 ≤ s.tick ∧ s.tick ≤ 1048576) :
  M X 34 [.agg (mdlA m), .agg (staA s)] = some (.int .i64 (fitV m s)) := by
 refine M_of X (fn := Tryz.f34) Tryz.func34 rfl ok_34 mode_34 res_34 _ rfl _ ?_
 intro r hr
 have h1 := hg.dl
 have h2 := hg.pl
 have h3 := hg.rl
 have h4 := hg.sl
 have hql := hs.ql
 have hvl := hs.vl
 have hhl := hs.hl
 have cq := cat_length (f := ratA) s.q
 have cv := cat_length (f := ratA) s.v
 have ch := cat_length (f := boolA) s.here
 have cd := cat_length (f := dofA) m.dofs
 have cp := cat_length (f := partA) m.parts
 have cr := cat_length (f := ropeA) m.ropes
 have nq := numbers_q s.q N (by omega) (by omega) hs.q
 have nv := numbers_q s.v N (by omega) (by omega) hs.v
 have pv := M_31 m s h2 (by omega) hhl
 have ll := liveV_len m s.here
 have lv := M_29 m s.here s.tick (.ro (cat ratA s.q) s.q.length false) (.ro (cat ratA s.v) s.v.length false) false hg.live hhl
 rw [mdlA_eq] at lv
 have cl := cat_length (f := boolA) (liveV m s.here)
 have pm : ∀ x ∈ pairsV m s.here, x ∈ pairsV m s.here := fun _ h => h
 have cpr := ptC_length (pairsV m s.here)
 have plen : (pairsV m s.here).length < 2 ^ 20 := by
  have := pairsK_len m s.here m.parts.length
  have := Nat.mul_le_mul (show m.parts.length ≤ 1023 by omega) (show m.parts.length ≤ 1023 by omega)
  unfold pairsV; omega
 rw [mdlA_eq, staA_eq] at pv
 unfold fitV at hr
 simp (maxSteps := 4000000) (disch := first | omega | (simp only [LL]; omega)) only [go_sem, mdlA_eq, staA_eq, cq, cv, ch, cd, cp, weaks_cat, weaks_ptC, mode_89, mode_29, nq, nv, lv]
 obtain ⟨L, hL⟩ : ∃ L, L = 400 := ⟨_, rfl⟩
 refine W_loop X (fun (k : Nat) t => k ≤ m.dofs.length ∧ (List.range k).any (velBad m s) = false ∧ t.env 2 = .ptr 0 0 ∧ t.env 3 = .ptr 8 0 ∧ t.env 5 = .sl L 0 m.dofs.length none 1 ∧ L < t.next ∧ t.heap L = some (.cells (cat boolA (liveV m s.here)) true false) ∧ t.env 6 = .int .i64 k ∧ 16 ≤ t.next ∧ t.heap 0 = some (.cells (mdlA m) false false) ∧ t.heap 8 = some (.cells (staA s) false false)) (fun k => m.dofs.length - k) ?_ 0 _ ?_
 ·rintro k ⟨env, heap, nx⟩ ⟨hk, hb, g2, g3, g5, gL, eL, g6, hnx, e0, e8⟩
  simp only at g2 g3 g5 gL eL g6 hnx e0 e8
  rw [mdlA_eq] at e0
  rw [staA_eq] at e8
  by_cases hlt : k < m.dofs.length
  ·have hld := cat_drop (f := boolA) (getD_some (l := liveV m s.here) (i := k) (by omega) false)
   rw [boolA_eq] at hld
   simp only [Nat.mul_one] at hld
   have hvk := getD_some (l := s.v) (i := k) (by omega) 0
   have hvd := cat_take (f := ratA) hvk
   rw [ratA_eq] at hvd
   have rv := getD_rs hs.v k (by omega)
   have sg := M_90 (x := s.v.getD k 0) (by omega)
   have hP : velBad m s k = (!(liveV m s.here).getD k false && !decide (cmpQ (s.v.getD k 0) 0 = 0)) := rfl
   have hsucc := anyR_succ (velBad m s) k
   cases hB : velBad m s k with
   | true =>
    have hany := anyR_hit hlt hB
    rw [if_pos hany] at hr
    rw [hB] at hP
    generalize (liveV m s.here).getD k false = b at *
    generalize s.v.getD k 0 = x at *
    generalize cmpQ x 0 = c at *
    cases b with
    | true => simp at hP
    | false =>
     have hc : c ≠ 0 := by intro h; rw [h] at hP; simp at hP
     simp (maxSteps := 4000000) (disch := first | omega | (simp only [LL]; omega)) only [go_sem, g2, g3, g5, eL, g6, e0, e8, ch, cv, cl, ll, hld, hvd, sg]
     rw [hr]
   | false =>
    rw [hb, hB] at hsucc
    rw [hB] at hP
    generalize (liveV m s.here).getD k false = b at *
    generalize s.v.getD k 0 = x at *
    generalize cmpQ x 0 = c at *
    cases b with
    | true =>
     simp (maxSteps := 4000000) (disch := first | omega | (simp only [LL]; omega)) only [go_sem, g2, g3, g5, eL, g6, e0, e8, ch, cv, cl, ll, hld, hvd, sg]
     refine ⟨k + 1, ?_, by omega⟩
     repeat' apply And.intro
     all_goals first | omega | rfl | exact gL | exact eL | exact hsucc | (rw [mdlA_eq]; done) | (rw [staA_eq]; done)
    | false =>
     have hc : c = 0 := by
      apply Classical.byContradiction; intro h
      rw [decide_eq_false h] at hP; simp at hP
     simp (maxSteps := 4000000) (disch := first | omega | (simp only [LL]; omega)) only [go_sem, g2, g3, g5, eL, g6, e0, e8, ch, cv, cl, ll, hld, hvd, sg]
     refine ⟨k + 1, ?_, by omega⟩
     repeat' apply And.intro
     all_goals first | omega | rfl | exact gL | exact eL | exact hsucc | (rw [mdlA_eq]; done) | (rw [staA_eq]; done)
  ·obtain rfl : k = m.dofs.length := by omega
   rw [if_neg (by rw [hb]; decide)] at hr
   simp (maxSteps := 4000000) (disch := first | omega | (simp only [LL]; omega)) only [go_sem, g2, g3, g5, eL, g6, e0, e8, ch, weaks_cat, weaks_ptC, mode_31, pv]
   refine W_loop X (fun (k : Nat) t => k ≤ (pairsV m s.here).length ∧ ((pairsV m s.here).take k).any (meetV m s) = false ∧ t.env 2 = .ptr 0 0 ∧ t.env 3 = .ptr 8 0 ∧ t.env 5 = .sl L 0 m.dofs.length none 1 ∧ L < t.next ∧ t.heap L = some (.cells (cat boolA (liveV m s.here)) true false) ∧ t.env 7 = .ro (ptC (pairsV m s.here)) (pairsV m s.here).length false ∧ t.env 8 = .int .i64 k ∧ 16 ≤ t.next ∧ t.heap 0 = some (.cells (mdlA m) false false) ∧ t.heap 8 = some (.cells (staA s) false false)) (fun k => (pairsV m s.here).length - k) ?_ 0 _ ?_
   ·clear hb g2 g3 g5 gL eL g6 hnx e0 e8 hk
    rintro k ⟨env, heap, nx⟩ ⟨hk, hb, g2, g3, g5, gL, eL, g7, g8, hnx, e0, e8⟩
    simp only at g2 g3 g5 gL eL g7 g8 hnx e0 e8
    rw [mdlA_eq] at e0
    rw [staA_eq] at e8
    by_cases hlt : k < (pairsV m s.here).length
    ·have hgx := getD_some (l := pairsV m s.here) (i := k) hlt (0, 0)
     have hxd := ptC_drop (pairsV m s.here) k hlt
     obtain ⟨sa, sb, pa, pb, rx, ry, es, ⟨x1, x2⟩, ⟨x3, x4⟩, ⟨qa, ga, esa⟩, ⟨qb, gb, esb⟩, w1, w2, w3, w4, w5⟩ := pair_facts hg hs hN (List.mem_of_getElem? hgx)
     have hsucc := any_take_succ (meetV m s) hgx
     have hhit := fun h => any_hit (f := meetV m s) hgx h
     have hda := cat_drop (f := partA) ga
     have hdb := cat_drop (f := partA) gb
     rw [partA_eq, esa] at hda
     rw [partA_eq, esb] at hdb
     have esl := edC_length es
     have psa := ptC_length sa
     have psb := ptC_length sb
     rw [mdlA_eq] at w1 w2
     generalize (pairsV m s.here).getD k (0, 0) = x at *
     cases hB : meetV m s x with
     | true =>
      rw [if_pos (hhit hB)] at hr
      rw [hB] at w5
      clear hhit
      simp (maxSteps := 4000000) (disch := first | omega | (simp only [LL]; omega)) only [go_sem, g2, g3, g5, eL, g7, g8, e0, e8, cp, cpr, hxd, hda, hdb, weaks_cat, weaks_ptC, weaks_edC, w1, w2, w3, w4, w5]
      rw [hr]
     | false =>
      rw [hb, hB] at hsucc
      rw [hB] at w5
      clear hhit
      simp (maxSteps := 4000000) (disch := first | omega | (simp only [LL]; omega)) only [go_sem, g2, g3, g5, eL, g7, g8, e0, e8, cp, cpr, hxd, hda, hdb, weaks_cat, weaks_ptC, weaks_edC, w1, w2, w3, w4, w5]
      refine ⟨k + 1, ?_, by omega⟩
      repeat' apply And.intro
      all_goals first | omega | rfl | exact gL | exact eL | exact hsucc | (rw [mdlA_eq]; done) | (rw [staA_eq]; done) | (rw [mdlA_eq, e0]; done) | (rw [staA_eq, e8]; done)
    ·obtain rfl : k = (pairsV m s.here).length := by omega
     rw [List.take_length] at hb
     rw [if_neg (by rw [hb]; decide)] at hr
     clear cpr plen pv pm
     simp (maxSteps := 4000000) (disch := first | omega | (simp only [LL]; omega)) only [go_sem, g2, g3, g5, eL, g7, g8, e0, e8]
     refine W_loop X (fun (k : Nat) t => k ≤ m.dofs.length ∧ (List.range k).any (dofBad m s) = false ∧ t.env 2 = .ptr 0 0 ∧ t.env 3 = .ptr 8 0 ∧ t.env 5 = .sl L 0 m.dofs.length none 1 ∧ L < t.next ∧ t.heap L = some (.cells (cat boolA (liveV m s.here)) true false) ∧ t.env 12 = .int .i64 k ∧ 16 ≤ t.next ∧ t.heap 0 = some (.cells (mdlA m) false false) ∧ t.heap 8 = some (.cells (staA s) false false)) (fun k => m.dofs.length - k) ?_ 0 _ ?_
     ·clear hb g2 g3 g5 gL eL g7 g8 hnx e0 e8 hk
      rintro k ⟨env, heap, nx⟩ ⟨hk, hb, g2, g3, g5, gL, eL, g12, hnx, e0, e8⟩
      simp only at g2 g3 g5 gL eL g12 hnx e0 e8
      rw [mdlA_eq] at e0
      rw [staA_eq] at e8
      by_cases hlt : k < m.dofs.length
      ·have hld := cat_drop (f := boolA) (getD_some (l := liveV m s.here) (i := k) (by omega) false)
       rw [boolA_eq] at hld
       simp only [Nat.mul_one] at hld
       have hqd := cat_take (f := ratA) (getD_some (l := s.q) (i := k) (by omega) 0)
       rw [ratA_eq] at hqd
       have hgd := getD_some (l := m.dofs) (i := k) hlt dof0
       have hdd := cat_take (f := dofA) hgd
       rw [dofA_eq] at hdd
       have rq := getD_rs hs.q k (by omega)
       obtain ⟨rl, rh⟩ := hg.dof _ (List.mem_of_getElem? hgd)
       have c1 := M_93 (x := s.q.getD k 0) (y := (m.dofs.getD k dof0).lo) (by omega)
       have c2 := M_93 (x := s.q.getD k 0) (y := (m.dofs.getD k dof0).hi) (by omega)
       have hP : dofBad m s k = (((liveV m s.here).getD k false && (m.dofs.getD k dof0).bd) && (decide (cmpQ (s.q.getD k 0) (m.dofs.getD k dof0).lo < 0) || decide (0 < cmpQ (s.q.getD k 0) (m.dofs.getD k dof0).hi))) := rfl
       have hsucc := anyR_succ (dofBad m s) k
       have hhit := fun h => anyR_hit (P := dofBad m s) hlt h
       generalize (liveV m s.here).getD k false = b at *
       generalize s.q.getD k 0 = x at *
       generalize m.dofs.getD k dof0 = d at *
       generalize cmpQ x d.lo = u at *
       generalize cmpQ x d.hi = v at *
       cases hB : dofBad m s k with
       | true =>
        rw [if_pos (hhit hB)] at hr
        rw [hB] at hP
        clear hhit hsucc
        have hP' := hP.symm
        simp only [Bool.and_eq_true, Bool.or_eq_true, decide_eq_true_eq] at hP'
        obtain ⟨⟨rfl, hbd⟩, huv⟩ := hP'
        by_cases hu : u < 0
        ·simp (maxSteps := 4000000) (disch := first | omega | (simp only [LL]; omega)) only [go_sem, g2, g3, g5, eL, g12, e0, e8, cd, cq, cl, ll, hld, hqd, hdd, hbd, c1, c2]
         rw [hr]
        ·have hv : 0 < v := by omega
         simp (maxSteps := 4000000) (disch := first | omega | (simp only [LL]; omega)) only [go_sem, g2, g3, g5, eL, g12, e0, e8, cd, cq, cl, ll, hld, hqd, hdd, hbd, c1, c2]
         rw [hr]
       | false =>
        rw [hb, hB] at hsucc
        rw [hB] at hP
        clear hhit
        cases b with
        | false =>
         simp (maxSteps := 4000000) (disch := first | omega | (simp only [LL]; omega)) only [go_sem, g2, g3, g5, eL, g12, e0, e8, cd, cq, cl, ll, hld, hqd, hdd, c1, c2]
         refine ⟨k + 1, ?_, by omega⟩
         repeat' apply And.intro
         all_goals first | omega | rfl | exact gL | exact eL | exact hsucc | (rw [mdlA_eq]; done) | (rw [staA_eq]; done) | (rw [mdlA_eq, e0]; done) | (rw [staA_eq, e8]; done)
        | true =>
         cases hbd : d.bd with
         | false =>
          simp (maxSteps := 4000000) (disch := first | omega | (simp only [LL]; omega)) only [go_sem, g2, g3, g5, eL, g12, e0, e8, cd, cq, cl, ll, hld, hqd, hdd, hbd, c1, c2]
          refine ⟨k + 1, ?_, by omega⟩
          repeat' apply And.intro
          all_goals first | omega | rfl | exact gL | exact eL | exact hsucc | (rw [mdlA_eq]; done) | (rw [staA_eq]; done) | (rw [mdlA_eq, e0]; done) | (rw [staA_eq, e8]; done)
         | true =>
          rw [hbd] at hP
          have hP' := hP.symm
          simp only [Bool.and_self, Bool.true_and, Bool.or_eq_false_iff, decide_eq_false_iff_not] at hP'
          obtain ⟨hu, hv⟩ := hP'
          simp (maxSteps := 4000000) (disch := first | omega | (simp only [LL]; omega)) only [go_sem, g2, g3, g5, eL, g12, e0, e8, cd, cq, cl, ll, hld, hqd, hdd, hbd, c1, c2]
          refine ⟨k + 1, ?_, by omega⟩
          repeat' apply And.intro
          all_goals first | omega | rfl | exact gL | exact eL | exact hsucc | (rw [mdlA_eq]; done) | (rw [staA_eq]; done) | (rw [mdlA_eq, e0]; done) | (rw [staA_eq, e8]; done)
      ·obtain rfl : k = m.dofs.length := by omega
       rw [if_neg (by rw [hb]; decide)] at hr
       simp (maxSteps := 4000000) (disch := first | omega | (simp only [LL]; omega)) only [go_sem, g2, g3, g5, eL, g12, e0, e8]
       refine W_loop X (fun (k : Nat) t => k ≤ m.ropes.length ∧ (m.ropes.take k).any (ropeBad m s) = false ∧ t.env 2 = .ptr 0 0 ∧ t.env 3 = .ptr 8 0 ∧ t.env 14 = .int .i64 k ∧ 16 ≤ t.next ∧ t.heap 0 = some (.cells (mdlA m) false false) ∧ t.heap 8 = some (.cells (staA s) false false)) (fun k => m.ropes.length - k) ?_ 0 _ ?_
       ·clear hb g2 g3 g5 gL eL g12 hnx e0 e8 hk
        rintro k ⟨env, heap, nx⟩ ⟨hk, hb, g2, g3, g14, hnx, e0, e8⟩
        simp only at g2 g3 g14 hnx e0 e8
        rw [mdlA_eq] at e0
        rw [staA_eq] at e8
        by_cases hlt : k < m.ropes.length
        ·have hgr := List.getElem?_eq_getElem hlt
         have hrd := cat_take (f := ropeA) hgr
         have hor := hg.rope _ (List.mem_of_getElem? hgr)
         have w1 := M_94 m s m.ropes[k] N hg hs hN hor
         have hsucc := any_take_succ (ropeBad m s) hgr
         have hhit := fun h => any_hit (f := ropeBad m s) hgr h
         have hP : ropeBad m s m.ropes[k] = (match endsV m s m.ropes[k] with | none => false | some e => m.ropes[k].dirs.any (dirBad e m.ropes[k].len)) := rfl
         generalize m.ropes[k] = q at *
         have df := fun e he d hd => dir_facts hg hs hN hor (e := e) he (d := d) hd
         rw [mdlA_eq, staA_eq, ropeA_eq] at w1
         rw [ropeA_eq] at hrd
         have hdl := hor.dl
         cases he : endsV m s q with
         | none =>
          rw [he] at w1 hP
          simp only at hP
          rw [hb, hP] at hsucc
          rw [endsA] at w1
          simp (maxSteps := 4000000) (disch := first | omega | (simp only [LL]; omega)) only [go_sem, g2, g3, g14, e0, e8, cr, hrd, weaks_cat, weaks_ptC, w1]
          by_cases hq0 : 0 < q.dirs.length
          ·rw [W_unroll]
           simp (maxSteps := 4000000) (disch := first | omega | (simp only [LL]; omega)) only [go_sem, unQ_normal, unQ_ret, unQ_exit, g2, g3, g14, e0, e8]
           refine ⟨k + 1, ?_, by omega⟩
           repeat' apply And.intro
           all_goals first | omega | rfl | exact gL | exact eL | exact hsucc | (rw [mdlA_eq]; done) | (rw [staA_eq]; done) | (rw [mdlA_eq, e0]; done) | (rw [staA_eq, e8]; done)
          ·rw [W_unroll]
           simp (maxSteps := 4000000) (disch := first | omega | (simp only [LL]; omega)) only [go_sem, unQ_normal, unQ_ret, unQ_exit, g2, g3, g14, e0, e8]
           refine ⟨k + 1, ?_, by omega⟩
           repeat' apply And.intro
           all_goals first | omega | rfl | exact gL | exact eL | exact hsucc | (rw [mdlA_eq]; done) | (rw [staA_eq]; done) | (rw [mdlA_eq, e0]; done) | (rw [staA_eq, e8]; done)
         | some e =>
          rw [he] at w1 hP
          rw [endsA] at w1
          simp only at hP
          have cdr := cat_length (f := dirA) q.dirs
          simp (maxSteps := 4000000) (disch := first | omega | (simp only [LL]; omega)) only [go_sem, g2, g3, g14, e0, e8, cr, hrd, weaks_cat, weaks_ptC, w1]
          refine W_loop X (fun (j : Nat) t => j ≤ q.dirs.length ∧ (q.dirs.take j).any (dirBad e q.len) = false ∧ t.env 2 = .ptr 0 0 ∧ t.env 3 = .ptr 8 0 ∧ t.env 14 = .int .i64 k ∧ t.env 15 = .ptr (nx + 40 + 40) 0 ∧ t.env 16 = .ptr (nx + 40 + 56 + 64) 0 ∧ t.env 17 = .ptr (nx + 40 + 56 + 72) 0 ∧ t.env 18 = .bool true ∧ t.env 19 = .int .i64 j ∧ nx + 40 + 56 + 104 ≤ t.next ∧ t.heap 0 = some (.cells (mdlA m) false false) ∧ t.heap 8 = some (.cells (staA s) false false) ∧
           t.heap (nx + 40 + 40) = some (.cells (ropeA q) false false) ∧ t.heap (nx + 40 + 56 + 64) = some (.cells [zS (Rat.num (e.1)), zD (Rat.num (e.1)), zS (dz (e.1)), zD (dz (e.1)), zS (Rat.num (e.2.1)), zD (Rat.num (e.2.1)), zS (dz (e.2.1)), zD (dz (e.2.1))] false false) ∧ t.heap (nx + 40 + 56 + 72) = some (.cells [zS (Rat.num (e.2.2.1)), zD (Rat.num (e.2.2.1)), zS (dz (e.2.2.1)), zD (dz (e.2.2.1)), zS (Rat.num (e.2.2.2)), zD (Rat.num (e.2.2.2)), zS (dz (e.2.2.2)), zD (dz (e.2.2.2))] false false)) (fun j => q.dirs.length - j) ?_ 0 _ ?_
          ·clear g2 g3 g14 e0 e8
           obtain ⟨nx0, hnx0⟩ : ∃ nx0, nx0 = nx := ⟨_, rfl⟩
           rw [← hnx0] at hnx ⊢
           clear hnx0
           rintro j ⟨env, heap, nx⟩ ⟨hj, hjb, g2, g3, g14, g15, g16, g17, g18, g19, hnx2, e0, e8, f1, f2, f3⟩
           simp only at g2 g3 g14 g15 g16 g17 g18 g19 hnx2 e0 e8 f1 f2 f3
           rw [mdlA_eq] at e0
           rw [staA_eq] at e8
           rw [ropeA_eq] at f1
           by_cases hlt2 : j < q.dirs.length
           ·have hgd := List.getElem?_eq_getElem hlt2
            have hdd := cat_take (f := dirA) hgd
            have hdd2 := cat_drop (f := dirA) hgd
            rw [dirA_eq] at hdd hdd2
            obtain ⟨vx, vy, u, c, y1, y2, y3, y4, y5, y6⟩ := df e he _ (List.mem_of_getElem? hgd)
            have hsu := any_take_succ (dirBad e q.len) hgd
            have hht := fun h => any_hit (f := dirBad e q.len) hgd h
            rw [y6] at hsu hht
            clear y6
            generalize Rat.divInt q.dirs[j].2.2 1 = z at *
            generalize q.dirs[j] = d at *
            generalize cmpQ c q.len = w at *
            by_cases hw : 0 < w
            ·have h0 := hht (decide_eq_true hw)
             rw [h0] at hP
             rw [if_pos (hhit hP)] at hr
             clear hht hhit hsu
             simp (maxSteps := 4000000) (disch := first | omega | (simp only [LL]; omega)) only [go_sem, g2, g3, g14, g15, g16, g17, g18, g19, e0, e8, f1, f2, f3, cdr, hdd, hdd2, y1, y2, y3, y4, y5]
             rw [hr]
            ·rw [hjb, decide_eq_false hw] at hsu
             clear hht
             simp (maxSteps := 4000000) (disch := first | omega | (simp only [LL]; omega)) only [go_sem, g2, g3, g14, g15, g16, g17, g18, g19, e0, e8, f1, f2, f3, cdr, hdd, hdd2, y1, y2, y3, y4, y5]
             refine ⟨j + 1, ?_, by omega⟩
             repeat' apply And.intro
             all_goals first | omega | rfl | exact gL | exact eL | exact hsu | (rw [mdlA_eq]; done) | (rw [staA_eq]; done) | (rw [ropeA_eq]; done) | skip
           ·obtain rfl : j = q.dirs.length := by omega
            rw [List.take_length] at hjb
            rw [hjb] at hP
            rw [hb, hP] at hsucc
            simp (maxSteps := 4000000) (disch := first | omega | (simp only [LL]; omega)) only [go_sem, g2, g3, g14, g15, g16, g17, g18, g19, e0, e8, f1, f2, f3, cdr]
            refine ⟨k + 1, ?_, by omega⟩
            repeat' apply And.intro
            all_goals first | omega | rfl | exact gL | exact eL | exact hsucc | (rw [mdlA_eq]; done) | (rw [staA_eq]; done)
          ·simp (maxSteps := 4000000) (disch := first | omega | (simp only [LL]; omega)) only [go_sem, g2, g3, g14]
           repeat' apply And.intro
           all_goals first | omega | rfl | exact gL | exact eL | (rw [mdlA_eq]; done) | (rw [staA_eq]; done) | (rw [mdlA_eq, e0]; done) | (rw [staA_eq, e8]; done) | (rw [ropeA_eq]; done)
        ·obtain rfl : k = m.ropes.length := by omega
         rw [List.take_length] at hb
         rw [if_neg (by rw [hb]; decide)] at hr
         simp (maxSteps := 4000000) (disch := first | omega | (simp only [LL]; omega)) only [go_sem, g2, g3, g14, e0, e8, cr]
         rw [hr]
       ·simp (maxSteps := 4000000) (disch := first | omega | (simp only [LL]; omega)) only [go_sem, g2, g3]
        repeat' apply And.intro
        all_goals first | omega | rfl | exact gL | exact eL | exact hsucc | (rw [mdlA_eq]; done) | (rw [staA_eq]; done) | (rw [mdlA_eq, e0]; done) | (rw [staA_eq, e8]; done)
     ·simp (maxSteps := 4000000) (disch := first | omega | (simp only [LL]; omega)) only [go_sem, g2, g3, g5, eL]
      repeat' apply And.intro
      all_goals first | omega | rfl | exact gL | exact eL | exact hsucc | (rw [mdlA_eq]; done) | (rw [staA_eq]; done) | (rw [mdlA_eq, e0]; done) | (rw [staA_eq, e8]; done)
   ·simp (maxSteps := 4000000) (disch := first | omega | (simp only [LL]; omega)) only [go_sem, g2, g3, g5, eL]
    repeat' apply And.intro
    all_goals first | omega | rfl | exact gL | exact eL | exact hsucc | (rw [mdlA_eq]; done) | (rw [staA_eq]; done) | (rw [mdlA_eq, e0]; done) | (rw [staA_eq, e8]; done)
 ·subst hL
  simp (maxSteps := 4000000) (disch := first | omega | (simp only [LL]; omega)) only [go_sem]
  repeat' apply And.intro
  all_goals first | omega | rfl | (rw [mdlA_eq]; done) | (rw [staA_eq]; done)
theorem zD_isl (p : Int) : zD p = isl (digs p.natAbs) := rfl
theorem M_88 [SpC] (l : List Int) (hl : l.length < 2 ^ 40) : M X 88 [isl l, isl l] = some (.bool true) := by
 refine M_of X (fn := Tryz.f88) Tryz.func88 rfl ok_88 mode_88 res_88 _ rfl _ ?_
 intro r hr
 simp (maxSteps := 4000000) (disch := first | omega | (simp only [LL]; omega)) only [go_sem]
 refine W_loop X (fun (k : Nat) s => k ≤ l.length ∧ s.env 0 = isl l ∧ s.env 1 = isl l ∧ s.env 12 = .int .i64 l.length ∧ s.env 13 = .int .i64 k) (fun k => l.length - k) ?_ 0 _ ?_
 ·rintro k ⟨env, heap, nx⟩ ⟨hk, g0, g1, g12, g13⟩
  simp only at g0 g1 g12 g13
  by_cases h1 : k < l.length
  ·generalize hx : l.getD k 0 = x
   simp (maxSteps := 4000000) (disch := first | omega | (simp only [LL]; omega)) only [go_sem, g0, g1, g12, g13, hx]
   exact ⟨k + 1, ⟨by omega, rfl⟩, by omega⟩
  ·obtain rfl : k = l.length := by omega
   simp (maxSteps := 4000000) (disch := first | omega | (simp only [LL]; omega)) only [go_sem, g0, g1, g12, g13]
   rw [hr]
 ·simp (maxSteps := 4000000) (disch := first | omega | (simp only [LL]; omega)) only [go_sem]
theorem M_86 [SpC] (b : Bool) (l : List Int) (hl : l.length < 2 ^ 40) : M X 86 [.agg [.bool b, isl l], .agg [.bool b, isl l]] = some (.bool true) := by
 refine M_of X (fn := Tryz.f86) Tryz.func86 rfl ok_86 mode_86 res_86 _ rfl _ ?_
 intro r hr
 have hbb : (b == b) = true := by simp
 simp (maxSteps := 4000000) (disch := first | omega | (simp only [LL]; omega)) only [go_sem, hbb]
 refine W_loop X (fun (k : Nat) s => k ≤ l.length ∧ s.env 2 = .ptr 0 0 ∧ s.env 3 = .ptr 8 0 ∧ s.env 5 = .int .i64 k ∧ s.heap 0 = some (.cells [.bool b, isl l] false false) ∧ s.heap 8 = some (.cells [.bool b, isl l] false false)) (fun k => l.length - k) ?_ 0 _ ?_
 ·rintro k ⟨env, heap, nx⟩ ⟨hk, g2, g3, g5, e0, e8⟩
  simp only at g2 g3 g5 e0 e8
  by_cases h1 : k < l.length
  ·generalize hx : l.getD k 0 = x
   simp (maxSteps := 4000000) (disch := first | omega | (simp only [LL]; omega)) only [go_sem, g2, g3, g5, e0, e8, hx]
   exact ⟨k + 1, ⟨by omega, rfl⟩, by omega⟩
  ·obtain rfl : k = l.length := by omega
   simp (maxSteps := 4000000) (disch := first | omega | (simp only [LL]; omega)) only [go_sem, g2, g3, g5, e0, e8]
   rw [hr]
 ·simp (maxSteps := 4000000) (disch := first | omega | (simp only [LL]; omega)) only [go_sem]
theorem M_87 [SpC] (b : Bool) (l : List Int) (hl : l.length < 2 ^ 40) : M X 87 [.agg [.bool b, isl l], .agg [.bool b, isl l]] = some (.bool true) := by
 refine M_of X (fn := Tryz.f87) Tryz.func87 rfl ok_87 mode_87 res_87 _ rfl _ ?_
 intro r hr
 have hbb : (b == b) = true := by simp
 have w := M_88 l hl
 simp (maxSteps := 4000000) (disch := first | omega | (simp only [LL]; omega)) only [go_sem, hbb, w]
 rw [hr]
theorem same4 [SpC] (p : Int) (h : nd p < 2 ^ 30) : M X 86 [.agg [zS p, zD p], .agg [zS p, zD p]] = some (.bool true) := M_86 (decide (p < 0)) (digs p.natAbs) (by rw [nd] at h; omega)
theorem sameP [SpC] (p : Int) (h : nd p < 2 ^ 30) : M X 87 [.agg [zS p, zD p], .agg [zS p, zD p]] = some (.bool true) := M_87 (decide (p < 0)) (digs p.natAbs) (by rw [nd] at h; omega)
theorem nd_dz {x : Rat} {n : Nat} (h : RS x n) (hn : 1 ≤ n) : nd (dz x) ≤ n := by
 have h2 := h.den
 by_cases hd : x.den = 1
 ·rw [dz_one hd, nd_zero 0 rfl]; omega
 ·rw [dz_ne hd]; omega
theorem M_25 [SpC] {x : Rat} {n : Nat} [h : RS x n] (hn : n < 2 ^ 28) : M X 25 [.agg [zS (Rat.num (x)), zD (Rat.num (x)), zS (dz (x)), zD (dz (x))], .agg [zS (Rat.num (x)), zD (Rat.num (x)), zS (dz (x)), zD (dz (x))]] = some (.bool true) := by
 refine M_of X (fn := Tryz.f25) Tryz.func25 rfl ok_25 mode_25 res_25 _ rfl _ ?_
 intro r hr
 have w1 := same4 x.num (by have := h.num; omega)
 have w2 := same4 (dz x) (by have := nd_dz (h.mono (show n ≤ n + 1 by omega)) (by omega); omega)
 simp (maxSteps := 4000000) (disch := first | omega | (simp only [LL]; omega)) only [go_sem, w1, w2]
 rw [hr]
theorem M_26 [SpC] {x : Rat} {n : Nat} [h : RS x n] (hn : n < 2 ^ 28) : M X 26 [.agg [zS (Rat.num (x)), zD (Rat.num (x)), zS (dz (x)), zD (dz (x))], .agg [zS (Rat.num (x)), zD (Rat.num (x)), zS (dz (x)), zD (dz (x))]] = some (.bool true) := by
 refine M_of X (fn := Tryz.f26) Tryz.func26 rfl ok_26 mode_26 res_26 _ rfl _ ?_
 intro r hr
 have w1 := sameP x.num (by have := h.num; omega)
 have w2 := sameP (dz x) (by have := nd_dz (h.mono (show n ≤ n + 1 by omega)) (by omega); omega)
 simp (maxSteps := 4000000) (disch := first | omega | (simp only [LL]; omega)) only [go_sem, mode_87, w1, w2]
 rw [hr]
theorem M_24 [SpC] {x y : Rat} {n k : Nat} [RS x n] [RS y k] (hn : n < 2 ^ 28) (hk : k < 2 ^ 28) : M X 24 [.agg [zS (Rat.num (x)), zD (Rat.num (x)), zS (dz (x)), zD (dz (x)), zS (Rat.num (y)), zD (Rat.num (y)), zS (dz (y)), zD (dz (y))], .agg [zS (Rat.num (x)), zD (Rat.num (x)), zS (dz (x)), zD (dz (x))], .agg [zS (Rat.num (y)), zD (Rat.num (y)), zS (dz (y)), zD (dz (y))]] = some (.bool true) := by
 refine M_of X (fn := Tryz.f24) Tryz.func24 rfl ok_24 mode_24 res_24 _ rfl _ ?_
 intro r hr
 have w1 := M_25 (x := x) hn
 have w2 := M_25 (x := y) hk
 simp (maxSteps := 4000000) (disch := first | omega | (simp only [LL]; omega)) only [go_sem, w1, w2]
 rw [hr]
theorem M_68 [SpC] (n : Int) (hn : -1000 < n ∧ n < 1000) : M X 68 [.int .i64 n] = some (.agg [zS (Rat.num (Rat.divInt n 1)), zD (Rat.num (Rat.divInt n 1)), zS (dz (Rat.divInt n 1)), zD (dz (Rat.divInt n 1))]) := by
 refine M_of X (fn := Tryz.f68) Tryz.func68 rfl ok_68 mode_68 res_68 _ rfl _ ?_
 intro r hr
 have o := M_44 n 1 (by omega) (by omega)
 simp (maxSteps := 4000000) (disch := first | omega | (simp only [LL]; omega)) only [go_sem, o]
 rw [hr]
theorem M_28 [SpC] (l : List Bool) (hl : l.length < 2 ^ 30) : M X 28 [.ro (cat boolA l) l.length false, .ro (cat boolA l) l.length false] = some (.bool true) := by
 refine M_of X (fn := Tryz.f28) Tryz.func28 rfl ok_28 mode_28 res_28 _ rfl _ ?_
 intro r hr
 have cl := cat_length (f := boolA) l
 simp only [Nat.mul_one] at cl
 simp (maxSteps := 4000000) (disch := first | omega | (simp only [LL]; omega)) only [go_sem, cl]
 refine W_loop X (fun (k : Nat) s => k ≤ l.length ∧ s.env 0 = .ro (cat boolA l) l.length false ∧ s.env 1 = .ro (cat boolA l) l.length false ∧ s.env 5 = .int .i64 k) (fun k => l.length - k) ?_ 0 _ ?_
 ·rintro k ⟨env, heap, nx⟩ ⟨hk, g0, g1, g5⟩
  simp only at g0 g1 g5
  by_cases h1 : k < l.length
  ·have hd := cat_drop (f := boolA) (getD_some (l := l) (i := k) h1 false)
   rw [boolA_eq] at hd
   simp only [Nat.mul_one] at hd
   generalize l.getD k false = b at *
   have hbb : (b == b) = true := by simp
   simp (maxSteps := 4000000) (disch := first | omega | (simp only [LL]; omega)) only [go_sem, g0, g1, g5, cl, hd, hbb]
   exact ⟨k + 1, ⟨by omega, rfl⟩, by omega⟩
  ·obtain rfl : k = l.length := by omega
   simp (maxSteps := 4000000) (disch := first | omega | (simp only [LL]; omega)) only [go_sem, g0, g1, g5, cl]
   rw [hr]
 ·simp (maxSteps := 4000000) (disch := first | omega | (simp only [LL]; omega)) only [go_sem]
theorem M_30 [SpC] (l : List Pt) (hl : l.length < 2 ^ 30) : M X 30 [.ro (ptC l) l.length false, .ro (ptC l) l.length false] = some (.bool true) := by
 refine M_of X (fn := Tryz.f30) Tryz.func30 rfl ok_30 mode_30 res_30 _ rfl _ ?_
 intro r hr
 have cl := ptC_length l
 simp (maxSteps := 4000000) (disch := first | omega | (simp only [LL]; omega)) only [go_sem, cl]
 refine W_loop X (fun (k : Nat) s => k ≤ l.length ∧ s.env 0 = .ro (ptC l) l.length false ∧ s.env 1 = .ro (ptC l) l.length false ∧ s.env 5 = .int .i64 k) (fun k => l.length - k) ?_ 0 _ ?_
 ·rintro k ⟨env, heap, nx⟩ ⟨hk, g0, g1, g5⟩
  simp only at g0 g1 g5
  by_cases h1 : k < l.length
  ·have hd := ptC_take l k h1
   generalize l.getD k (0, 0) = b at *
   simp (maxSteps := 4000000) (disch := first | omega | (simp only [LL]; omega)) only [go_sem, g0, g1, g5, cl, hd]
   exact ⟨k + 1, ⟨by omega, rfl⟩, by omega⟩
  ·obtain rfl : k = l.length := by omega
   simp (maxSteps := 4000000) (disch := first | omega | (simp only [LL]; omega)) only [go_sem, g0, g1, g5, cl]
   rw [hr]
 ·simp (maxSteps := 4000000) (disch := first | omega | (simp only [LL]; omega)) only [go_sem]
theorem idx_int [SpC] (G : Nat) (hm : X.mode G = .ro) (P : Int → Bool) (l : List (Int)) (hc : ∀ e ∈ l, M X G [.int .i64 e] = some (.bool (P e))) (hl : l.length < 2 ^ 30) :
  ∃ z : Int, M X 249 [isl l, .func (.func G) [] []] = some (.int .i64 z) ∧ decide (0 ≤ z) = l.any P := by
 suffices h : ∃ r, (∃ z : Int, r = .int .i64 z ∧ decide (0 ≤ z) = l.any P) ∧ M X 249 [isl l, .func (.func G) [] []] = some r by
  obtain ⟨r, ⟨z, rfl, h1⟩, h2⟩ := h
  exact ⟨z, h2, h1⟩
 refine M_ex (fn := Tryz.f249) Tryz.func249 rfl ok_249 mode_249 res_249 _ rfl _ ?_
 have hl2 := hl
 simp (maxSteps := 4000000) (disch := first | omega | (simp only [LL]; omega)) only [go_sem, hl2]
 refine W_loop X (fun (k : Nat) s => k ≤ l.length ∧ (∀ j e, j < k → l[j]? = some e → P e = false) ∧ s.env 0 = isl l ∧ s.env 1 = .func (.func G) [] [] ∧ s.env 7 = .int .i64 l.length ∧ s.env 8 = .int .i64 k) (fun k => l.length - k) ?_ 0 _ ?_
 ·rintro k ⟨env, heap, nx⟩ ⟨hk, hj, g0, g1, g7, g8⟩
  simp only at g0 g1 g7 g8
  by_cases h1 : k < l.length
  ·have hn := List.getElem?_eq_getElem h1
   have hd : l.getD k 0 = l[k] := by rw [List.getD_eq_getElem?_getD, hn, Option.getD_some]
   have hmem : l[k] ∈ l := List.getElem_mem h1
   have hv := hc _ hmem
   by_cases h2 : P l[k] = true
   ·rw [h2] at hv
    have hany : l.any P = true := List.any_eq_true.2 ⟨_, hmem, h2⟩
    generalize l[k] = e at *
    simp (maxSteps := 4000000) (disch := first | omega | (simp only [LL]; omega)) only [go_sem, hl2, hd, g0, g1, g7, g8, hm, hv, weak_rptr]
    exact ⟨_, rfl, by rw [hany]; exact decide_eq_true (by omega)⟩
   ·simp only [Bool.not_eq_true] at h2
    rw [h2] at hv
    have hj' : ∀ j e, j < k + 1 → l[j]? = some e → P e = false := by
     intro j e h3 h4
     rcases Nat.lt_or_ge j k with h5 | h5
     ·exact hj j e h5 h4
     ·obtain rfl : j = k := by omega
      rw [hn] at h4; cases h4; exact h2
    clear hj
    generalize l[k] = e at *
    simp (maxSteps := 4000000) (disch := first | omega | (simp only [LL]; omega)) only [go_sem, hl2, hd, g0, g1, g7, g8, hm, hv, weak_rptr]
    exact ⟨k + 1, ⟨by omega, hj', rfl⟩, by omega⟩
  ·have hany : l.any P = false := by
    rw [List.any_eq_false]
    intro e he
    obtain ⟨j, h3, rfl⟩ := List.getElem_of_mem he
    have := hj j _ (by omega) (List.getElem?_eq_getElem h3)
    simpa using this
   clear hj
   simp (maxSteps := 4000000) (disch := first | omega | (simp only [LL]; omega)) only [go_sem, hl2, g0, g1, g7, g8]
   exact ⟨_, rfl, by rw [hany]; rfl⟩
 ·simp (maxSteps := 4000000) (disch := first | omega | (simp only [LL]; omega)) only [go_sem]
  exact fun j e h => absurd h (Nat.not_lt_zero j)
theorem con_int [SpC] (G : Nat) (hm : X.mode G = .ro) (P : Int → Bool) (l : List (Int)) (hc : ∀ e ∈ l, M X G [.int .i64 e] = some (.bool (P e))) (hl : l.length < 2 ^ 30) :
  M X 234 [isl l, .func (.func G) [] []] = some (.bool (l.any P)) := by
 refine M_of X (fn := Tryz.f234) Tryz.func234 rfl ok_234 mode_234 res_234 _ rfl _ ?_
 intro r hr
 obtain ⟨z, h1, h2⟩ := idx_int G hm P l hc hl
 have hl2 := hl
 simp (maxSteps := 4000000) (disch := first | omega | (simp only [LL]; omega)) only [go_sem, hl2, weaks_ints, weak_rptr, mode_249, h1]
 rw [hr, h2]
theorem idx_nm [SpC] (G : Nat) (hm : X.mode G = .ro) (P : Nm → Bool) (l : List (Nm)) (hc : ∀ e ∈ l, M X G [.agg (nmA e)] = some (.bool (P e))) (hl : l.length < 2 ^ 30) (g : Bool) :
  ∃ z : Int, M X 188 [.ro (cat nmA l) l.length g, .func (.func G) [] []] = some (.int .i64 z) ∧ decide (0 ≤ z) = l.any P := by
 suffices h : ∃ r, (∃ z : Int, r = .int .i64 z ∧ decide (0 ≤ z) = l.any P) ∧ M X 188 [.ro (cat nmA l) l.length g, .func (.func G) [] []] = some r by
  obtain ⟨r, ⟨z, rfl, h1⟩, h2⟩ := h
  exact ⟨z, h2, h1⟩
 refine M_ex (fn := Tryz.f188) Tryz.func188 rfl ok_188 mode_188 res_188 _ rfl _ ?_
 have hl2 := cat_length (f := nmA) l
 simp (maxSteps := 4000000) (disch := first | omega | (simp only [LL]; omega)) only [go_sem, hl2]
 refine W_loop X (fun (k : Nat) s => k ≤ l.length ∧ (∀ j e, j < k → l[j]? = some e → P e = false) ∧ s.env 0 = .ro (cat nmA l) l.length g ∧ s.env 1 = .func (.func G) [] [] ∧ s.env 7 = .int .i64 l.length ∧ s.env 8 = .int .i64 k) (fun k => l.length - k) ?_ 0 _ ?_
 ·rintro k ⟨env, heap, nx⟩ ⟨hk, hj, g0, g1, g7, g8⟩
  simp only at g0 g1 g7 g8
  by_cases h1 : k < l.length
  ·have hn := List.getElem?_eq_getElem h1
   have hd := cat_take (f := nmA) hn
   have hmem : l[k] ∈ l := List.getElem_mem h1
   have hv := hc _ hmem
   by_cases h2 : P l[k] = true
   ·rw [h2] at hv
    have hany : l.any P = true := List.any_eq_true.2 ⟨_, hmem, h2⟩
    generalize l[k] = e at *
    have hwe := weaks_enc (f := nmA) e
    simp (maxSteps := 4000000) (disch := first | omega | (simp only [LL]; omega)) only [go_sem, hl2, hd, g0, g1, g7, g8, hm, hv, weak_rptr, hwe, snaps_enc]
    exact ⟨_, rfl, by rw [hany]; exact decide_eq_true (by omega)⟩
   ·simp only [Bool.not_eq_true] at h2
    rw [h2] at hv
    have hj' : ∀ j e, j < k + 1 → l[j]? = some e → P e = false := by
     intro j e h3 h4
     rcases Nat.lt_or_ge j k with h5 | h5
     ·exact hj j e h5 h4
     ·obtain rfl : j = k := by omega
      rw [hn] at h4; cases h4; exact h2
    clear hj
    generalize l[k] = e at *
    have hwe := weaks_enc (f := nmA) e
    simp (maxSteps := 4000000) (disch := first | omega | (simp only [LL]; omega)) only [go_sem, hl2, hd, g0, g1, g7, g8, hm, hv, weak_rptr, hwe, snaps_enc]
    exact ⟨k + 1, ⟨by omega, hj', rfl⟩, by omega⟩
  ·have hany : l.any P = false := by
    rw [List.any_eq_false]
    intro e he
    obtain ⟨j, h3, rfl⟩ := List.getElem_of_mem he
    have := hj j _ (by omega) (List.getElem?_eq_getElem h3)
    simpa using this
   clear hj
   simp (maxSteps := 4000000) (disch := first | omega | (simp only [LL]; omega)) only [go_sem, hl2, g0, g1, g7, g8]
   exact ⟨_, rfl, by rw [hany]; rfl⟩
 ·simp (maxSteps := 4000000) (disch := first | omega | (simp only [LL]; omega)) only [go_sem]
  exact fun j e h => absurd h (Nat.not_lt_zero j)
theorem con_nm [SpC] (G : Nat) (hm : X.mode G = .ro) (P : Nm → Bool) (l : List (Nm)) (hc : ∀ e ∈ l, M X G [.agg (nmA e)] = some (.bool (P e))) (hl : l.length < 2 ^ 30) (g : Bool) :
  M X 122 [.ro (cat nmA l) l.length g, .func (.func G) [] []] = some (.bool (l.any P)) := by
 refine M_of X (fn := Tryz.f122) Tryz.func122 rfl ok_122 mode_122 res_122 _ rfl _ ?_
 intro r hr
 obtain ⟨z, h1, h2⟩ := idx_nm G hm P l hc hl false
 have hl2 := cat_length (f := nmA) l
 simp (maxSteps := 4000000) (disch := first | omega | (simp only [LL]; omega)) only [go_sem, hl2, weaks_cat, weak_rptr, mode_188, h1]
 rw [hr, h2]
theorem idx_dir2 [SpC] (G : Nat) (hm : X.mode G = .ro) (cs0 : List AV) (hw0 : AV.weak.go cs0 = cs0) (cs1 : List AV) (hw1 : AV.weak.go cs1 = cs1) (P : Dr → Bool) (l : List (Dr)) (hc : ∀ e ∈ l, M X G [.agg (dirA e), .rptr cs0, .rptr cs1] = some (.bool (P e))) (hl : l.length < 2 ^ 30) (g : Bool) :
  ∃ z : Int, M X 207 [.ro (cat dirA l) l.length g, .func (.func G) [] [.rptr cs0, .rptr cs1]] = some (.int .i64 z) ∧ decide (0 ≤ z) = l.any P := by
 suffices h : ∃ r, (∃ z : Int, r = .int .i64 z ∧ decide (0 ≤ z) = l.any P) ∧ M X 207 [.ro (cat dirA l) l.length g, .func (.func G) [] [.rptr cs0, .rptr cs1]] = some r by
  obtain ⟨r, ⟨z, rfl, h1⟩, h2⟩ := h
  exact ⟨z, h2, h1⟩
 refine M_ex (fn := Tryz.f207) Tryz.func207 rfl ok_207 mode_207 res_207 _ rfl _ ?_
 have hl2 := cat_length (f := dirA) l
 simp (maxSteps := 4000000) (disch := first | omega | (simp only [LL]; omega)) only [go_sem, hl2]
 refine W_loop X (fun (k : Nat) s => k ≤ l.length ∧ (∀ j e, j < k → l[j]? = some e → P e = false) ∧ s.env 0 = .ro (cat dirA l) l.length g ∧ s.env 1 = .func (.func G) [] [.rptr cs0, .rptr cs1] ∧ s.env 7 = .int .i64 l.length ∧ s.env 8 = .int .i64 k) (fun k => l.length - k) ?_ 0 _ ?_
 ·rintro k ⟨env, heap, nx⟩ ⟨hk, hj, g0, g1, g7, g8⟩
  simp only at g0 g1 g7 g8
  by_cases h1 : k < l.length
  ·have hn := List.getElem?_eq_getElem h1
   have hd := cat_take (f := dirA) hn
   have hmem : l[k] ∈ l := List.getElem_mem h1
   have hv := hc _ hmem
   by_cases h2 : P l[k] = true
   ·rw [h2] at hv
    have hany : l.any P = true := List.any_eq_true.2 ⟨_, hmem, h2⟩
    generalize l[k] = e at *
    have hwe := weaks_enc (f := dirA) e
    simp (maxSteps := 4000000) (disch := first | omega | (simp only [LL]; omega)) only [go_sem, hl2, hd, g0, g1, g7, g8, hm, hv, weak_rptr, hw0, hw1, hwe, snaps_enc]
    exact ⟨_, rfl, by rw [hany]; exact decide_eq_true (by omega)⟩
   ·simp only [Bool.not_eq_true] at h2
    rw [h2] at hv
    have hj' : ∀ j e, j < k + 1 → l[j]? = some e → P e = false := by
     intro j e h3 h4
     rcases Nat.lt_or_ge j k with h5 | h5
     ·exact hj j e h5 h4
     ·obtain rfl : j = k := by omega
      rw [hn] at h4; cases h4; exact h2
    clear hj
    generalize l[k] = e at *
    have hwe := weaks_enc (f := dirA) e
    simp (maxSteps := 4000000) (disch := first | omega | (simp only [LL]; omega)) only [go_sem, hl2, hd, g0, g1, g7, g8, hm, hv, weak_rptr, hw0, hw1, hwe, snaps_enc]
    exact ⟨k + 1, ⟨by omega, hj', rfl⟩, by omega⟩
  ·have hany : l.any P = false := by
    rw [List.any_eq_false]
    intro e he
    obtain ⟨j, h3, rfl⟩ := List.getElem_of_mem he
    have := hj j _ (by omega) (List.getElem?_eq_getElem h3)
    simpa using this
   clear hj
   simp (maxSteps := 4000000) (disch := first | omega | (simp only [LL]; omega)) only [go_sem, hl2, g0, g1, g7, g8]
   exact ⟨_, rfl, by rw [hany]; rfl⟩
 ·simp (maxSteps := 4000000) (disch := first | omega | (simp only [LL]; omega)) only [go_sem]
  exact fun j e h => absurd h (Nat.not_lt_zero j)
theorem con_dir2 [SpC] (G : Nat) (hm : X.mode G = .ro) (cs0 : List AV) (hw0 : AV.weak.go cs0 = cs0) (cs1 : List AV) (hw1 : AV.weak.go cs1 = cs1) (P : Dr → Bool) (l : List (Dr)) (hc : ∀ e ∈ l, M X G [.agg (dirA e), .rptr cs0, .rptr cs1] = some (.bool (P e))) (hl : l.length < 2 ^ 30) (g : Bool) :
  M X 148 [.ro (cat dirA l) l.length g, .func (.func G) [] [.rptr cs0, .rptr cs1]] = some (.bool (l.any P)) := by
 refine M_of X (fn := Tryz.f148) Tryz.func148 rfl ok_148 mode_148 res_148 _ rfl _ ?_
 intro r hr
 obtain ⟨z, h1, h2⟩ := idx_dir2 G hm cs0 hw0 cs1 hw1 P l hc hl false
 have hl2 := cat_length (f := dirA) l
 simp (maxSteps := 4000000) (disch := first | omega | (simp only [LL]; omega)) only [go_sem, hl2, weaks_cat, weak_rptr, hw0, hw1, mode_207, h1]
 rw [hr, h2]
theorem M_235 [SpC] (d : Int) : M X 235 [.int .i64 d] = some (.bool (!decide (0 ≤ d ∧ d < 1000000000))) := by
 refine M_of X (fn := Tryz.f235) Tryz.func235 rfl ok_235 mode_235 res_235 _ rfl _ ?_
 intro r hr
 rw [hr]
 by_cases h1 : d < 0
 ·have e : decide (0 ≤ d ∧ d < 1000000000) = false := decide_eq_false (by omega)
  simp (maxSteps := 4000000) (disch := first | omega | (simp only [LL]; omega)) only [go_sem, e, Bool.not_false]
 ·by_cases h2 : 1000000000 ≤ d
  ·have e : decide (0 ≤ d ∧ d < 1000000000) = false := decide_eq_false (by omega)
   simp (maxSteps := 4000000) (disch := first | omega | (simp only [LL]; omega)) only [go_sem, e, Bool.not_false]
  ·have e : decide (0 ≤ d ∧ d < 1000000000) = true := decide_eq_true (by omega)
   simp (maxSteps := 4000000) (disch := first | omega | (simp only [LL]; omega)) only [go_sem, e, Bool.not_true]
theorem any_dig (l : List Int) : l.any (fun d => !decide (0 ≤ d ∧ d < 1000000000)) = !okDig l := by
 unfold okDig
 rw [List.any_eq_not_all_not]
 congr 1
 congr 1
 funext d
 simp
theorem M_189 [SpC] (b : Bool) (l : List Int) (hl : l.length < 2 ^ 30) : M X 189 [.agg [.bool b, isl l]] = some (.bool (validI b l)) := by
 refine M_of X (fn := Tryz.f189) Tryz.func189 rfl ok_189 mode_189 res_189 _ rfl _ ?_
 intro r hr
 have c1 := con_int 235 mode_235 _ l (fun d _ => M_235 d) hl
 rw [any_dig] at c1
 unfold validI at hr
 by_cases h0 : okDig l = true
 ·rw [h0] at c1 hr
  simp only [Bool.not_true, Bool.true_and] at c1 hr
  by_cases h2 : l.length = 0
  ·rw [if_pos h2] at hr
   cases b <;> (simp (maxSteps := 4000000) (disch := first | omega | (simp only [LL]; omega)) only [go_sem, c1, h2]; rw [hr]; rfl)
  ·rw [if_neg h2] at hr
   have u : ((l.length - 1 : Nat) : Int) = (l.length : Int) - 1 := by omega
   generalize hd : l.getD (l.length - 1) 0 = d at hr
   simp (maxSteps := 4000000) (disch := first | omega | (simp only [LL]; omega)) only [go_sem, c1, hd]
   rw [hr]
   by_cases hd0 : d = 0 <;> simp [hd0]
 ·simp only [Bool.not_eq_true] at h0
  rw [h0] at c1 hr
  simp only [Bool.not_false, Bool.false_and] at c1 hr
  simp (maxSteps := 4000000) (disch := first | omega | (simp only [LL]; omega)) only [go_sem, c1]
  rw [hr]
theorem valid_zi [SpC] (p : Int) (hp : nd p < 2 ^ 28) : M X 189 [.agg [zS p, zD p]] = some (.bool true) := by
 have := M_189 (decide (p < 0)) (digs p.natAbs) (by rw [nd] at hp; omega)
 rw [validI_z] at this
 exact this
theorem pvalid_pq [SpC] (p q : Int) (hp : nd p < 2 ^ 26) (hq : nd q < 2 ^ 26) : M X 124 [.agg [zS p, zD p, zS q, zD q]] = some (.bool (validQ p q)) := by
 refine M_of X (fn := Tryz.f124) Tryz.func124 rfl ok_124 mode_124 res_124 _ rfl _ ?_
 intro r hr
 have v1 := valid_zi p (by omega)
 have v2 := valid_zi q (by omega)
 have o1 := M_160 q (by omega)
 by_cases h1 : q < 0
 ·have e : validQ p q = false := decide_eq_false (by omega)
  have z := zS_neg q h1
  rw [z] at v2 ⊢
  simp (maxSteps := 4000000) (disch := first | omega | (simp only [LL]; omega)) only [go_sem, v1, v2]
  rw [hr, e]
 ·have z := zS_pos q (by omega)
  rw [z] at v2 o1 ⊢
  by_cases h2 : q = 1
  ·have e : validQ p q = false := decide_eq_false (by omega)
   rw [decide_eq_true h2] at o1
   simp (maxSteps := 4000000) (disch := first | omega | (simp only [LL]; omega)) only [go_sem, v1, v2, o1]
   rw [hr, e]
  ·rw [decide_eq_false h2] at o1
   by_cases h3 : q = 0
   ·have e : validQ p q = true := decide_eq_true ⟨by omega, h2, .inl h3⟩
    have n0 := nd_zero q h3
    simp (maxSteps := 4000000) (disch := first | omega | (simp only [LL]; omega)) only [go_sem, v1, v2, o1, n0]
    rw [hr, e]
   ·have np := nd_pos q h3
    have e : validQ p q = decide (Int.gcd p q = 1) := by
     unfold validQ
     by_cases h4 : Int.gcd p q = 1
     ·rw [decide_eq_true h4]; exact decide_eq_true ⟨by omega, h2, .inr h4⟩
     ·rw [decide_eq_false h4]; exact decide_eq_false (by omega)
    have g1 := M_159 p q (by omega) (by omega)
    rw [z] at g1
    have hle : nd (Int.gcd p q : Int) ≤ nd q := nd_mono (by
     rw [Int.natAbs_natCast]
     exact Nat.le_of_dvd (by omega) (Int.gcd_dvd_natAbs_right p q))
    have o2 := M_160 (Int.gcd p q : Int) (by omega)
    have e2 : decide ((Int.gcd p q : Int) = 1) = decide (Int.gcd p q = 1) := by congr 1; exact propext (by omega)
    rw [e2] at o2
    generalize Int.gcd p q = g at *
    simp (maxSteps := 4000000) (disch := first | omega | (simp only [LL]; omega)) only [go_sem, v1, v2, o1, g1, o2]
    rw [hr, e]
theorem pvalid_bad [SpC] : M X 124 [.agg [.bool false, .ro [.int .i64 0] 1 false, zS 2, zD 2]] = some (.bool false) := by
 refine M_of X (fn := Tryz.f124) Tryz.func124 rfl ok_124 mode_124 res_124 _ rfl _ ?_
 intro r hr
 have v1 : M X 189 [.agg [.bool false, .ro [.int .i64 0] 1 false]] = some (.bool false) := M_189 false [0] (by decide)
 simp (maxSteps := 4000000) (disch := first | omega | (simp only [LL]; omega)) only [go_sem, v1]
 rw [hr]
theorem M_124 [SpC] (n : Nm) (h : nmB n) : M X 124 [.agg [n.c1, n.c2, n.c3, n.c4]] = some (.bool n.ok) := by
 cases n with
 | z p q => exact pvalid_pq p q (by have := h.1; omega) (by have := h.2; omega)
 | bad => exact pvalid_bad
theorem M_123 [SpC] (n : Nm) (h : nmB n) : M X 123 [.agg [n.c1, n.c2, n.c3, n.c4]] = some (.bool (!n.ok)) := by
 refine M_of X (fn := Tryz.f123) Tryz.func123 rfl ok_123 mode_123 res_123 _ rfl _ ?_
 intro r hr
 have v := M_124 n h
 simp (maxSteps := 4000000) (disch := first | omega | (simp only [LL]; omega)) only [go_sem, v]
 rw [hr]
theorem M_54 [SpC] (l : List Nm) (hl : l.length < 2 ^ 30) (h : ∀ n ∈ l, nmB n) : M X 54 [.ro (cat nmA l) l.length false] = some (.bool (l.all Nm.ok)) := by
 refine M_of X (fn := Tryz.f54) Tryz.func54 rfl ok_54 mode_54 res_54 _ rfl _ ?_
 intro r hr
 have c1 := con_nm 123 mode_123 (fun n => !n.ok) l (fun n hn => M_123 n (h n hn)) hl false
 have hl2 := cat_length (f := nmA) l
 have e : l.all Nm.ok = !(l.any fun n => !n.ok) := by rw [List.any_eq_not_all_not]; simp
 simp (maxSteps := 4000000) (disch := first | omega | (simp only [LL]; omega)) only [go_sem, hl2, weaks_cat, c1]
 rw [hr, e]
theorem canonical_q [SpC] (l : List Rat) (N : Nat) (hl : l.length < 2 ^ 30) (h : ∀ x ∈ l, RS x N) (hN : N < 2 ^ 19) : M X 54 [.ro (cat ratA l) l.length false] = some (.bool true) := by
 have := M_54 (l.map ofQ) (by rw [List.length_map]; exact hl) (fun n hn => by
  obtain ⟨x, hx, rfl⟩ := List.mem_map.1 hn
  exact nmB_ofQ (h x hx) hN)
 rw [← rat_nm, List.length_map] at this
 rw [this]
 have e : (l.map ofQ).all Nm.ok = true := by
  rw [List.all_eq_true]
  intro n hn
  obtain ⟨x, hx, rfl⟩ := List.mem_map.1 hn
  exact ok_ofQ x
 rw [e]
end Go.Proofs.YtenhjccadhlgoaaGreat.Abs
