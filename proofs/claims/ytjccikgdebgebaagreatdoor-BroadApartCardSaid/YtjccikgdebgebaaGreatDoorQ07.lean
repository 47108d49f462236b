/-
  Package gantryref04: divided, by value. No conditions. Package gantryref04: Div and Gcd, by value. No conditions. Rational numbers as the program lays them: numerators and denominators, and how many digits these have. No conditions. Package rat: unit, one, lowest, Make, Of, Den, Sign, Neg, by value. No conditions.
-/
import Derived.Test.YtjccikgdebgebaaGreatDoorQ06
set_option linter.unusedSimpArgs false
set_option linter.unusedVariables false
section
set_option linter.unusedSimpArgs false
namespace Go.Proofs.YtjccikgdebgebaaGreatDoor.Abs
open Go
theorem inst_zD (id : Nat) (z : Int) : instantiate id (zD z) = some (zD z, []) := inst_isl id _
theorem src_zD (h : Heap) (z : Int) : srcCells h 1 (zD z) = some (ints (digs z.natAbs), nd z, []) := src_isl h _
theorem ixS_zD (z : Int) (n : Int) (hn : 0 ≤ n ∧ n < nd z) : ixS 1 (zD z) n = some (.loc ⟨.rptr (List.drop n.toNat (ints (digs z.natAbs))), [], []⟩) := ixS_isl _ n hn
theorem nd_mul (x y : Int) : nd (x * y) ≤ nd x + nd y := by
  refine nd_le_of ?_
  rw [Int.natAbs_mul, Nat.pow_add]
  have h1 := lt_of_nd x
  have h2 := lt_of_nd y
  rcases Nat.eq_zero_or_pos y.natAbs with h | h
  · rw [h, Nat.mul_zero]; exact Nat.mul_pos (Nat.pow_pos (by decide)) (Nat.pow_pos (by decide))
  · exact Nat.mul_lt_mul_of_lt_of_le h1 (Nat.le_of_lt h2) (Nat.pow_pos (by decide))
theorem nd_add (x y : Int) : nd (x + y) ≤ max (nd x) (nd y) + 1 := by
  refine nd_le_of ?_
  have h1 := Nat.lt_of_lt_of_le (lt_of_nd x) (Nat.pow_le_pow_right (show 0 < Bn by decide) (Nat.le_max_left (nd x) (nd y)))
  have h2 := Nat.lt_of_lt_of_le (lt_of_nd y) (Nat.pow_le_pow_right (show 0 < Bn by decide) (Nat.le_max_right (nd x) (nd y)))
  rw [Nat.pow_succ]
  have h3 := Int.natAbs_add_le x y
  simp only [Bn] at *; omega
/-- Halving: the greatest number whose multiple is not more. -/
def HalfP (R n : Int) (lo hi : Int) : Prop := 0 ≤ lo ∧ lo ≤ hi ∧ hi ≤ 999999999 ∧ lo * n ≤ R ∧ R < (hi + 1) * n
theorem half_end {R n lo hi : Int} (h : HalfP R n lo hi) (hh : ¬ lo < hi) (_ : 0 < n) : R / n = lo ∧ R % n = R - lo * n := by
  obtain ⟨h1, h2, h3, h4, h5⟩ := h
  have e : hi = lo := by omega
  subst e
  rw [Int.add_mul] at h5
  exact (Int.ediv_emod_unique (by omega)).2 ⟨by rw [Int.mul_comm n]; omega, by omega, by omega⟩
set_option maxRecDepth 100000 in
set_option maxHeartbeats 2000000 in
theorem M_137 [SpC] (x y : Int) (hx : nd x < 2 ^ 27) (hy : nd y < 2 ^ 27) (h0 : y ≠ 0) :
    ∃ q, M X 137 [zD x, zD y] = some (.tuple [isl q, zD ((x.natAbs : Int) % y.natAbs)]) ∧ okd q ∧ val q = (x.natAbs : Int) / y.natAbs ∧ q.length ≤ nd x + 3 := by
  suffices h : ∃ r, (∃ q, r = .tuple [isl q, zD ((x.natAbs : Int) % y.natAbs)] ∧ okd q ∧ val q = (x.natAbs : Int) / y.natAbs ∧ q.length ≤ nd x + 3) ∧ M X 137 [zD x, zD y] = some r by
    obtain ⟨r, ⟨q, rfl, h1⟩, h2⟩ := h
    exact ⟨q, h2, h1⟩
  refine M_ex (fn := Tryz.f137) Tryz.func137 rfl ok_137 mode_137 res_137 _ rfl _ ?_
  obtain ⟨d1, d2, d3, d4, d5⟩ := nat_div x y h0
  by_cases h1 : nd x ≤ 2 ∧ nd y ≤ 2
  · have x2 := (nd_le_two x).1 h1.1
    have y2 := (nd_le_two y).1 h1.2
    have t1 := M_136 x x2
    have t2 := M_136 y y2
    have o1 := M_64 ((x.natAbs : Int) / y.natAbs) (by omega)
    have o2 := M_64 ((x.natAbs : Int) % y.natAbs) (by omega)
    simp (maxSteps := 4000000) (disch := first | omega | (simp only [List.length_set, List.length_replicate, List.length_append, List.length_take, List.length_drop, List.length_cons, List.length_nil]; omega)) only [go_sem, reduceCtorEq, Nat.reduceEqDiff, Nat.reduceAdd, Nat.reduceMul, Nat.reduceSub, ↓Nat.reduceBEq, Nat.reduceLT, Nat.reduceLeDiff, Int.reduceLT, Int.reduceLE, Int.reduceNeg, Int.reduceToNat, mode_136, mode_64, t1, t2, o1, o2]
    refine ⟨digs ((x.natAbs : Int) / y.natAbs).natAbs, rfl, okd_digs _, by rw [val_digs]; omega, ?_⟩
    rw [len_nd]; have := nd_mono (x := (x.natAbs : Int) / y.natAbs) (y := x) (by omega); omega
  · have hn : ∀ (P : Prop), (nd x ≤ 2 → ¬ nd y ≤ 2 → P) → (¬ nd x ≤ 2 → P) → P := by
      intro P a b; by_cases h : nd x ≤ 2
      · exact a h (fun h' => h1 ⟨h, h'⟩)
      · exact b h
    have hn0 : nd x ≤ 2 → ¬ nd y ≤ 2 := fun h h' => h1 ⟨h, h'⟩
    have yn : (0 : Int) < y.natAbs := by omega
    by_cases h2 : nd x ≤ 2
    all_goals
      try have h3 := hn0 h2
      simp (maxSteps := 4000000) (disch := first | omega | (simp only [List.length_set, List.length_replicate, List.length_append, List.length_take, List.length_drop, List.length_cons, List.length_nil]; omega)) only [go_sem, reduceCtorEq, Nat.reduceEqDiff, Nat.reduceAdd, Nat.reduceMul, Nat.reduceSub, ↓Nat.reduceBEq, Nat.reduceLT, Nat.reduceLeDiff, Int.reduceLT, Int.reduceLE, Int.reduceNeg, Int.reduceToNat]
      refine W_loop X (fun (n : Nat) s => n ≤ nd x ∧ s.env 0 = zD x ∧ s.env 1 = zD y ∧ s.env 8 = .sl 96 0 (nd x) (some (nd x)) 1 ∧ s.env 10 = .int .i64 ((n : Int) - 1) ∧ 96 < s.next ∧
        ∃ (q : List Int) (c : Int), s.heap 96 = some (.cells (ints q) false false) ∧ (s.env 9 = zD c ∨ n = nd x ∧ c = 0 ∧ s.env 9 = .ro [] 0 true) ∧ ShoP (digs x.natAbs) y.natAbs n c q) (fun n => n) ?_ (nd x) _ ?_
      · rintro n ⟨env, heap, nx⟩ ⟨hn, g0, g1, g8, g10, hnx, q, c, gh, g9, hm⟩
        simp only at g0 g1 g8 g9 g10 gh hnx
        have hq := hm.1
        rw [len_nd] at hq
        have hc := hm.2.2.1
        have hlen := len_nd x
        obtain _ | m := n
        · have hv := hm.2.2.2
          rw [List.drop_zero, List.drop_zero, val_nat] at hv
          have e := (Int.ediv_emod_unique (a := (x.natAbs : Int)) (b := y.natAbs) (r := c) (q := val q) yn).2 ⟨by omega, hc.1, hc.2⟩
          rcases g9 with g9 | ⟨e0, rfl, g9⟩
          · simp (maxSteps := 4000000) (disch := first | omega | (simp only [List.length_set, List.length_replicate, List.length_append, List.length_take, List.length_drop, List.length_cons, List.length_nil]; omega)) only [go_sem, reduceCtorEq, Nat.reduceEqDiff, Nat.reduceAdd, Nat.reduceMul, Nat.reduceSub, ↓Nat.reduceBEq, Nat.reduceLT, Nat.reduceLeDiff, Int.reduceLT, Int.reduceLE, Int.reduceNeg, Int.reduceToNat, g0, g1, g8, g9, g10, gh, hq]
            exact ⟨q, by rw [e.2], hm.2.1, e.1.symm, by omega⟩
          · first
            | (exfalso; omega)
            | (simp (maxSteps := 4000000) (disch := first | omega | (simp only [List.length_set, List.length_replicate, List.length_append, List.length_take, List.length_drop, List.length_cons, List.length_nil]; omega)) only [go_sem, reduceCtorEq, Nat.reduceEqDiff, Nat.reduceAdd, Nat.reduceMul, Nat.reduceSub, ↓Nat.reduceBEq, Nat.reduceLT, Nat.reduceLeDiff, Int.reduceLT, Int.reduceLE, Int.reduceNeg, Int.reduceToNat, g0, g1, g8, g9, g10, gh, hq]
               exact ⟨q, by rw [e.2, zz_nil], hm.2.1, e.1.symm, by omega⟩)
        · have ka := okd_getD (okd_nat x) m
          simp only [Bz] at ka
          have hstep := shoP_step hm (by omega) (okd_nat x) yn
          obtain ⟨am, ham⟩ : ∃ am, am = (digs x.natAbs).getD m 0 := ⟨_, rfl⟩
          rw [← ham] at ka hstep
          obtain ⟨R, hR⟩ : ∃ R, R = c * 1000000000 + am := ⟨_, rfl⟩
          rw [← hR] at hstep
          have hdd := dig_div yn hc ka
          rw [← hR] at hdd
          have hR0 : 0 ≤ R := by omega
          have hRn : R.natAbs = R := by omega
          have hRh : R < 1000000000 * y.natAbs := by omega
          have nR : nd R ≤ nd y + 1 := nd_le_of (by rw [Nat.pow_succ]; have := lt_of_nd y; simp only [Bn] at *; omega)
          have nc : nd c ≤ nd y := nd_mono (by omega)
          have hcmp := comparedZ R y (by omega) (by omega)
          rw [hRn] at hcmp
          have hends : ∀ lo hi, HalfP R y.natAbs lo hi → ¬ lo < hi → ∃ o, M X 159 [zD y, .int .i64 lo] = some (zD (y.natAbs * lo)) ∧ M X 109 [zD R, zD (y.natAbs * lo)] = some (isl o) ∧
              M X 106 [.bool false, isl o] = some (.agg [zS (R % y.natAbs), zD (R % y.natAbs)]) ∧ R / y.natAbs = lo := by
            intro lo hi hp hlt
            obtain ⟨w1, w2⟩ := half_end hp hlt yn
            obtain ⟨p1, p2, p3, p4, p5⟩ := hp
            have w3 := Int.mul_nonneg (show (0 : Int) ≤ y.natAbs by omega) p1
            rw [Int.mul_comm lo] at p4 w2
            obtain ⟨o, o1, o2⟩ := rminusZ R (y.natAbs * lo) (by omega) (by omega)
            exact ⟨o, M_159 y lo (by omega) (by omega), o1, o2 false _ (by rw [w2]; simp; omega), w1⟩
          have hstep2 : ∀ lo hi, HalfP R y.natAbs lo hi → lo < hi → M X 159 [zD y, .int .i64 ((lo + hi + 1) / 2)] = some (zD (y.natAbs * ((lo + hi + 1) / 2))) ∧
              ((y.natAbs : Int) * ((lo + hi + 1) / 2) ≤ R → HalfP R y.natAbs ((lo + hi + 1) / 2) hi) ∧ (¬ (y.natAbs : Int) * ((lo + hi + 1) / 2) ≤ R → HalfP R y.natAbs lo ((lo + hi + 1) / 2 - 1)) ∧
              M X 108 [zD (y.natAbs * ((lo + hi + 1) / 2)), zD R] = some (.int .i64 (cmpZ (y.natAbs * ((lo + hi + 1) / 2)) R)) := by
            intro lo hi hp hlt
            obtain ⟨p1, p2, p3, p4, p5⟩ := hp
            have b1 : lo < (lo + hi + 1) / 2 ∧ (lo + hi + 1) / 2 ≤ hi := by omega
            obtain ⟨mid, hmid⟩ : ∃ mid, mid = (lo + hi + 1) / 2 := ⟨_, rfl⟩
            rw [← hmid] at b1 ⊢
            have w3 := Int.mul_nonneg (show (0 : Int) ≤ y.natAbs by omega) (show 0 ≤ mid by omega)
            have nm : nd mid ≤ 1 := nd_le_of (by simp only [Bn]; omega)
            have nmm := nd_mul y.natAbs mid
            rw [nd_nat] at nmm
            refine ⟨M_159 y mid (by omega) (by omega), fun h => ⟨by omega, by omega, p3, by rw [Int.mul_comm]; exact h, p5⟩, fun h => ⟨p1, by omega, by omega, p4, by rw [Int.sub_add_cancel, Int.mul_comm]; omega⟩, ?_⟩
            have := comparedZ (y.natAbs * mid) R (by omega) (by omega)
            rwa [hRn, Int.natAbs_of_nonneg w3] at this
          have hN1 : M X 106 [.bool false, isl [am]] = some (.agg [zS am, zD am]) := normZ false [am] am (by intro d hd; simp at hd; subst hd; exact ka) (by simp) (by simp [val])
          have hN2 : M X 106 [.bool false, isl (am :: digs c.natAbs)] = some (.agg [zS R, zD R]) := normZ false _ R (by rw [okd_cons]; exact ⟨ka, okd_nat c⟩) (by rw [List.length_cons, len_nd]; omega) (by simp only [val, val_nat, Bz]; simp; omega)
          have hlc := len_nd c
          have nz : c = 0 → nd c = 0 ∧ R = am := fun h => ⟨nd_zero c h, by rw [hR, h]; simp⟩
          have hcase : (∃ v, env 9 = v ∧ (v = zD c ∨ v = .ro [] 0 true) ∧ c = 0) ∨ (env 9 = zD c ∧ c ≠ 0) := by
            rcases g9 with g9 | ⟨e0, h, g9⟩
            · by_cases c0 : c = 0
              · exact .inl ⟨_, g9, .inl rfl, c0⟩
              · exact .inr ⟨g9, c0⟩
            · exact .inl ⟨_, g9, .inr rfl, h⟩
          clear g9
          rcases hcase with ⟨v, g9, rfl | rfl, c0⟩ | ⟨g9, c0⟩
          · obtain ⟨c1, c2⟩ := nz c0
            have hN : M X 106 [.bool false, .ro [.int .i64 am] 1 false] = some (.agg [zS R, zD R]) := by rw [c2]; exact hN1
            by_cases hlt : R < y.natAbs
            · rw [cmpZ_lt hlt] at hcmp
              simp (maxSteps := 4000000) (disch := first | omega | (simp only [List.length_set, List.length_replicate, List.length_append, List.length_take, List.length_drop, List.length_cons, List.length_nil]; omega)) only [go_sem, reduceCtorEq, Nat.reduceEqDiff, Nat.reduceAdd, Nat.reduceMul, Nat.reduceSub, ↓Nat.reduceBEq, Nat.reduceLT, Nat.reduceLeDiff, Int.reduceLT, Int.reduceLE, Int.reduceNeg, Int.reduceToNat, g0, g1, g8, g9, g10, gh, hq, ixS_zD, ← ham, src_zD, c1, mode_106, mode_108, hN, hcmp]
              have hp : HalfP R y.natAbs 0 0 := ⟨by omega, by omega, by omega, by omega, by omega⟩
              refine W_loop X (fun (p : Int × Int) s => s.env 0 = zD x ∧ s.env 1 = zD y ∧ s.env 8 = .sl 96 0 (nd x) (some (nd x)) 1 ∧ s.env 9 = zD R ∧ s.env 10 = .int .i64 m ∧ s.env 12 = .int .i64 p.1 ∧ s.env 13 = .int .i64 p.2 ∧ 96 < s.next ∧
                s.heap 96 = some (.cells (ints q) false false) ∧ HalfP R y.natAbs p.1 p.2) (fun p => (p.2 - p.1).toNat) ?_ (0, 0) _ ?_
              · clear g0 g1 g8 g9 g10 gh hnx hp hN hcmp
                rintro ⟨lo, hi⟩ ⟨env, heap, nx⟩ ⟨g0, g1, g8, g9, g10, g12, g13, hnx, gh, hp⟩
                simp only at g0 g1 g8 g9 g10 g12 g13 gh hnx hp
                have hpb : 0 ≤ lo ∧ lo ≤ hi ∧ hi ≤ 999999999 := ⟨hp.1, hp.2.1, hp.2.2.1⟩
                by_cases hlh : lo < hi
                · obtain ⟨s1, s2, s3, s4⟩ := hstep2 lo hi hp hlh
                  by_cases hle : (y.natAbs : Int) * ((lo + hi + 1) / 2) ≤ R
                  · have hz : cmpZ (y.natAbs * ((lo + hi + 1) / 2)) R ≤ 0 := by unfold cmpZ; split <;> (try split) <;> omega
                    have hp' := s2 hle
                    simp (maxSteps := 4000000) (disch := first | omega | (simp only [List.length_set, List.length_replicate, List.length_append, List.length_take, List.length_drop, List.length_cons, List.length_nil]; omega)) only [go_sem, reduceCtorEq, Nat.reduceEqDiff, Nat.reduceAdd, Nat.reduceMul, Nat.reduceSub, ↓Nat.reduceBEq, Nat.reduceLT, Nat.reduceLeDiff, Int.reduceLT, Int.reduceLE, Int.reduceNeg, Int.reduceToNat, g0, g1, g8, g9, g10, g12, g13, gh, hq, inst_zD, mode_159, mode_108, s1, s4]
                    exact ⟨((lo + hi + 1) / 2, hi), ⟨rfl, rfl, by omega, hp'⟩, by simp only; omega⟩
                  · have hz : 0 < cmpZ (y.natAbs * ((lo + hi + 1) / 2)) R := by rw [cmpZ_gt (by omega)]; omega
                    have hp' := s3 hle
                    simp (maxSteps := 4000000) (disch := first | omega | (simp only [List.length_set, List.length_replicate, List.length_append, List.length_take, List.length_drop, List.length_cons, List.length_nil]; omega)) only [go_sem, reduceCtorEq, Nat.reduceEqDiff, Nat.reduceAdd, Nat.reduceMul, Nat.reduceSub, ↓Nat.reduceBEq, Nat.reduceLT, Nat.reduceLeDiff, Int.reduceLT, Int.reduceLE, Int.reduceNeg, Int.reduceToNat, g0, g1, g8, g9, g10, g12, g13, gh, hq, inst_zD, mode_159, mode_108, s1, s4]
                    exact ⟨(lo, (lo + hi + 1) / 2 - 1), ⟨rfl, rfl, by omega, hp'⟩, by simp only; omega⟩
                · obtain ⟨o, o1, o2, o3, o4⟩ := hends lo hi hp hlh
                  rw [o4] at hstep
                  simp (maxSteps := 4000000) (disch := first | omega | (simp only [List.length_set, List.length_replicate, List.length_append, List.length_take, List.length_drop, List.length_cons, List.length_nil]; omega)) only [go_sem, reduceCtorEq, Nat.reduceEqDiff, Nat.reduceAdd, Nat.reduceMul, Nat.reduceSub, ↓Nat.reduceBEq, Nat.reduceLT, Nat.reduceLeDiff, Int.reduceLT, Int.reduceLE, Int.reduceNeg, Int.reduceToNat, g0, g1, g8, g9, g10, g12, g13, gh, hq, inst_zD, mode_159, mode_109, mode_106, o1, o2, o3]
                  exact ⟨m, ⟨by omega, rfl, by omega, _, _, rfl, .inl rfl, hstep⟩, by omega⟩
              · simp (maxSteps := 4000000) (disch := first | omega | (simp only [List.length_set, List.length_replicate, List.length_append, List.length_take, List.length_drop, List.length_cons, List.length_nil]; omega)) only [go_sem, reduceCtorEq, Nat.reduceEqDiff, Nat.reduceAdd, Nat.reduceMul, Nat.reduceSub, ↓Nat.reduceBEq, Nat.reduceLT, Nat.reduceLeDiff, Int.reduceLT, Int.reduceLE, Int.reduceNeg, Int.reduceToNat, g0, g1, g8, g10, gh, hq]
                exact ⟨by omega, hp⟩
            · have hcmp0 : 0 ≤ cmpZ R y.natAbs := by unfold cmpZ; rw [if_neg hlt]; split <;> omega
              simp (maxSteps := 4000000) (disch := first | omega | (simp only [List.length_set, List.length_replicate, List.length_append, List.length_take, List.length_drop, List.length_cons, List.length_nil]; omega)) only [go_sem, reduceCtorEq, Nat.reduceEqDiff, Nat.reduceAdd, Nat.reduceMul, Nat.reduceSub, ↓Nat.reduceBEq, Nat.reduceLT, Nat.reduceLeDiff, Int.reduceLT, Int.reduceLE, Int.reduceNeg, Int.reduceToNat, g0, g1, g8, g9, g10, gh, hq, ixS_zD, ← ham, src_zD, c1, mode_106, mode_108, hN, hcmp]
              have hp : HalfP R y.natAbs 0 999999999 := ⟨by omega, by omega, by omega, by omega, by omega⟩
              refine W_loop X (fun (p : Int × Int) s => s.env 0 = zD x ∧ s.env 1 = zD y ∧ s.env 8 = .sl 96 0 (nd x) (some (nd x)) 1 ∧ s.env 9 = zD R ∧ s.env 10 = .int .i64 m ∧ s.env 12 = .int .i64 p.1 ∧ s.env 13 = .int .i64 p.2 ∧ 96 < s.next ∧
                s.heap 96 = some (.cells (ints q) false false) ∧ HalfP R y.natAbs p.1 p.2) (fun p => (p.2 - p.1).toNat) ?_ (0, 999999999) _ ?_
              · clear g0 g1 g8 g9 g10 gh hnx hp hN hcmp
                rintro ⟨lo, hi⟩ ⟨env, heap, nx⟩ ⟨g0, g1, g8, g9, g10, g12, g13, hnx, gh, hp⟩
                simp only at g0 g1 g8 g9 g10 g12 g13 gh hnx hp
                have hpb : 0 ≤ lo ∧ lo ≤ hi ∧ hi ≤ 999999999 := ⟨hp.1, hp.2.1, hp.2.2.1⟩
                by_cases hlh : lo < hi
                · obtain ⟨s1, s2, s3, s4⟩ := hstep2 lo hi hp hlh
                  by_cases hle : (y.natAbs : Int) * ((lo + hi + 1) / 2) ≤ R
                  · have hz : cmpZ (y.natAbs * ((lo + hi + 1) / 2)) R ≤ 0 := by unfold cmpZ; split <;> (try split) <;> omega
                    have hp' := s2 hle
                    simp (maxSteps := 4000000) (disch := first | omega | (simp only [List.length_set, List.length_replicate, List.length_append, List.length_take, List.length_drop, List.length_cons, List.length_nil]; omega)) only [go_sem, reduceCtorEq, Nat.reduceEqDiff, Nat.reduceAdd, Nat.reduceMul, Nat.reduceSub, ↓Nat.reduceBEq, Nat.reduceLT, Nat.reduceLeDiff, Int.reduceLT, Int.reduceLE, Int.reduceNeg, Int.reduceToNat, g0, g1, g8, g9, g10, g12, g13, gh, hq, inst_zD, mode_159, mode_108, s1, s4]
                    exact ⟨((lo + hi + 1) / 2, hi), ⟨rfl, rfl, by omega, hp'⟩, by simp only; omega⟩
                  · have hz : 0 < cmpZ (y.natAbs * ((lo + hi + 1) / 2)) R := by rw [cmpZ_gt (by omega)]; omega
                    have hp' := s3 hle
                    simp (maxSteps := 4000000) (disch := first | omega | (simp only [List.length_set, List.length_replicate, List.length_append, List.length_take, List.length_drop, List.length_cons, List.length_nil]; omega)) only [go_sem, reduceCtorEq, Nat.reduceEqDiff, Nat.reduceAdd, Nat.reduceMul, Nat.reduceSub, ↓Nat.reduceBEq, Nat.reduceLT, Nat.reduceLeDiff, Int.reduceLT, Int.reduceLE, Int.reduceNeg, Int.reduceToNat, g0, g1, g8, g9, g10, g12, g13, gh, hq, inst_zD, mode_159, mode_108, s1, s4]
                    exact ⟨(lo, (lo + hi + 1) / 2 - 1), ⟨rfl, rfl, by omega, hp'⟩, by simp only; omega⟩
                · obtain ⟨o, o1, o2, o3, o4⟩ := hends lo hi hp hlh
                  rw [o4] at hstep
                  simp (maxSteps := 4000000) (disch := first | omega | (simp only [List.length_set, List.length_replicate, List.length_append, List.length_take, List.length_drop, List.length_cons, List.length_nil]; omega)) only [go_sem, reduceCtorEq, Nat.reduceEqDiff, Nat.reduceAdd, Nat.reduceMul, Nat.reduceSub, ↓Nat.reduceBEq, Nat.reduceLT, Nat.reduceLeDiff, Int.reduceLT, Int.reduceLE, Int.reduceNeg, Int.reduceToNat, g0, g1, g8, g9, g10, g12, g13, gh, hq, inst_zD, mode_159, mode_109, mode_106, o1, o2, o3]
                  exact ⟨m, ⟨by omega, rfl, by omega, _, _, rfl, .inl rfl, hstep⟩, by omega⟩
              · simp (maxSteps := 4000000) (disch := first | omega | (simp only [List.length_set, List.length_replicate, List.length_append, List.length_take, List.length_drop, List.length_cons, List.length_nil]; omega)) only [go_sem, reduceCtorEq, Nat.reduceEqDiff, Nat.reduceAdd, Nat.reduceMul, Nat.reduceSub, ↓Nat.reduceBEq, Nat.reduceLT, Nat.reduceLeDiff, Int.reduceLT, Int.reduceLE, Int.reduceNeg, Int.reduceToNat, g0, g1, g8, g10, gh, hq]
                exact ⟨by omega, hp⟩
          · obtain ⟨c1, c2⟩ := nz c0
            have hN : M X 106 [.bool false, .ro [.int .i64 am] 1 false] = some (.agg [zS R, zD R]) := by rw [c2]; exact hN1
            by_cases hlt : R < y.natAbs
            · rw [cmpZ_lt hlt] at hcmp
              simp (maxSteps := 4000000) (disch := first | omega | (simp only [List.length_set, List.length_replicate, List.length_append, List.length_take, List.length_drop, List.length_cons, List.length_nil]; omega)) only [go_sem, reduceCtorEq, Nat.reduceEqDiff, Nat.reduceAdd, Nat.reduceMul, Nat.reduceSub, ↓Nat.reduceBEq, Nat.reduceLT, Nat.reduceLeDiff, Int.reduceLT, Int.reduceLE, Int.reduceNeg, Int.reduceToNat, g0, g1, g8, g9, g10, gh, hq, ixS_zD, ← ham, src_zD, c1, mode_106, mode_108, hN, hcmp]
              have hp : HalfP R y.natAbs 0 0 := ⟨by omega, by omega, by omega, by omega, by omega⟩
              refine W_loop X (fun (p : Int × Int) s => s.env 0 = zD x ∧ s.env 1 = zD y ∧ s.env 8 = .sl 96 0 (nd x) (some (nd x)) 1 ∧ s.env 9 = zD R ∧ s.env 10 = .int .i64 m ∧ s.env 12 = .int .i64 p.1 ∧ s.env 13 = .int .i64 p.2 ∧ 96 < s.next ∧
                s.heap 96 = some (.cells (ints q) false false) ∧ HalfP R y.natAbs p.1 p.2) (fun p => (p.2 - p.1).toNat) ?_ (0, 0) _ ?_
              · clear g0 g1 g8 g9 g10 gh hnx hp hN hcmp
                rintro ⟨lo, hi⟩ ⟨env, heap, nx⟩ ⟨g0, g1, g8, g9, g10, g12, g13, hnx, gh, hp⟩
                simp only at g0 g1 g8 g9 g10 g12 g13 gh hnx hp
                have hpb : 0 ≤ lo ∧ lo ≤ hi ∧ hi ≤ 999999999 := ⟨hp.1, hp.2.1, hp.2.2.1⟩
                by_cases hlh : lo < hi
                · obtain ⟨s1, s2, s3, s4⟩ := hstep2 lo hi hp hlh
                  by_cases hle : (y.natAbs : Int) * ((lo + hi + 1) / 2) ≤ R
                  · have hz : cmpZ (y.natAbs * ((lo + hi + 1) / 2)) R ≤ 0 := by unfold cmpZ; split <;> (try split) <;> omega
                    have hp' := s2 hle
                    simp (maxSteps := 4000000) (disch := first | omega | (simp only [List.length_set, List.length_replicate, List.length_append, List.length_take, List.length_drop, List.length_cons, List.length_nil]; omega)) only [go_sem, reduceCtorEq, Nat.reduceEqDiff, Nat.reduceAdd, Nat.reduceMul, Nat.reduceSub, ↓Nat.reduceBEq, Nat.reduceLT, Nat.reduceLeDiff, Int.reduceLT, Int.reduceLE, Int.reduceNeg, Int.reduceToNat, g0, g1, g8, g9, g10, g12, g13, gh, hq, inst_zD, mode_159, mode_108, s1, s4]
                    exact ⟨((lo + hi + 1) / 2, hi), ⟨rfl, rfl, by omega, hp'⟩, by simp only; omega⟩
                  · have hz : 0 < cmpZ (y.natAbs * ((lo + hi + 1) / 2)) R := by rw [cmpZ_gt (by omega)]; omega
                    have hp' := s3 hle
                    simp (maxSteps := 4000000) (disch := first | omega | (simp only [List.length_set, List.length_replicate, List.length_append, List.length_take, List.length_drop, List.length_cons, List.length_nil]; omega)) only [go_sem, reduceCtorEq, Nat.reduceEqDiff, Nat.reduceAdd, Nat.reduceMul, Nat.reduceSub, ↓Nat.reduceBEq, Nat.reduceLT, Nat.reduceLeDiff, Int.reduceLT, Int.reduceLE, Int.reduceNeg, Int.reduceToNat, g0, g1, g8, g9, g10, g12, g13, gh, hq, inst_zD, mode_159, mode_108, s1, s4]
                    exact ⟨(lo, (lo + hi + 1) / 2 - 1), ⟨rfl, rfl, by omega, hp'⟩, by simp only; omega⟩
                · obtain ⟨o, o1, o2, o3, o4⟩ := hends lo hi hp hlh
                  rw [o4] at hstep
                  simp (maxSteps := 4000000) (disch := first | omega | (simp only [List.length_set, List.length_replicate, List.length_append, List.length_take, List.length_drop, List.length_cons, List.length_nil]; omega)) only [go_sem, reduceCtorEq, Nat.reduceEqDiff, Nat.reduceAdd, Nat.reduceMul, Nat.reduceSub, ↓Nat.reduceBEq, Nat.reduceLT, Nat.reduceLeDiff, Int.reduceLT, Int.reduceLE, Int.reduceNeg, Int.reduceToNat, g0, g1, g8, g9, g10, g12, g13, gh, hq, inst_zD, mode_159, mode_109, mode_106, o1, o2, o3]
                  exact ⟨m, ⟨by omega, rfl, by omega, _, _, rfl, .inl rfl, hstep⟩, by omega⟩
              · simp (maxSteps := 4000000) (disch := first | omega | (simp only [List.length_set, List.length_replicate, List.length_append, List.length_take, List.length_drop, List.length_cons, List.length_nil]; omega)) only [go_sem, reduceCtorEq, Nat.reduceEqDiff, Nat.reduceAdd, Nat.reduceMul, Nat.reduceSub, ↓Nat.reduceBEq, Nat.reduceLT, Nat.reduceLeDiff, Int.reduceLT, Int.reduceLE, Int.reduceNeg, Int.reduceToNat, g0, g1, g8, g10, gh, hq]
                exact ⟨by omega, hp⟩
            · have hcmp0 : 0 ≤ cmpZ R y.natAbs := by unfold cmpZ; rw [if_neg hlt]; split <;> omega
              simp (maxSteps := 4000000) (disch := first | omega | (simp only [List.length_set, List.length_replicate, List.length_append, List.length_take, List.length_drop, List.length_cons, List.length_nil]; omega)) only [go_sem, reduceCtorEq, Nat.reduceEqDiff, Nat.reduceAdd, Nat.reduceMul, Nat.reduceSub, ↓Nat.reduceBEq, Nat.reduceLT, Nat.reduceLeDiff, Int.reduceLT, Int.reduceLE, Int.reduceNeg, Int.reduceToNat, g0, g1, g8, g9, g10, gh, hq, ixS_zD, ← ham, src_zD, c1, mode_106, mode_108, hN, hcmp]
              have hp : HalfP R y.natAbs 0 999999999 := ⟨by omega, by omega, by omega, by omega, by omega⟩
              refine W_loop X (fun (p : Int × Int) s => s.env 0 = zD x ∧ s.env 1 = zD y ∧ s.env 8 = .sl 96 0 (nd x) (some (nd x)) 1 ∧ s.env 9 = zD R ∧ s.env 10 = .int .i64 m ∧ s.env 12 = .int .i64 p.1 ∧ s.env 13 = .int .i64 p.2 ∧ 96 < s.next ∧
                s.heap 96 = some (.cells (ints q) false false) ∧ HalfP R y.natAbs p.1 p.2) (fun p => (p.2 - p.1).toNat) ?_ (0, 999999999) _ ?_
              · clear g0 g1 g8 g9 g10 gh hnx hp hN hcmp
                rintro ⟨lo, hi⟩ ⟨env, heap, nx⟩ ⟨g0, g1, g8, g9, g10, g12, g13, hnx, gh, hp⟩
                simp only at g0 g1 g8 g9 g10 g12 g13 gh hnx hp
                have hpb : 0 ≤ lo ∧ lo ≤ hi ∧ hi ≤ 999999999 := ⟨hp.1, hp.2.1, hp.2.2.1⟩
                by_cases hlh : lo < hi
                · obtain ⟨s1, s2, s3, s4⟩ := hstep2 lo hi hp hlh
                  by_cases hle : (y.natAbs : Int) * ((lo + hi + 1) / 2) ≤ R
                  · have hz : cmpZ (y.natAbs * ((lo + hi + 1) / 2)) R ≤ 0 := by unfold cmpZ; split <;> (try split) <;> omega
                    have hp' := s2 hle
                    simp (maxSteps := 4000000) (disch := first | omega | (simp only [List.length_set, List.length_replicate, List.length_append, List.length_take, List.length_drop, List.length_cons, List.length_nil]; omega)) only [go_sem, reduceCtorEq, Nat.reduceEqDiff, Nat.reduceAdd, Nat.reduceMul, Nat.reduceSub, ↓Nat.reduceBEq, Nat.reduceLT, Nat.reduceLeDiff, Int.reduceLT, Int.reduceLE, Int.reduceNeg, Int.reduceToNat, g0, g1, g8, g9, g10, g12, g13, gh, hq, inst_zD, mode_159, mode_108, s1, s4]
                    exact ⟨((lo + hi + 1) / 2, hi), ⟨rfl, rfl, by omega, hp'⟩, by simp only; omega⟩
                  · have hz : 0 < cmpZ (y.natAbs * ((lo + hi + 1) / 2)) R := by rw [cmpZ_gt (by omega)]; omega
                    have hp' := s3 hle
                    simp (maxSteps := 4000000) (disch := first | omega | (simp only [List.length_set, List.length_replicate, List.length_append, List.length_take, List.length_drop, List.length_cons, List.length_nil]; omega)) only [go_sem, reduceCtorEq, Nat.reduceEqDiff, Nat.reduceAdd, Nat.reduceMul, Nat.reduceSub, ↓Nat.reduceBEq, Nat.reduceLT, Nat.reduceLeDiff, Int.reduceLT, Int.reduceLE, Int.reduceNeg, Int.reduceToNat, g0, g1, g8, g9, g10, g12, g13, gh, hq, inst_zD, mode_159, mode_108, s1, s4]
                    exact ⟨(lo, (lo + hi + 1) / 2 - 1), ⟨rfl, rfl, by omega, hp'⟩, by simp only; omega⟩
                · obtain ⟨o, o1, o2, o3, o4⟩ := hends lo hi hp hlh
                  rw [o4] at hstep
                  simp (maxSteps := 4000000) (disch := first | omega | (simp only [List.length_set, List.length_replicate, List.length_append, List.length_take, List.length_drop, List.length_cons, List.length_nil]; omega)) only [go_sem, reduceCtorEq, Nat.reduceEqDiff, Nat.reduceAdd, Nat.reduceMul, Nat.reduceSub, ↓Nat.reduceBEq, Nat.reduceLT, Nat.reduceLeDiff, Int.reduceLT, Int.reduceLE, Int.reduceNeg, Int.reduceToNat, g0, g1, g8, g9, g10, g12, g13, gh, hq, inst_zD, mode_159, mode_109, mode_106, o1, o2, o3]
                  exact ⟨m, ⟨by omega, rfl, by omega, _, _, rfl, .inl rfl, hstep⟩, by omega⟩
              · simp (maxSteps := 4000000) (disch := first | omega | (simp only [List.length_set, List.length_replicate, List.length_append, List.length_take, List.length_drop, List.length_cons, List.length_nil]; omega)) only [go_sem, reduceCtorEq, Nat.reduceEqDiff, Nat.reduceAdd, Nat.reduceMul, Nat.reduceSub, ↓Nat.reduceBEq, Nat.reduceLT, Nat.reduceLeDiff, Int.reduceLT, Int.reduceLE, Int.reduceNeg, Int.reduceToNat, g0, g1, g8, g10, gh, hq]
                exact ⟨by omega, hp⟩
          · have c1 := nd_pos c c0
            obtain ⟨L, hL⟩ : ∃ L, L = am :: digs c.natAbs := ⟨_, rfl⟩
            rw [← hL] at hN2
            have hLi : (AV.int .i64 am :: ints (digs c.natAbs)) = ints L := by rw [hL]; rfl
            have hLl : L.length = 1 + nd c := by rw [hL, List.length_cons, len_nd]; omega
            have hN := hN2
            by_cases hlt : R < y.natAbs
            · rw [cmpZ_lt hlt] at hcmp
              simp (maxSteps := 4000000) (disch := first | omega | (simp only [List.length_set, List.length_replicate, List.length_append, List.length_take, List.length_drop, List.length_cons, List.length_nil]; omega)) only [go_sem, reduceCtorEq, Nat.reduceEqDiff, Nat.reduceAdd, Nat.reduceMul, Nat.reduceSub, ↓Nat.reduceBEq, Nat.reduceLT, Nat.reduceLeDiff, Int.reduceLT, Int.reduceLE, Int.reduceNeg, Int.reduceToNat, g0, g1, g8, g9, g10, gh, hq, ixS_zD, ← ham, src_zD, hLi, mode_106, mode_108, hN, hcmp]
              have hp : HalfP R y.natAbs 0 0 := ⟨by omega, by omega, by omega, by omega, by omega⟩
              refine W_loop X (fun (p : Int × Int) s => s.env 0 = zD x ∧ s.env 1 = zD y ∧ s.env 8 = .sl 96 0 (nd x) (some (nd x)) 1 ∧ s.env 9 = zD R ∧ s.env 10 = .int .i64 m ∧ s.env 12 = .int .i64 p.1 ∧ s.env 13 = .int .i64 p.2 ∧ 96 < s.next ∧
                s.heap 96 = some (.cells (ints q) false false) ∧ HalfP R y.natAbs p.1 p.2) (fun p => (p.2 - p.1).toNat) ?_ (0, 0) _ ?_
              · clear g0 g1 g8 g9 g10 gh hnx hp hN hcmp
                rintro ⟨lo, hi⟩ ⟨env, heap, nx⟩ ⟨g0, g1, g8, g9, g10, g12, g13, hnx, gh, hp⟩
                simp only at g0 g1 g8 g9 g10 g12 g13 gh hnx hp
                have hpb : 0 ≤ lo ∧ lo ≤ hi ∧ hi ≤ 999999999 := ⟨hp.1, hp.2.1, hp.2.2.1⟩
                by_cases hlh : lo < hi
                · obtain ⟨s1, s2, s3, s4⟩ := hstep2 lo hi hp hlh
                  by_cases hle : (y.natAbs : Int) * ((lo + hi + 1) / 2) ≤ R
                  · have hz : cmpZ (y.natAbs * ((lo + hi + 1) / 2)) R ≤ 0 := by unfold cmpZ; split <;> (try split) <;> omega
                    have hp' := s2 hle
                    simp (maxSteps := 4000000) (disch := first | omega | (simp only [List.length_set, List.length_replicate, List.length_append, List.length_take, List.length_drop, List.length_cons, List.length_nil]; omega)) only [go_sem, reduceCtorEq, Nat.reduceEqDiff, Nat.reduceAdd, Nat.reduceMul, Nat.reduceSub, ↓Nat.reduceBEq, Nat.reduceLT, Nat.reduceLeDiff, Int.reduceLT, Int.reduceLE, Int.reduceNeg, Int.reduceToNat, g0, g1, g8, g9, g10, g12, g13, gh, hq, inst_zD, mode_159, mode_108, s1, s4]
                    exact ⟨((lo + hi + 1) / 2, hi), ⟨rfl, rfl, by omega, hp'⟩, by simp only; omega⟩
                  · have hz : 0 < cmpZ (y.natAbs * ((lo + hi + 1) / 2)) R := by rw [cmpZ_gt (by omega)]; omega
                    have hp' := s3 hle
                    simp (maxSteps := 4000000) (disch := first | omega | (simp only [List.length_set, List.length_replicate, List.length_append, List.length_take, List.length_drop, List.length_cons, List.length_nil]; omega)) only [go_sem, reduceCtorEq, Nat.reduceEqDiff, Nat.reduceAdd, Nat.reduceMul, Nat.reduceSub, ↓Nat.reduceBEq, Nat.reduceLT, Nat.reduceLeDiff, Int.reduceLT, Int.reduceLE, Int.reduceNeg, Int.reduceToNat, g0, g1, g8, g9, g10, g12, g13, gh, hq, inst_zD, mode_159, mode_108, s1, s4]
                    exact ⟨(lo, (lo + hi + 1) / 2 - 1), ⟨rfl, rfl, by omega, hp'⟩, by simp only; omega⟩
                · obtain ⟨o, o1, o2, o3, o4⟩ := hends lo hi hp hlh
                  rw [o4] at hstep
                  simp (maxSteps := 4000000) (disch := first | omega | (simp only [List.length_set, List.length_replicate, List.length_append, List.length_take, List.length_drop, List.length_cons, List.length_nil]; omega)) only [go_sem, reduceCtorEq, Nat.reduceEqDiff, Nat.reduceAdd, Nat.reduceMul, Nat.reduceSub, ↓Nat.reduceBEq, Nat.reduceLT, Nat.reduceLeDiff, Int.reduceLT, Int.reduceLE, Int.reduceNeg, Int.reduceToNat, g0, g1, g8, g9, g10, g12, g13, gh, hq, inst_zD, mode_159, mode_109, mode_106, o1, o2, o3]
                  exact ⟨m, ⟨by omega, rfl, by omega, _, _, rfl, .inl rfl, hstep⟩, by omega⟩
              · simp (maxSteps := 4000000) (disch := first | omega | (simp only [List.length_set, List.length_replicate, List.length_append, List.length_take, List.length_drop, List.length_cons, List.length_nil]; omega)) only [go_sem, reduceCtorEq, Nat.reduceEqDiff, Nat.reduceAdd, Nat.reduceMul, Nat.reduceSub, ↓Nat.reduceBEq, Nat.reduceLT, Nat.reduceLeDiff, Int.reduceLT, Int.reduceLE, Int.reduceNeg, Int.reduceToNat, g0, g1, g8, g10, gh, hq]
                exact ⟨by omega, hp⟩
            · have hcmp0 : 0 ≤ cmpZ R y.natAbs := by unfold cmpZ; rw [if_neg hlt]; split <;> omega
              simp (maxSteps := 4000000) (disch := first | omega | (simp only [List.length_set, List.length_replicate, List.length_append, List.length_take, List.length_drop, List.length_cons, List.length_nil]; omega)) only [go_sem, reduceCtorEq, Nat.reduceEqDiff, Nat.reduceAdd, Nat.reduceMul, Nat.reduceSub, ↓Nat.reduceBEq, Nat.reduceLT, Nat.reduceLeDiff, Int.reduceLT, Int.reduceLE, Int.reduceNeg, Int.reduceToNat, g0, g1, g8, g9, g10, gh, hq, ixS_zD, ← ham, src_zD, hLi, mode_106, mode_108, hN, hcmp]
              have hp : HalfP R y.natAbs 0 999999999 := ⟨by omega, by omega, by omega, by omega, by omega⟩
              refine W_loop X (fun (p : Int × Int) s => s.env 0 = zD x ∧ s.env 1 = zD y ∧ s.env 8 = .sl 96 0 (nd x) (some (nd x)) 1 ∧ s.env 9 = zD R ∧ s.env 10 = .int .i64 m ∧ s.env 12 = .int .i64 p.1 ∧ s.env 13 = .int .i64 p.2 ∧ 96 < s.next ∧
                s.heap 96 = some (.cells (ints q) false false) ∧ HalfP R y.natAbs p.1 p.2) (fun p => (p.2 - p.1).toNat) ?_ (0, 999999999) _ ?_
              · clear g0 g1 g8 g9 g10 gh hnx hp hN hcmp
                rintro ⟨lo, hi⟩ ⟨env, heap, nx⟩ ⟨g0, g1, g8, g9, g10, g12, g13, hnx, gh, hp⟩
                simp only at g0 g1 g8 g9 g10 g12 g13 gh hnx hp
                have hpb : 0 ≤ lo ∧ lo ≤ hi ∧ hi ≤ 999999999 := ⟨hp.1, hp.2.1, hp.2.2.1⟩
                by_cases hlh : lo < hi
                · obtain ⟨s1, s2, s3, s4⟩ := hstep2 lo hi hp hlh
                  by_cases hle : (y.natAbs : Int) * ((lo + hi + 1) / 2) ≤ R
                  · have hz : cmpZ (y.natAbs * ((lo + hi + 1) / 2)) R ≤ 0 := by unfold cmpZ; split <;> (try split) <;> omega
                    have hp' := s2 hle
                    simp (maxSteps := 4000000) (disch := first | omega | (simp only [List.length_set, List.length_replicate, List.length_append, List.length_take, List.length_drop, List.length_cons, List.length_nil]; omega)) only [go_sem, reduceCtorEq, Nat.reduceEqDiff, Nat.reduceAdd, Nat.reduceMul, Nat.reduceSub, ↓Nat.reduceBEq, Nat.reduceLT, Nat.reduceLeDiff, Int.reduceLT, Int.reduceLE, Int.reduceNeg, Int.reduceToNat, g0, g1, g8, g9, g10, g12, g13, gh, hq, inst_zD, mode_159, mode_108, s1, s4]
                    exact ⟨((lo + hi + 1) / 2, hi), ⟨rfl, rfl, by omega, hp'⟩, by simp only; omega⟩
                  · have hz : 0 < cmpZ (y.natAbs * ((lo + hi + 1) / 2)) R := by rw [cmpZ_gt (by omega)]; omega
                    have hp' := s3 hle
                    simp (maxSteps := 4000000) (disch := first | omega | (simp only [List.length_set, List.length_replicate, List.length_append, List.length_take, List.length_drop, List.length_cons, List.length_nil]; omega)) only [go_sem, reduceCtorEq, Nat.reduceEqDiff, Nat.reduceAdd, Nat.reduceMul, Nat.reduceSub, ↓Nat.reduceBEq, Nat.reduceLT, Nat.reduceLeDiff, Int.reduceLT, Int.reduceLE, Int.reduceNeg, Int.reduceToNat, g0, g1, g8, g9, g10, g12, g13, gh, hq, inst_zD, mode_159, mode_108, s1, s4]
                    exact ⟨(lo, (lo + hi + 1) / 2 - 1), ⟨rfl, rfl, by omega, hp'⟩, by simp only; omega⟩
                · obtain ⟨o, o1, o2, o3, o4⟩ := hends lo hi hp hlh
                  rw [o4] at hstep
                  simp (maxSteps := 4000000) (disch := first | omega | (simp only [List.length_set, List.length_replicate, List.length_append, List.length_take, List.length_drop, List.length_cons, List.length_nil]; omega)) only [go_sem, reduceCtorEq, Nat.reduceEqDiff, Nat.reduceAdd, Nat.reduceMul, Nat.reduceSub, ↓Nat.reduceBEq, Nat.reduceLT, Nat.reduceLeDiff, Int.reduceLT, Int.reduceLE, Int.reduceNeg, Int.reduceToNat, g0, g1, g8, g9, g10, g12, g13, gh, hq, inst_zD, mode_159, mode_109, mode_106, o1, o2, o3]
                  exact ⟨m, ⟨by omega, rfl, by omega, _, _, rfl, .inl rfl, hstep⟩, by omega⟩
              · simp (maxSteps := 4000000) (disch := first | omega | (simp only [List.length_set, List.length_replicate, List.length_append, List.length_take, List.length_drop, List.length_cons, List.length_nil]; omega)) only [go_sem, reduceCtorEq, Nat.reduceEqDiff, Nat.reduceAdd, Nat.reduceMul, Nat.reduceSub, ↓Nat.reduceBEq, Nat.reduceLT, Nat.reduceLeDiff, Int.reduceLT, Int.reduceLE, Int.reduceNeg, Int.reduceToNat, g0, g1, g8, g10, gh, hq]
                exact ⟨by omega, hp⟩
      · simp (maxSteps := 4000000) (disch := first | omega | (simp only [List.length_set, List.length_replicate, List.length_append, List.length_take, List.length_drop, List.length_cons, List.length_nil]; omega)) only [go_sem, reduceCtorEq, Nat.reduceEqDiff, Nat.reduceAdd, Nat.reduceMul, Nat.reduceSub, ↓Nat.reduceBEq, Nat.reduceLT, Nat.reduceLeDiff, Int.reduceLT, Int.reduceLE, Int.reduceNeg, Int.reduceToNat]
        exact ⟨_, 0, rfl, .inr rfl, shoP_zero (digs x.natAbs) y.natAbs yn⟩
end Go.Proofs.YtjccikgdebgebaaGreatDoor.Abs
end
section
set_option linter.unusedSimpArgs false
namespace Go.Proofs.YtjccikgdebgebaaGreatDoor.Abs
open Go
set_option maxRecDepth 100000 in
set_option maxHeartbeats 1000000 in
theorem M_103 [SpC] (x y : Int) (hx : nd x < 2 ^ 27 - 1) (hy : nd y < 2 ^ 27) (h0 : y ≠ 0) : M X 103 [.agg [zS x, zD x], .agg [zS y, zD y]] =
    some (.tuple [.agg [zS (x / y), zD (x / y)], .agg [zS (x % y), zD (x % y)]]) := by
  refine M_of X (fn := Tryz.f103) Tryz.func103 rfl ok_103 mode_103 res_103 _ rfl _ ?_
  intro w hw
  obtain ⟨qs, hd, oq, vq, lq⟩ := M_137 x y (by omega) hy h0
  obtain ⟨d1, d2, d3, d4, d5⟩ := nat_div x y h0
  have he := Int.mul_ediv_add_emod (x.natAbs : Int) y.natAbs
  obtain ⟨q, hq⟩ : ∃ q, q = (x.natAbs : Int) / y.natAbs := ⟨_, rfl⟩
  obtain ⟨r, hr⟩ : ∃ r, r = (x.natAbs : Int) % y.natAbs := ⟨_, rfl⟩
  rw [← hr] at hd
  rw [← hq, ← hr] at he
  rw [← hq] at d1 d2 vq
  rw [← hr] at d3 d4 d5
  have yp := nd_pos y h0
  have nq : nd q ≤ nd x := nd_mono (by omega)
  have nr' : nd r ≤ nd y := nd_mono (by omega)
  have n1 := normZ true qs (-q) oq (by omega) (by rw [vq]; simp)
  have n2 := normZ false qs q oq (by omega) (by rw [vq]; simp)
  have n3 := normDg false r r (by omega) (by simp; omega)
  by_cases h1 : x < 0
  · by_cases h2 : r = 0
    · have rz := nd_zero r h2
      by_cases h3 : y < 0
      · have e := div_unique (x := x) (y := y) (q := q) (r := 0) (by rw [h2, show (y.natAbs : Int) = -y by omega, Int.neg_mul] at he; omega) (by omega) (by omega)
        simp (maxSteps := 4000000) (disch := first | omega | (simp only [List.length_set, List.length_replicate, List.length_append, List.length_take, List.length_drop, List.length_cons, List.length_nil]; omega)) only [go_sem, reduceCtorEq, Nat.reduceEqDiff, Nat.reduceAdd, Nat.reduceMul, Nat.reduceSub, ↓Nat.reduceBEq, Nat.reduceLT, Nat.reduceLeDiff, Int.reduceLT, Int.reduceLE, Int.reduceNeg, Int.reduceToNat, zS_neg x h1, zS_neg y h3, mode_137, mode_106, hd, n2, n3, rz]
        rw [hw, e.1, e.2, h2]
      · have e := div_unique (x := x) (y := y) (q := -q) (r := 0) (by rw [h2, show (y.natAbs : Int) = y by omega] at he; rw [Int.mul_neg]; omega) (by omega) (by omega)
        simp (maxSteps := 4000000) (disch := first | omega | (simp only [List.length_set, List.length_replicate, List.length_append, List.length_take, List.length_drop, List.length_cons, List.length_nil]; omega)) only [go_sem, reduceCtorEq, Nat.reduceEqDiff, Nat.reduceAdd, Nat.reduceMul, Nat.reduceSub, ↓Nat.reduceBEq, Nat.reduceLT, Nat.reduceLeDiff, Int.reduceLT, Int.reduceLE, Int.reduceNeg, Int.reduceToNat, zS_neg x h1, zS_pos y (Int.not_lt.1 h3), mode_137, mode_106, hd, n1, n3, rz]
        rw [hw, e.1, e.2, h2]
    · have rp := nd_pos r h2
      obtain ⟨m, m1, m5⟩ := rminusZ y r (by omega) (by omega)
      have m6 := m5 false (y.natAbs - r) (by simp; omega)
      have o1 := normZ true [1] (-1) (by intro d hd; simp at hd; subst hd; decide) (by decide) (by decide)
      have o2 := normZ false [1] 1 (by intro d hd; simp at hd; subst hd; decide) (by decide) (by decide)
      rw [isl_one] at o1 o2
      have nneg : nd (-q) = nd q := by rw [nd, nd, Int.natAbs_neg]
      have none1 : nd (-1) = 1 := nd_one
      have a1 := M_68 (-q) (-1) (by omega) (by omega)
      have a2 := M_68 q 1 (by omega) (by rw [nd_one]; decide)
      by_cases h3 : y < 0
      · have e := div_unique (x := x) (y := y) (q := q + 1) (r := y.natAbs - r) (by rw [show (y.natAbs : Int) = -y by omega] at he ⊢; rw [Int.neg_mul] at he; rw [Int.mul_add]; omega) (by omega) (by omega)
        simp (maxSteps := 4000000) (disch := first | omega | (simp only [List.length_set, List.length_replicate, List.length_append, List.length_take, List.length_drop, List.length_cons, List.length_nil]; omega)) only [go_sem, reduceCtorEq, Nat.reduceEqDiff, Nat.reduceAdd, Nat.reduceMul, Nat.reduceSub, ↓Nat.reduceBEq, Nat.reduceLT, Nat.reduceLeDiff, Int.reduceLT, Int.reduceLE, Int.reduceNeg, Int.reduceToNat, zS_neg x h1, zS_neg y h3, mode_137, mode_106, mode_109, mode_68, hd, n2, n3, o2, a2, m1, m6]
        rw [hw, e.1, e.2]
      · have e := div_unique (x := x) (y := y) (q := -q + -1) (r := y.natAbs - r) (by rw [show (y.natAbs : Int) = y by omega] at he ⊢; rw [Int.mul_add, Int.mul_neg]; omega) (by omega) (by omega)
        simp (maxSteps := 4000000) (disch := first | omega | (simp only [List.length_set, List.length_replicate, List.length_append, List.length_take, List.length_drop, List.length_cons, List.length_nil]; omega)) only [go_sem, reduceCtorEq, Nat.reduceEqDiff, Nat.reduceAdd, Nat.reduceMul, Nat.reduceSub, ↓Nat.reduceBEq, Nat.reduceLT, Nat.reduceLeDiff, Int.reduceLT, Int.reduceLE, Int.reduceNeg, Int.reduceToNat, zS_neg x h1, zS_pos y (Int.not_lt.1 h3), mode_137, mode_106, mode_109, mode_68, hd, n1, n3, o1, a1, m1, m6]
        rw [hw, e.1, e.2]
  · by_cases h3 : y < 0
    · have e := div_unique (x := x) (y := y) (q := -q) (r := r) (by rw [show (y.natAbs : Int) = -y by omega] at he; rw [Int.neg_mul] at he; rw [Int.mul_neg]; omega) (by omega) (by omega)
      simp (maxSteps := 4000000) (disch := first | omega | (simp only [List.length_set, List.length_replicate, List.length_append, List.length_take, List.length_drop, List.length_cons, List.length_nil]; omega)) only [go_sem, reduceCtorEq, Nat.reduceEqDiff, Nat.reduceAdd, Nat.reduceMul, Nat.reduceSub, ↓Nat.reduceBEq, Nat.reduceLT, Nat.reduceLeDiff, Int.reduceLT, Int.reduceLE, Int.reduceNeg, Int.reduceToNat, zS_pos x (Int.not_lt.1 h1), zS_neg y h3, mode_137, mode_106, hd, n1, n3]
      rw [hw, e.1, e.2]
    · have e := div_unique (x := x) (y := y) (q := q) (r := r) (by rw [show (y.natAbs : Int) = y by omega] at he; omega) (by omega) (by omega)
      simp (maxSteps := 4000000) (disch := first | omega | (simp only [List.length_set, List.length_replicate, List.length_append, List.length_take, List.length_drop, List.length_cons, List.length_nil]; omega)) only [go_sem, reduceCtorEq, Nat.reduceEqDiff, Nat.reduceAdd, Nat.reduceMul, Nat.reduceSub, ↓Nat.reduceBEq, Nat.reduceLT, Nat.reduceLeDiff, Int.reduceLT, Int.reduceLE, Int.reduceNeg, Int.reduceToNat, zS_pos x (Int.not_lt.1 h1), zS_pos y (Int.not_lt.1 h3), mode_137, mode_106, hd, n2, n3]
      rw [hw, e.1, e.2]
set_option maxRecDepth 100000 in
theorem rDiv_zero [SpC] (x y : Int) (h0 : y = 0) : M X 103 [.agg [zS x, zD x], .agg [zS y, zD y]] = some (.tuple [.agg [zS 0, zD 0], .agg [zS 0, zD 0]]) := by
  refine M_of X (fn := Tryz.f103) Tryz.func103 rfl ok_103 mode_103 res_103 _ rfl _ ?_
  intro w hw
  have yz := nd_zero y h0
  simp (maxSteps := 4000000) (disch := first | omega | (simp only [List.length_set, List.length_replicate, List.length_append, List.length_take, List.length_drop, List.length_cons, List.length_nil]; omega)) only [go_sem, reduceCtorEq, Nat.reduceEqDiff, Nat.reduceAdd, Nat.reduceMul, Nat.reduceSub, ↓Nat.reduceBEq, Nat.reduceLT, Nat.reduceLeDiff, Int.reduceLT, Int.reduceLE, Int.reduceNeg, Int.reduceToNat, yz]
  rw [hw, zz_zero]
set_option maxRecDepth 100000 in
set_option maxHeartbeats 1000000 in
theorem M_102 [SpC] (x y : Int) (hx : nd x < 2 ^ 27 - 1) (hy : nd y < 2 ^ 27 - 1) : M X 102 [.agg [zS x, zD x], .agg [zS y, zD y]] = some (.agg [zS (Int.gcd x y), zD (Int.gcd x y)]) := by
  refine M_of X (fn := Tryz.f102) Tryz.func102 rfl ok_102 mode_102 res_102 _ rfl _ ?_
  intro r hr
  have ox := normDg false x (x.natAbs : Int) (by omega) (by simp)
  have oy := normDg false y (y.natAbs : Int) (by omega) (by simp)
  simp (maxSteps := 4000000) (disch := first | omega | (simp only [List.length_set, List.length_replicate, List.length_append, List.length_take, List.length_drop, List.length_cons, List.length_nil]; omega)) only [go_sem, reduceCtorEq, Nat.reduceEqDiff, Nat.reduceAdd, Nat.reduceMul, Nat.reduceSub, ↓Nat.reduceBEq, Nat.reduceLT, Nat.reduceLeDiff, Int.reduceLT, Int.reduceLE, Int.reduceNeg, Int.reduceToNat, mode_106, ox, oy]
  refine W_loop X (fun (n : Nat) s => s.env 4 = .ptr 16 0 ∧ s.env 5 = .ptr 48 0 ∧ s.env 6 = .ptr 88 0 ∧ 88 < s.next ∧ s.heap 16 = some (.cells [.bool false, .ro [] 0 false] false false) ∧ ∃ m : Nat, s.heap 48 = some (.cells [zS m, zD m] false false) ∧ s.heap 88 = some (.cells [zS n, zD n] false false) ∧ nd m < 2 ^ 27 - 1 ∧ nd n < 2 ^ 27 - 1 ∧ Nat.gcd m n = Int.gcd x y) (fun n => n) ?_ y.natAbs _ ?_
  · rintro n ⟨env, heap, nx⟩ ⟨g4, g5, g6, hnx, h16, m, h72, h80, hm, hn, hg⟩
    simp only at g4 g5 g6 hnx h16 h72 h80
    by_cases h0 : n = 0
    · have nz := nd_zero (n : Int) (by omega)
      simp (maxSteps := 4000000) (disch := first | omega | (simp only [List.length_set, List.length_replicate, List.length_append, List.length_take, List.length_drop, List.length_cons, List.length_nil]; omega)) only [go_sem, reduceCtorEq, Nat.reduceEqDiff, Nat.reduceAdd, Nat.reduceMul, Nat.reduceSub, ↓Nat.reduceBEq, Nat.reduceLT, Nat.reduceLeDiff, Int.reduceLT, Int.reduceLE, Int.reduceNeg, Int.reduceToNat, g4, g5, g6, h16, h72, h80, nz]
      rw [h0, Nat.gcd_zero_right] at hg
      rw [hr, ← hg]
    · have np := nd_pos (n : Int) (by omega)
      by_cases h1 : nd (m : Int) ≤ 2 ∧ nd (n : Int) ≤ 2
      · have m2 := (nd_le_two _).1 h1.1
        have n2 := (nd_le_two _).1 h1.2
        have t1 := M_136 (m : Int) m2
        have t2 := M_136 (n : Int) n2
        rw [Int.natAbs_natCast] at t1 t2 m2 n2
        simp (maxSteps := 4000000) (disch := first | omega | (simp only [List.length_set, List.length_replicate, List.length_append, List.length_take, List.length_drop, List.length_cons, List.length_nil]; omega)) only [go_sem, reduceCtorEq, Nat.reduceEqDiff, Nat.reduceAdd, Nat.reduceMul, Nat.reduceSub, ↓Nat.reduceBEq, Nat.reduceLT, Nat.reduceLeDiff, Int.reduceLT, Int.reduceLE, Int.reduceNeg, Int.reduceToNat, g4, g5, g6, h16, h72, h80, mode_136, t1, t2]
        refine W_loop X (fun (n : Nat) s => s.env 4 = .ptr 16 0 ∧ 88 < s.next ∧ s.heap 16 = some (.cells [.bool false, .ro [] 0 false] false false) ∧ ∃ m : Nat, s.env 7 = .int .i64 m ∧ s.env 8 = .int .i64 n ∧ m < 1000000000000000000 ∧ n < 1000000000000000000 ∧ Nat.gcd m n = Int.gcd x y) (fun n => n) ?_ n _ ?_
        · clear g4 g5 g6 hnx h16 h72 h80 t1 t2 hm hn np h0 h1 hg m2 n2
          rintro n' ⟨env, heap, nx⟩ ⟨g4, hnx, h16, m', g7, g8, hm, hn, hg⟩
          simp only at g4 hnx h16 g7 g8
          by_cases h2 : n' = 0
          · rw [h2, Nat.gcd_zero_right] at hg
            have u1 := M_64 (m' : Int) (by omega)
            simp (maxSteps := 4000000) (disch := first | omega | (simp only [List.length_set, List.length_replicate, List.length_append, List.length_take, List.length_drop, List.length_cons, List.length_nil]; omega)) only [go_sem, reduceCtorEq, Nat.reduceEqDiff, Nat.reduceAdd, Nat.reduceMul, Nat.reduceSub, ↓Nat.reduceBEq, Nat.reduceLT, Nat.reduceLeDiff, Int.reduceLT, Int.reduceLE, Int.reduceNeg, Int.reduceToNat, g4, g7, g8, h16, mode_64, u1]
            rw [hr, ← hg]
          · have hlt := Nat.mod_lt m' (show 0 < n' by omega)
            simp (maxSteps := 4000000) (disch := first | omega | (simp only [List.length_set, List.length_replicate, List.length_append, List.length_take, List.length_drop, List.length_cons, List.length_nil]; omega)) only [go_sem, reduceCtorEq, Nat.reduceEqDiff, Nat.reduceAdd, Nat.reduceMul, Nat.reduceSub, ↓Nat.reduceBEq, Nat.reduceLT, Nat.reduceLeDiff, Int.reduceLT, Int.reduceLE, Int.reduceNeg, Int.reduceToNat, g4, g7, g8, h16]
            exact ⟨m' % n', ⟨by omega, n', rfl, rfl, hn, by omega, by rw [gcd_step, hg]⟩, by omega⟩
        · simp (maxSteps := 4000000) (disch := first | omega | (simp only [List.length_set, List.length_replicate, List.length_append, List.length_take, List.length_drop, List.length_cons, List.length_nil]; omega)) only [go_sem, reduceCtorEq, Nat.reduceEqDiff, Nat.reduceAdd, Nat.reduceMul, Nat.reduceSub, ↓Nat.reduceBEq, Nat.reduceLT, Nat.reduceLeDiff, Int.reduceLT, Int.reduceLE, Int.reduceNeg, Int.reduceToNat, g4, h16]
          exact ⟨by omega, m, rfl, m2, n2, hg⟩
      · have hd := M_103 m n hm (by omega) (by omega)
        have hlt := Nat.mod_lt m (show 0 < n by omega)
        by_cases h2 : nd (m : Int) ≤ 2
        all_goals
          try have h3 : ¬ nd (n : Int) ≤ 2 := fun h' => h1 ⟨h2, h'⟩
          simp (maxSteps := 4000000) (disch := first | omega | (simp only [List.length_set, List.length_replicate, List.length_append, List.length_take, List.length_drop, List.length_cons, List.length_nil]; omega)) only [go_sem, reduceCtorEq, Nat.reduceEqDiff, Nat.reduceAdd, Nat.reduceMul, Nat.reduceSub, ↓Nat.reduceBEq, Nat.reduceLT, Nat.reduceLeDiff, Int.reduceLT, Int.reduceLE, Int.reduceNeg, Int.reduceToNat, g4, g5, g6, h16, h72, h80, mode_103, hd]
          exact ⟨m % n, ⟨by omega, n, rfl, rfl, hn, Nat.lt_of_le_of_lt (nd_natmono (by omega)) hn, by rw [gcd_step, hg]⟩, by omega⟩
  · simp (maxSteps := 4000000) (disch := first | omega | (simp only [List.length_set, List.length_replicate, List.length_append, List.length_take, List.length_drop, List.length_cons, List.length_nil]; omega)) only [go_sem, reduceCtorEq, Nat.reduceEqDiff, Nat.reduceAdd, Nat.reduceMul, Nat.reduceSub, ↓Nat.reduceBEq, Nat.reduceLT, Nat.reduceLeDiff, Int.reduceLT, Int.reduceLE, Int.reduceNeg, Int.reduceToNat]
    exact ⟨x.natAbs, rfl, by rw [nd_nat]; exact hx, by rw [nd_nat]; exact hy, rfl⟩
end Go.Proofs.YtjccikgdebgebaaGreatDoor.Abs
end
section
set_option linter.unusedSimpArgs false
namespace Go.Proofs.YtjccikgdebgebaaGreatDoor.Abs
open Go
/-- The denominator as it is laid: 0 for 1. -/
def dz (x : Rat) : Int := if x.den = 1 then 0 else x.den
theorem dz_one {x : Rat} (h : x.den = 1) : dz x = 0 := if_pos h
theorem dz_ne {x : Rat} (h : x.den ≠ 1) : dz x = x.den := if_neg h
theorem dz_nonneg (x : Rat) : 0 ≤ dz x := by unfold dz; split <;> omega
theorem den_pos (x : Rat) : 0 < x.den := Nat.pos_of_ne_zero x.den_nz
/-- A number in lowest terms. -/
theorem dI {p q : Int} (hq : 0 < q) (hc : Int.gcd p q = 1) : (Rat.divInt p q).num = p ∧ ((Rat.divInt p q).den : Int) = q := by
  have e : q = (q.toNat : Int) := by omega
  have hc' : Nat.gcd p.natAbs q.toNat = 1 := by
    have : q.natAbs = q.toNat := by omega
    rw [← this]; exact hc
  have h := Rat.mk_eq_divInt (num := p) (den := q.toNat) (nz := by omega) (c := hc')
  rw [← e] at h
  rw [← h]; exact ⟨rfl, by simp; omega⟩
theorem divInt_neg_neg (p q : Int) : Rat.divInt (-p) (-q) = Rat.divInt p q := Rat.neg_divInt_neg p q
theorem gcd_neg_neg (p q : Int) : Int.gcd (-p) (-q) = Int.gcd p q := by simp [Int.gcd]
theorem divInt_gcd {p q : Int} (hq : q ≠ 0) : Rat.divInt (p / Int.gcd p q) (q / Int.gcd p q) = Rat.divInt p q ∧ Int.gcd (p / Int.gcd p q) (q / Int.gcd p q) = 1 ∧ q / Int.gcd p q ≠ 0 := by
  have hg : (Int.gcd p q : Int) ≠ 0 := by
    intro h
    have : Int.gcd p q = 0 := by omega
    exact hq (Int.gcd_eq_zero_iff.1 this).2
  have h1 : p / Int.gcd p q * Int.gcd p q = p := Int.ediv_mul_cancel (Int.gcd_dvd_left ..)
  have h2 : q / Int.gcd p q * Int.gcd p q = q := Int.ediv_mul_cancel (Int.gcd_dvd_right ..)
  have h3 : q / Int.gcd p q ≠ 0 := fun h => by rw [h] at h2; simp at h2; exact hq h2.symm
  refine ⟨?_, ?_, h3⟩
  · have := Rat.divInt_mul_right (n := p / Int.gcd p q) (d := q / Int.gcd p q) hg
    rw [h1, h2] at this
    exact this.symm
  · have e : Int.gcd (p / Int.gcd p q * Int.gcd p q) (q / Int.gcd p q * Int.gcd p q) = Int.gcd (p / Int.gcd p q) (q / Int.gcd p q) * Int.gcd p q := by
      rw [Int.gcd_mul_right]; simp
    rw [h1, h2] at e
    have hg' : 0 < Int.gcd p q := by omega
    have : Int.gcd (p / Int.gcd p q) (q / Int.gcd p q) * Int.gcd p q = 1 * Int.gcd p q := by omega
    exact Nat.eq_of_mul_eq_mul_right hg' this
/-- How many digits a number needs. -/
def sz (x : Rat) : Nat := max (nd x.num) (nd x.den)
class RS (x : Rat) (n : outParam Nat) : Prop where
  le : sz x ≤ n
theorem RS.num {x : Rat} {n : Nat} [h : RS x n] : nd x.num ≤ n := by have := h.le; unfold sz at this; omega
theorem RS.den {x : Rat} {n : Nat} [h : RS x n] : nd (x.den : Int) ≤ n := by have := h.le; unfold sz at this; omega
theorem RS.of {x : Rat} {n : Nat} (h1 : nd x.num ≤ n) (h2 : nd (x.den : Int) ≤ n) : RS x n := ⟨by unfold sz; omega⟩
theorem RS.mono {x : Rat} {n m : Nat} (h : RS x n) (hm : n ≤ m) : RS x m := ⟨by have := h.le; omega⟩
theorem rs_divInt {p q : Int} {n : Nat} (hn : 1 ≤ n) (hp : nd p ≤ n) (hq : nd q ≤ n) : RS (Rat.divInt p q) n := by
  by_cases h : q = 0
  · subst h; rw [Rat.divInt_zero]
    exact RS.of (by rw [show (0 : Rat).num = 0 from rfl, nd_zero 0 rfl]; omega) (by rw [show ((0 : Rat).den : Int) = 1 from rfl, nd_one]; omega)
  · obtain ⟨h1, h2, h3⟩ := divInt_gcd (p := p) h
    have k1 : (p / Int.gcd p q).natAbs ≤ p.natAbs := by
      rw [Int.natAbs_ediv_of_dvd (Int.gcd_dvd_left ..)]; exact Nat.div_le_self _ _
    have k2 : (q / Int.gcd p q).natAbs ≤ q.natAbs := by
      rw [Int.natAbs_ediv_of_dvd (Int.gcd_dvd_right ..)]; exact Nat.div_le_self _ _
    rw [← h1]
    generalize p / Int.gcd p q = a at *
    generalize q / Int.gcd p q = b at *
    rcases Int.lt_or_gt_of_ne h3 with hb | hb
    · rw [← divInt_neg_neg]
      obtain ⟨e1, e2⟩ := dI (p := -a) (q := -b) (by omega) (by rw [gcd_neg_neg]; exact h2)
      exact RS.of (Nat.le_trans (by rw [e1]; exact nd_mono (by omega)) hp) (Nat.le_trans (by rw [e2]; exact nd_mono (by omega)) hq)
    · obtain ⟨e1, e2⟩ := dI (p := a) (q := b) (by omega) h2
      exact RS.of (Nat.le_trans (by rw [e1]; exact nd_mono k1) hp) (Nat.le_trans (by rw [e2]; exact nd_mono k2) hq)
theorem nd_den_pos (x : Rat) : 1 ≤ nd (x.den : Int) := nd_pos _ (by have := den_pos x; omega)
theorem nd_neg (x : Int) : nd (-x) = nd x := by rw [nd, nd, Int.natAbs_neg]
theorem add_divInt (x y : Rat) : x + y = Rat.divInt (x.num * y.den + y.num * x.den) ((x.den : Int) * y.den) := by
  rw [Rat.add_def', ← Int.natCast_mul, Rat.divInt_ofNat]
theorem mul_divInt (x y : Rat) : x * y = Rat.divInt (x.num * y.num) ((x.den : Int) * y.den) := by
  rw [Rat.mul_def', ← Int.natCast_mul, Rat.divInt_ofNat]
theorem div_divInt (x y : Rat) : x / y = Rat.divInt (x.num * y.den) ((x.den : Int) * y.num) := by
  rw [Rat.div_def, Rat.inv_def]
  conv => lhs; rw [← Rat.num_divInt_den x]
  rw [Rat.divInt_mul_divInt]
instance rs_add {x y : Rat} {n m : Nat} [hx : RS x n] [hy : RS y m] : RS (x + y) (n + m + 1) := by
  have a1 := hx.num; have a2 := hx.den; have a3 := hy.num; have a4 := hy.den
  rw [add_divInt]
  have b1 := nd_mul x.num y.den; have b2 := nd_mul y.num x.den; have b3 := nd_mul (x.den : Int) y.den
  have b4 := nd_add (x.num * y.den) (y.num * x.den)
  exact rs_divInt (by omega) (by omega) (by omega)
instance rs_mul {x y : Rat} {n m : Nat} [hx : RS x n] [hy : RS y m] : RS (x * y) (n + m) := by
  have a1 := hx.num; have a2 := hx.den; have a3 := hy.num; have a4 := hy.den
  rw [mul_divInt]
  have b1 := nd_mul x.num y.num; have b3 := nd_mul (x.den : Int) y.den
  have := nd_den_pos x
  exact rs_divInt (by omega) (by omega) (by omega)
instance rs_div {x y : Rat} {n m : Nat} [hx : RS x n] [hy : RS y m] : RS (x / y) (n + m) := by
  have a1 := hx.num; have a2 := hx.den; have a3 := hy.num; have a4 := hy.den
  rw [div_divInt]
  have b1 := nd_mul x.num y.den; have b3 := nd_mul (x.den : Int) y.num
  have := nd_den_pos x
  exact rs_divInt (by omega) (by omega) (by omega)
instance rs_neg {x : Rat} {n : Nat} [hx : RS x n] : RS (-x) n := RS.of (by rw [Rat.neg_num, nd_neg]; exact hx.num) (by rw [Rat.neg_den]; exact hx.den)
instance rs_sub {x y : Rat} {n m : Nat} [hx : RS x n] [hy : RS y m] : RS (x - y) (n + m + 1) := by
  rw [Rat.sub_eq_add_neg]; exact rs_add
instance rs_zero : RS 0 1 := RS.of (by rw [show (0 : Rat).num = 0 from rfl, nd_zero 0 rfl]; omega) (by rw [show ((0 : Rat).den : Int) = 1 from rfl, nd_one]; omega)
theorem num_zero_iff (x : Rat) : x.num = 0 ↔ x = 0 := Rat.num_eq_zero
theorem zz_rat : AV.agg [.bool false, .ro [] 0 false, .bool false, .ro [] 0 false] = .agg [zS (Rat.num (0)), zD (Rat.num (0)), zS (dz (0)), zD (dz (0))] := by
  rw [show dz 0 = 0 from rfl, show (0 : Rat).num = 0 from rfl, zz_nil, zz_false]
/-- The order of two rational numbers. -/
def cmpQ (x y : Rat) : Int := if x < y then -1 else if y < x then 1 else 0
theorem cmpQ_num (x y : Rat) : cmpZ (x.num * y.den) (y.num * x.den) = cmpQ x y := by
  unfold cmpZ cmpQ
  simp only [Rat.lt_iff]
theorem cmpQ_sign (x : Rat) : cmpZ x.num 0 = cmpQ x 0 := by
  rw [← cmpQ_num]; simp
end Go.Proofs.YtjccikgdebgebaaGreatDoor.Abs
end
section
set_option linter.unusedSimpArgs false
namespace Go.Proofs.YtjccikgdebgebaaGreatDoor.Abs
open Go
set_option maxRecDepth 100000 in
theorem M_132 [SpC] (x : Int) (hx : nd x < 2 ^ 40) : M X 132 [.agg [zS x, zD x]] = some (.bool (decide (x = 1))) := by
  refine M_of X (fn := Tryz.f132) Tryz.func132 rfl ok_132 mode_132 res_132 _ rfl _ ?_
  intro r hr
  by_cases h0 : x = 0
  · have := nd_zero x h0
    simp (maxSteps := 4000000) (disch := first | omega | (simp only [List.length_set, List.length_replicate, List.length_append, List.length_take, List.length_drop, List.length_cons, List.length_nil]; omega)) only [go_sem, reduceCtorEq, Nat.reduceEqDiff, Nat.reduceAdd, Nat.reduceMul, Nat.reduceSub, ↓Nat.reduceBEq, Nat.reduceLT, Nat.reduceLeDiff, Int.reduceLT, Int.reduceLE, Int.reduceNeg, Int.reduceToNat, zS_pos x (by omega)]
    rw [hr, decide_eq_false (by omega)]
  · by_cases h1 : x.natAbs < 1000000000
    · rw [zD_one x h0 h1]
      by_cases h2 : x < 0
      · simp (maxSteps := 4000000) (disch := first | omega | (simp only [List.length_set, List.length_replicate, List.length_append, List.length_take, List.length_drop, List.length_cons, List.length_nil]; omega)) only [go_sem, reduceCtorEq, Nat.reduceEqDiff, Nat.reduceAdd, Nat.reduceMul, Nat.reduceSub, ↓Nat.reduceBEq, Nat.reduceLT, Nat.reduceLeDiff, Int.reduceLT, Int.reduceLE, Int.reduceNeg, Int.reduceToNat, zS_neg x h2]
        rw [hr, decide_eq_false (by omega)]
      · by_cases h3 : x = 1
        · subst h3
          simp (maxSteps := 4000000) (disch := first | omega | (simp only [List.length_set, List.length_replicate, List.length_append, List.length_take, List.length_drop, List.length_cons, List.length_nil]; omega)) only [go_sem, reduceCtorEq, Nat.reduceEqDiff, Nat.reduceAdd, Nat.reduceMul, Nat.reduceSub, ↓Nat.reduceBEq, Nat.reduceLT, Nat.reduceLeDiff, Int.reduceLT, Int.reduceLE, Int.reduceNeg, Int.reduceToNat, zS_pos 1 (by omega)]
          rw [hr]; rfl
        · simp (maxSteps := 4000000) (disch := first | omega | (simp only [List.length_set, List.length_replicate, List.length_append, List.length_take, List.length_drop, List.length_cons, List.length_nil]; omega)) only [go_sem, reduceCtorEq, Nat.reduceEqDiff, Nat.reduceAdd, Nat.reduceMul, Nat.reduceSub, ↓Nat.reduceBEq, Nat.reduceLT, Nat.reduceLeDiff, Int.reduceLT, Int.reduceLE, Int.reduceNeg, Int.reduceToNat, zS_pos x (Int.not_lt.1 h2)]
          rw [hr, decide_eq_false h3]
    · have := nd_le_one x
      by_cases h2 : x < 0
      · simp (maxSteps := 4000000) (disch := first | omega | (simp only [List.length_set, List.length_replicate, List.length_append, List.length_take, List.length_drop, List.length_cons, List.length_nil]; omega)) only [go_sem, reduceCtorEq, Nat.reduceEqDiff, Nat.reduceAdd, Nat.reduceMul, Nat.reduceSub, ↓Nat.reduceBEq, Nat.reduceLT, Nat.reduceLeDiff, Int.reduceLT, Int.reduceLE, Int.reduceNeg, Int.reduceToNat, zS_neg x h2]
        rw [hr, decide_eq_false (by omega)]
      · simp (maxSteps := 4000000) (disch := first | omega | (simp only [List.length_set, List.length_replicate, List.length_append, List.length_take, List.length_drop, List.length_cons, List.length_nil]; omega)) only [go_sem, reduceCtorEq, Nat.reduceEqDiff, Nat.reduceAdd, Nat.reduceMul, Nat.reduceSub, ↓Nat.reduceBEq, Nat.reduceLT, Nat.reduceLeDiff, Int.reduceLT, Int.reduceLE, Int.reduceNeg, Int.reduceToNat, zS_pos x (Int.not_lt.1 h2)]
        rw [hr, decide_eq_false (by omega)]
set_option maxRecDepth 100000 in
theorem M_130 [SpC] : M X 130 [] = some (.agg [zS 1, zD 1]) := by
  refine M_of X (fn := Tryz.f130) Tryz.func130 rfl ok_130 mode_130 res_130 _ rfl _ ?_
  intro r hr
  have h := M_97 1 (by omega)
  simp (maxSteps := 4000000) (disch := first | omega | (simp only [List.length_set, List.length_replicate, List.length_append, List.length_take, List.length_drop, List.length_cons, List.length_nil]; omega)) only [go_sem, reduceCtorEq, Nat.reduceEqDiff, Nat.reduceAdd, Nat.reduceMul, Nat.reduceSub, ↓Nat.reduceBEq, Nat.reduceLT, Nat.reduceLeDiff, Int.reduceLT, Int.reduceLE, Int.reduceNeg, Int.reduceToNat, mode_97, h]
  rw [hr]
set_option maxRecDepth 100000 in
theorem M_125 [SpC] (p q : Int) (_ : nd p < 2 ^ 28) (hq : nd q < 2 ^ 28) (h0 : q ≠ 0) (hc : Int.gcd p q = 1) : M X 125 [.agg [zS p, zD p], .agg [zS q, zD q]] = some (.agg [zS (Rat.num (Rat.divInt p q)), zD (Rat.num (Rat.divInt p q)), zS (dz (Rat.divInt p q)), zD (dz (Rat.divInt p q))]) := by
  refine M_of X (fn := Tryz.f125) Tryz.func125 rfl ok_125 mode_125 res_125 _ rfl _ ?_
  intro r hr
  by_cases h1 : q < 0
  · have n1 := M_124 p
    have n2 := M_124 q
    have u := M_132 (-q) (by rw [nd_neg]; omega)
    obtain ⟨e1, e2⟩ := dI (p := -p) (q := -q) (by omega) (by rw [gcd_neg_neg]; exact hc)
    rw [divInt_neg_neg] at e1 e2
    rw [zS_neg q h1] at n2 ⊢
    by_cases h2 : -q = 1
    · rw [decide_eq_true h2] at u
      simp (maxSteps := 4000000) (disch := first | omega | (simp only [List.length_set, List.length_replicate, List.length_append, List.length_take, List.length_drop, List.length_cons, List.length_nil]; omega)) only [go_sem, reduceCtorEq, Nat.reduceEqDiff, Nat.reduceAdd, Nat.reduceMul, Nat.reduceSub, ↓Nat.reduceBEq, Nat.reduceLT, Nat.reduceLeDiff, Int.reduceLT, Int.reduceLE, Int.reduceNeg, Int.reduceToNat, mode_124, mode_132, n1, n2, u]
      rw [hr, dz_one (by omega), e1, zz_nil, zz_false]
    · rw [decide_eq_false h2] at u
      simp (maxSteps := 4000000) (disch := first | omega | (simp only [List.length_set, List.length_replicate, List.length_append, List.length_take, List.length_drop, List.length_cons, List.length_nil]; omega)) only [go_sem, reduceCtorEq, Nat.reduceEqDiff, Nat.reduceAdd, Nat.reduceMul, Nat.reduceSub, ↓Nat.reduceBEq, Nat.reduceLT, Nat.reduceLeDiff, Int.reduceLT, Int.reduceLE, Int.reduceNeg, Int.reduceToNat, mode_124, mode_132, n1, n2, u]
      rw [hr, dz_ne (by omega), e1, e2]
  · have u := M_132 q (by omega)
    obtain ⟨e1, e2⟩ := dI (p := p) (q := q) (by omega) hc
    have hs := zS_pos q (Int.not_lt.1 h1)
    by_cases h2 : q = 1
    · rw [decide_eq_true h2] at u
      rw [hs] at u ⊢
      simp (maxSteps := 4000000) (disch := first | omega | (simp only [List.length_set, List.length_replicate, List.length_append, List.length_take, List.length_drop, List.length_cons, List.length_nil]; omega)) only [go_sem, reduceCtorEq, Nat.reduceEqDiff, Nat.reduceAdd, Nat.reduceMul, Nat.reduceSub, ↓Nat.reduceBEq, Nat.reduceLT, Nat.reduceLeDiff, Int.reduceLT, Int.reduceLE, Int.reduceNeg, Int.reduceToNat, mode_132, u]
      rw [hr, dz_one (by omega), e1, zz_nil, zz_false]
    · rw [decide_eq_false h2] at u
      rw [hs] at u ⊢
      simp (maxSteps := 4000000) (disch := first | omega | (simp only [List.length_set, List.length_replicate, List.length_append, List.length_take, List.length_drop, List.length_cons, List.length_nil]; omega)) only [go_sem, reduceCtorEq, Nat.reduceEqDiff, Nat.reduceAdd, Nat.reduceMul, Nat.reduceSub, ↓Nat.reduceBEq, Nat.reduceLT, Nat.reduceLeDiff, Int.reduceLT, Int.reduceLE, Int.reduceNeg, Int.reduceToNat, mode_132, u]
      rw [hr, dz_ne (by omega), e1, e2, hs]
set_option maxRecDepth 100000 in
theorem M_95 [SpC] (p q : Int) (hp : nd p < 2 ^ 27) (hq : nd q < 2 ^ 27) : M X 95 [.agg [zS p, zD p], .agg [zS q, zD q]] = some (.agg [zS (Rat.num (Rat.divInt p q)), zD (Rat.num (Rat.divInt p q)), zS (dz (Rat.divInt p q)), zD (dz (Rat.divInt p q))]) := by
  refine M_of X (fn := Tryz.f95) Tryz.func95 rfl ok_95 mode_95 res_95 _ rfl _ ?_
  intro r hr
  by_cases h0 : q = 0
  · have n0 := nd_zero q h0
    simp (maxSteps := 4000000) (disch := first | omega | (simp only [List.length_set, List.length_replicate, List.length_append, List.length_take, List.length_drop, List.length_cons, List.length_nil]; omega)) only [go_sem, reduceCtorEq, Nat.reduceEqDiff, Nat.reduceAdd, Nat.reduceMul, Nat.reduceSub, ↓Nat.reduceBEq, Nat.reduceLT, Nat.reduceLeDiff, Int.reduceLT, Int.reduceLE, Int.reduceNeg, Int.reduceToNat, n0]
    rw [hr, zz_rat, h0, Rat.divInt_zero]
  · have nq := nd_pos q h0
    by_cases h1 : p = 0
    · have n0 := nd_zero p h1
      simp (maxSteps := 4000000) (disch := first | omega | (simp only [List.length_set, List.length_replicate, List.length_append, List.length_take, List.length_drop, List.length_cons, List.length_nil]; omega)) only [go_sem, reduceCtorEq, Nat.reduceEqDiff, Nat.reduceAdd, Nat.reduceMul, Nat.reduceSub, ↓Nat.reduceBEq, Nat.reduceLT, Nat.reduceLeDiff, Int.reduceLT, Int.reduceLE, Int.reduceNeg, Int.reduceToNat, n0]
      rw [hr, zz_rat, h1, Rat.zero_divInt]
    · have np := nd_pos p h1
      have hg := M_131 p q (by omega) (by omega)
      have gl : nd (Int.gcd p q : Int) ≤ nd q := nd_mono (by have := Nat.le_of_dvd (by omega) (Nat.gcd_dvd_right p.natAbs q.natAbs); exact this)
      have hu := M_132 (Int.gcd p q : Int) (by omega)
      obtain ⟨g1, g2, g3⟩ := divInt_gcd (p := p) h0
      by_cases h2 : Int.gcd p q = 1
      · rw [h2, decide_eq_true (by rfl)] at hu
        rw [h2] at hg
        have hl := M_125 p q (by omega) (by omega) h0 h2
        simp (maxSteps := 4000000) (disch := first | omega | (simp only [List.length_set, List.length_replicate, List.length_append, List.length_take, List.length_drop, List.length_cons, List.length_nil]; omega)) only [go_sem, reduceCtorEq, Nat.reduceEqDiff, Nat.reduceAdd, Nat.reduceMul, Nat.reduceSub, ↓Nat.reduceBEq, Nat.reduceLT, Nat.reduceLeDiff, Int.reduceLT, Int.reduceLE, Int.reduceNeg, Int.reduceToNat, mode_131, mode_132, mode_125, hg, hu, hl]
        rw [hr]
      · rw [decide_eq_false (by omega)] at hu
        have g0 : (Int.gcd p q : Int) ≠ 0 := by
          intro h
          have : Int.gcd p q = 0 := by omega
          exact h0 (Int.gcd_eq_zero_iff.1 this).2
        have hd1 := M_133 p (Int.gcd p q) (by omega) (by omega) g0
        have hd2 := M_133 q (Int.gcd p q) (by omega) (by omega) g0
        have k1 : nd (p / Int.gcd p q) ≤ nd p := nd_mono (by rw [Int.natAbs_ediv_of_dvd (Int.gcd_dvd_left ..)]; exact Nat.div_le_self _ _)
        have k2 : nd (q / Int.gcd p q) ≤ nd q := nd_mono (by rw [Int.natAbs_ediv_of_dvd (Int.gcd_dvd_right ..)]; exact Nat.div_le_self _ _)
        have hl := M_125 (p / Int.gcd p q) (q / Int.gcd p q) (by omega) (by omega) g3 g2
        rw [g1] at hl
        simp (maxSteps := 4000000) (disch := first | omega | (simp only [List.length_set, List.length_replicate, List.length_append, List.length_take, List.length_drop, List.length_cons, List.length_nil]; omega)) only [go_sem, reduceCtorEq, Nat.reduceEqDiff, Nat.reduceAdd, Nat.reduceMul, Nat.reduceSub, ↓Nat.reduceBEq, Nat.reduceLT, Nat.reduceLeDiff, Int.reduceLT, Int.reduceLE, Int.reduceNeg, Int.reduceToNat, mode_131, mode_133, mode_132, mode_125, hg, hu, hl, hd1, hd2]
        rw [hr]
set_option maxRecDepth 100000 in
theorem M_53 [SpC] (p q : Int) (hp : -9223372036854775808 ≤ p ∧ p ≤ 9223372036854775807) (hq : -9223372036854775808 ≤ q ∧ q ≤ 9223372036854775807) : M X 53 [.int .i64 p, .int .i64 q] = some (.agg [zS (Rat.num (Rat.divInt p q)), zD (Rat.num (Rat.divInt p q)), zS (dz (Rat.divInt p q)), zD (dz (Rat.divInt p q))]) := by
  refine M_of X (fn := Tryz.f53) Tryz.func53 rfl ok_53 mode_53 res_53 _ rfl _ ?_
  intro r hr
  have h1 := M_97 p hp
  have h2 := M_97 q hq
  have b1 := nd_small p (by omega)
  have b2 := nd_small q (by omega)
  have h3 := M_95 p q (by omega) (by omega)
  simp (maxSteps := 4000000) (disch := first | omega | (simp only [List.length_set, List.length_replicate, List.length_append, List.length_take, List.length_drop, List.length_cons, List.length_nil]; omega)) only [go_sem, reduceCtorEq, Nat.reduceEqDiff, Nat.reduceAdd, Nat.reduceMul, Nat.reduceSub, ↓Nat.reduceBEq, Nat.reduceLT, Nat.reduceLeDiff, Int.reduceLT, Int.reduceLE, Int.reduceNeg, Int.reduceToNat, mode_97, mode_95, h1, h2, h3]
  rw [hr]
set_option maxRecDepth 100000 in
theorem M_94 [SpC] (x : Rat) : M X 94 [.agg [zS (Rat.num (x)), zD (Rat.num (x)), zS (dz (x)), zD (dz (x))]] = some (.agg [zS x.den, zD x.den]) := by
  refine M_of X (fn := Tryz.f94) Tryz.func94 rfl ok_94 mode_94 res_94 _ rfl _ ?_
  intro r hr
  by_cases h : x.den = 1
  · have h0 := nd_zero (dz x) (dz_one h)
    simp (maxSteps := 4000000) (disch := first | omega | (simp only [List.length_set, List.length_replicate, List.length_append, List.length_take, List.length_drop, List.length_cons, List.length_nil]; omega)) only [go_sem, reduceCtorEq, Nat.reduceEqDiff, Nat.reduceAdd, Nat.reduceMul, Nat.reduceSub, ↓Nat.reduceBEq, Nat.reduceLT, Nat.reduceLeDiff, Int.reduceLT, Int.reduceLE, Int.reduceNeg, Int.reduceToNat, h0, mode_130, M_130]
    rw [hr, h]; rfl
  · have e := dz_ne h
    have h0 := nd_pos (dz x) (by have := den_pos x; omega)
    simp (maxSteps := 4000000) (disch := first | omega | (simp only [List.length_set, List.length_replicate, List.length_append, List.length_take, List.length_drop, List.length_cons, List.length_nil]; omega)) only [go_sem, reduceCtorEq, Nat.reduceEqDiff, Nat.reduceAdd, Nat.reduceMul, Nat.reduceSub, ↓Nat.reduceBEq, Nat.reduceLT, Nat.reduceLeDiff, Int.reduceLT, Int.reduceLE, Int.reduceNeg, Int.reduceToNat]
    rw [hr, e]
set_option maxRecDepth 100000 in
theorem M_82 [SpC] (x : Rat) : M X 82 [.agg [zS (Rat.num (x)), zD (Rat.num (x)), zS (dz (x)), zD (dz (x))]] = some (.int .i64 (cmpQ x 0)) := by
  refine M_of X (fn := Tryz.f82) Tryz.func82 rfl ok_82 mode_82 res_82 _ rfl _ ?_
  intro r hr
  have h := M_118 x.num
  rw [cmpQ_sign] at h
  simp (maxSteps := 4000000) (disch := first | omega | (simp only [List.length_set, List.length_replicate, List.length_append, List.length_take, List.length_drop, List.length_cons, List.length_nil]; omega)) only [go_sem, reduceCtorEq, Nat.reduceEqDiff, Nat.reduceAdd, Nat.reduceMul, Nat.reduceSub, ↓Nat.reduceBEq, Nat.reduceLT, Nat.reduceLeDiff, Int.reduceLT, Int.reduceLE, Int.reduceNeg, Int.reduceToNat, mode_118, h]
  rw [hr]
theorem dz_neg (x : Rat) : dz (-x) = dz x := by unfold dz; rw [Rat.neg_den]
set_option maxRecDepth 100000 in
theorem M_91 [SpC] (x : Rat) : M X 91 [.agg [zS (Rat.num (x)), zD (Rat.num (x)), zS (dz (x)), zD (dz (x))]] = some (.agg [zS (Rat.num (-x)), zD (Rat.num (-x)), zS (dz (-x)), zD (dz (-x))]) := by
  refine M_of X (fn := Tryz.f91) Tryz.func91 rfl ok_91 mode_91 res_91 _ rfl _ ?_
  intro r hr
  have h := M_124 x.num
  simp (maxSteps := 4000000) (disch := first | omega | (simp only [List.length_set, List.length_replicate, List.length_append, List.length_take, List.length_drop, List.length_cons, List.length_nil]; omega)) only [go_sem, reduceCtorEq, Nat.reduceEqDiff, Nat.reduceAdd, Nat.reduceMul, Nat.reduceSub, ↓Nat.reduceBEq, Nat.reduceLT, Nat.reduceLeDiff, Int.reduceLT, Int.reduceLE, Int.reduceNeg, Int.reduceToNat, mode_124, h]
  rw [hr, dz_neg, Rat.neg_num]
end Go.Proofs.YtjccikgdebgebaaGreatDoor.Abs
end
