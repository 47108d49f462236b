/-
  Package gantryref04: lists of digits; what normal, Of, compared and their kin answer. No conditions. Package gantryref04: plus and minus; Neg, Add, Compare and Sign by value. No conditions. Package gantryref04: Mul, times, tiny and divided, by value. No conditions.
-/
import Derived.Test.YtjccikgdebgebaaGreatDoorQ05
set_option linter.unusedSimpArgs false
set_option linter.unusedVariables false
section
set_option linter.unusedSimpArgs false
namespace Go.Proofs.YtjccikgdebgebaaGreatDoor.Abs
open Go
set_option maxRecDepth 100000 in
theorem M_106 [SpC] (neg : Bool) (l : List Int) (hl : l.length < 2 ^ 40) : M X 106 [.bool neg, isl l] = some (.agg (aI neg (trim l))) := by
  refine M_of X (fn := Tryz.f106) Tryz.func106 rfl ok_106 mode_106 res_106 _ rfl _ ?_
  intro r hr
  simp (maxSteps := 4000000) (disch := first | omega | (simp only [List.length_set, List.length_replicate, List.length_append, List.length_take, List.length_drop, List.length_cons, List.length_nil]; omega)) only [go_sem, reduceCtorEq, Nat.reduceEqDiff, Nat.reduceAdd, Nat.reduceMul, Nat.reduceSub, ↓Nat.reduceBEq, Nat.reduceLT, Nat.reduceLeDiff, Int.reduceLT, Int.reduceLE, Int.reduceNeg, Int.reduceToNat]
  refine W_loop X (fun (n : Nat) s => n ≤ l.length ∧ s.env 0 = .bool neg ∧ s.env 1 = isl l ∧ s.env 4 = .ptr 0 0 ∧ s.env 5 = .int .i64 n ∧ s.heap 0 = some (.cells [AV.bool false, AV.ro [] 0 false] false false) ∧ trim (l.take n) = trim l) (fun n => n) ?_ l.length _ ?_
  · rintro n ⟨env, heap, next⟩ ⟨hn, h0, h1, h4, h5, hh, ht⟩
    simp only at h0 h1 h4 h5 hh
    obtain _ | m := n
    · simp (maxSteps := 4000000) (disch := first | omega | (simp only [List.length_set, List.length_replicate, List.length_append, List.length_take, List.length_drop, List.length_cons, List.length_nil]; omega)) only [go_sem, reduceCtorEq, Nat.reduceEqDiff, Nat.reduceAdd, Nat.reduceMul, Nat.reduceSub, ↓Nat.reduceBEq, Nat.reduceLT, Nat.reduceLeDiff, Int.reduceLT, Int.reduceLE, Int.reduceNeg, Int.reduceToNat, h0, h1, h4, h5, hh]
      simp [hr, aI, ← ht, trim_nil, isl, ints]
    · by_cases hz : l.getD m 0 = 0
      · simp (maxSteps := 4000000) (disch := first | omega | (simp only [List.length_set, List.length_replicate, List.length_append, List.length_take, List.length_drop, List.length_cons, List.length_nil]; omega)) only [go_sem, reduceCtorEq, Nat.reduceEqDiff, Nat.reduceAdd, Nat.reduceMul, Nat.reduceSub, ↓Nat.reduceBEq, Nat.reduceLT, Nat.reduceLeDiff, Int.reduceLT, Int.reduceLE, Int.reduceNeg, Int.reduceToNat, h0, h1, h4, h5, hh, hz]
        exact ⟨m, ⟨by omega, rfl, by rw [← ht, trim_zero l m hn hz]⟩, by omega⟩
      · simp (maxSteps := 4000000) (disch := first | omega | (simp only [List.length_set, List.length_replicate, List.length_append, List.length_take, List.length_drop, List.length_cons, List.length_nil]; omega)) only [go_sem, reduceCtorEq, Nat.reduceEqDiff, Nat.reduceAdd, Nat.reduceMul, Nat.reduceSub, ↓Nat.reduceBEq, Nat.reduceLT, Nat.reduceLeDiff, Int.reduceLT, Int.reduceLE, Int.reduceNeg, Int.reduceToNat, h0, h1, h4, h5, hh, hz]
        have he : (l.take (m + 1)).isEmpty = false := by
          cases l with
          | nil => simp at hn
          | cons a l => rfl
        rw [hr, ← ht, trim_keep l m hn hz, aI, he]
        simp
  · simp [argEnv, upd_apply, emptyHeap]
theorem normZ [SpC] (neg : Bool) (l : List Int) (z : Int) (ol : okd l) (hl : l.length < 2 ^ 40) (hz : z = if neg then -val l else val l) : M X 106 [.bool neg, isl l] = some (.agg [zS z, zD z]) := by
  rw [M_106 neg l hl, trim_digs ol, aI_digs neg (val l).toNat z]
  have h := val_nonneg ol
  rw [hz, Int.toNat_of_nonneg h]
set_option maxRecDepth 100000 in
theorem M_138 [SpC] (l : List Int) (i : Int) (hi : 0 ≤ i) : M X 138 [isl l, .int .i64 i] = some (.int .i64 (l.getD i.toNat 0)) := by
  refine M_of X (fn := Tryz.f138) Tryz.func138 rfl ok_138 mode_138 res_138 _ rfl _ ?_
  intro r hr
  by_cases h : i < l.length
  · simp (maxSteps := 4000000) (disch := first | omega | (simp only [List.length_set, List.length_replicate, List.length_append, List.length_take, List.length_drop, List.length_cons, List.length_nil]; omega)) only [go_sem, reduceCtorEq, Nat.reduceEqDiff, Nat.reduceAdd, Nat.reduceMul, Nat.reduceSub, ↓Nat.reduceBEq, Nat.reduceLT, Nat.reduceLeDiff, Int.reduceLT, Int.reduceLE, Int.reduceNeg, Int.reduceToNat]
    rw [hr]
  · simp (maxSteps := 4000000) (disch := first | omega | (simp only [List.length_set, List.length_replicate, List.length_append, List.length_take, List.length_drop, List.length_cons, List.length_nil]; omega)) only [go_sem, reduceCtorEq, Nat.reduceEqDiff, Nat.reduceAdd, Nat.reduceMul, Nat.reduceSub, ↓Nat.reduceBEq, Nat.reduceLT, Nat.reduceLeDiff, Int.reduceLT, Int.reduceLE, Int.reduceNeg, Int.reduceToNat]
    rw [hr, getD_over _ _ (by omega)]
set_option maxRecDepth 100000 in
theorem M_108 [SpC] (a b : List Int) (ha : a.length < 2 ^ 40) (_ : b.length < 2 ^ 40) : M X 108 [isl a, isl b] = some (.int .i64 (cmpL a b)) := by
  refine M_of X (fn := Tryz.f108) Tryz.func108 rfl ok_108 mode_108 res_108 _ rfl _ ?_
  intro r hr
  by_cases hl : a.length = b.length
  · simp (maxSteps := 4000000) (disch := first | omega | (simp only [List.length_set, List.length_replicate, List.length_append, List.length_take, List.length_drop, List.length_cons, List.length_nil]; omega)) only [go_sem, reduceCtorEq, Nat.reduceEqDiff, Nat.reduceAdd, Nat.reduceMul, Nat.reduceSub, ↓Nat.reduceBEq, Nat.reduceLT, Nat.reduceLeDiff, Int.reduceLT, Int.reduceLE, Int.reduceNeg, Int.reduceToNat]
    refine W_loop X (fun (n : Nat) s => n ≤ a.length ∧ s.env 0 = isl a ∧ s.env 1 = isl b ∧ s.env 5 = .int .i64 ((n : Int) - 1) ∧ cmpD (a.drop n) (b.drop n) = 0) (fun n => n) ?_ a.length _ ?_
    · rintro n ⟨env, heap, next⟩ ⟨hn, h0, h1, h5, hc⟩
      simp only at h0 h1 h5
      obtain _ | m := n
      · simp (maxSteps := 4000000) (disch := first | omega | (simp only [List.length_set, List.length_replicate, List.length_append, List.length_take, List.length_drop, List.length_cons, List.length_nil]; omega)) only [go_sem, reduceCtorEq, Nat.reduceEqDiff, Nat.reduceAdd, Nat.reduceMul, Nat.reduceSub, ↓Nat.reduceBEq, Nat.reduceLT, Nat.reduceLeDiff, Int.reduceLT, Int.reduceLE, Int.reduceNeg, Int.reduceToNat, h0, h1, h5]
        simp at hc
        simp [hr, cmpL, hl, hc]
      · have hs := cmpD_step a b m (by omega) (by omega)
        rw [if_neg (by simp [hc])] at hs
        have hL : cmpL a b = cmpD a b := by simp [cmpL, hl]
        rcases Int.lt_trichotomy (a.getD m 0) (b.getD m 0) with he | he | he
        · simp (maxSteps := 4000000) (disch := first | omega | (simp only [List.length_set, List.length_replicate, List.length_append, List.length_take, List.length_drop, List.length_cons, List.length_nil]; omega)) only [go_sem, reduceCtorEq, Nat.reduceEqDiff, Nat.reduceAdd, Nat.reduceMul, Nat.reduceSub, ↓Nat.reduceBEq, Nat.reduceLT, Nat.reduceLeDiff, Int.reduceLT, Int.reduceLE, Int.reduceNeg, Int.reduceToNat, h0, h1, h5]
          rw [if_pos he] at hs
          rw [hr, hL, cmpD_drop a b m (by rw [hs]; decide), hs]
        · simp (maxSteps := 4000000) (disch := first | omega | (simp only [List.length_set, List.length_replicate, List.length_append, List.length_take, List.length_drop, List.length_cons, List.length_nil]; omega)) only [go_sem, reduceCtorEq, Nat.reduceEqDiff, Nat.reduceAdd, Nat.reduceMul, Nat.reduceSub, ↓Nat.reduceBEq, Nat.reduceLT, Nat.reduceLeDiff, Int.reduceLT, Int.reduceLE, Int.reduceNeg, Int.reduceToNat, h0, h1, h5]
          refine ⟨m, ⟨by omega, rfl, ?_⟩, by omega⟩
          rw [hs, he]; simp
        · simp (maxSteps := 4000000) (disch := first | omega | (simp only [List.length_set, List.length_replicate, List.length_append, List.length_take, List.length_drop, List.length_cons, List.length_nil]; omega)) only [go_sem, reduceCtorEq, Nat.reduceEqDiff, Nat.reduceAdd, Nat.reduceMul, Nat.reduceSub, ↓Nat.reduceBEq, Nat.reduceLT, Nat.reduceLeDiff, Int.reduceLT, Int.reduceLE, Int.reduceNeg, Int.reduceToNat, h0, h1, h5]
          rw [if_neg (by omega), if_pos he] at hs
          rw [hr, hL, cmpD_drop a b m (by rw [hs]; decide), hs]
    · refine ⟨Nat.le_refl _, ?_, ?_, ?_, ?_⟩ <;> simp [argEnv, upd_apply, cmpD]
  · rcases Nat.lt_or_ge a.length b.length with h | h
    · simp (maxSteps := 4000000) (disch := first | omega | (simp only [List.length_set, List.length_replicate, List.length_append, List.length_take, List.length_drop, List.length_cons, List.length_nil]; omega)) only [go_sem, reduceCtorEq, Nat.reduceEqDiff, Nat.reduceAdd, Nat.reduceMul, Nat.reduceSub, ↓Nat.reduceBEq, Nat.reduceLT, Nat.reduceLeDiff, Int.reduceLT, Int.reduceLE, Int.reduceNeg, Int.reduceToNat]
      rw [hr, cmpL, if_pos h]
    · simp (maxSteps := 4000000) (disch := first | omega | (simp only [List.length_set, List.length_replicate, List.length_append, List.length_take, List.length_drop, List.length_cons, List.length_nil]; omega)) only [go_sem, reduceCtorEq, Nat.reduceEqDiff, Nat.reduceAdd, Nat.reduceMul, Nat.reduceSub, ↓Nat.reduceBEq, Nat.reduceLT, Nat.reduceLeDiff, Int.reduceLT, Int.reduceLE, Int.reduceNeg, Int.reduceToNat]
      rw [hr, cmpL, if_neg (by omega), if_pos (by omega)]
theorem isl_nil : isl [] = AV.ro [] 0 false := rfl
theorem len_63 {k : Nat} (h : Bz ^ k ≤ 9223372036854775808) : k ≤ 2 := by
  apply Classical.byContradiction; intro hc
  have := bz_mono (i := 3) (j := k) (by omega)
  have e : Bz ^ 3 = 1000000000000000000000000000 := by decide
  omega
/-- One more digit. -/
theorem digit_in {o : List Int} {k : Nat} {N : Int} (oo : okd o) (hv : val o + Bz ^ o.length * k = N) (hk : k ≠ 0) (hN : N ≤ 9223372036854775808) :
    o.length ≤ 2 ∧ okd (o ++ [((k % 1000000000 : Nat) : Int)]) ∧ val (o ++ [((k % 1000000000 : Nat) : Int)]) + Bz ^ (o ++ [((k % 1000000000 : Nat) : Int)]).length * ((k / 1000000000 : Nat) : Int) = N := by
  have h0 := val_nonneg oo
  have h1 : Bz ^ o.length * 1 ≤ Bz ^ o.length * k := Int.mul_le_mul_of_nonneg_left (by omega) (by have := bz_pos o.length; omega)
  refine ⟨len_63 (by omega), ?_, ?_⟩
  · rw [okd_app]; exact ⟨oo, by intro x hx; simp at hx; subst hx; simp only [Bz]; omega⟩
  · rw [val_app, List.length_append, List.length_singleton, Int.pow_succ, val_cons, val_nil]
    have e : (k : Int) = ((k % 1000000000 : Nat) : Int) + 1000000000 * ((k / 1000000000 : Nat) : Int) := by omega
    simp only [Bz] at *
    generalize ((k % 1000000000 : Nat) : Int) = x at *
    generalize ((k / 1000000000 : Nat) : Int) = y at *
    rw [e] at hv
    grind
set_option maxRecDepth 100000 in
set_option maxHeartbeats 1000000 in
theorem M_64 [SpC] (n : Int) (h : -9223372036854775808 ≤ n ∧ n ≤ 9223372036854775807) : M X 64 [.int .i64 n] = some (.agg [zS n, zD n]) := by
  refine M_of X (fn := Tryz.f64) Tryz.func64 rfl ok_64 mode_64 res_64 _ rfl _ ?_
  intro r hr
  by_cases h0 : n < 0
  · simp (maxSteps := 4000000) (disch := first | omega | (simp only [List.length_set, List.length_replicate, List.length_append, List.length_take, List.length_drop, List.length_cons, List.length_nil]; omega)) only [go_sem, reduceCtorEq, Nat.reduceEqDiff, Nat.reduceAdd, Nat.reduceMul, Nat.reduceSub, ↓Nat.reduceBEq, Nat.reduceLT, Nat.reduceLeDiff, Int.reduceLT, Int.reduceLE, Int.reduceNeg, Int.reduceToNat]
    refine W_loop X (fun (k : Nat) s => s.env 0 = .int .i64 (-(k : Int)) ∧ s.env 2 = .ptr 0 0 ∧ s.env 4 = .bool true ∧ 0 < s.next ∧ s.heap 0 = some (.cells [AV.bool false, AV.ro [] 0 false] false false) ∧ ∃ o, Grow 1 s.heap s.next (s.env 3) o ∧ okd o ∧ o.length ≤ 3 ∧ val o + Bz ^ o.length * k = n.natAbs) (fun k => k) ?_ n.natAbs _ ?_
    · rintro k ⟨env, heap, nx⟩ ⟨g0, g2, g4, hnx, hh, o, hgr, oo, lo, hv⟩
      simp only at g0 g2 g4 hnx hh hgr
      by_cases hk : k = 0
      · subst hk
        have hv' : val o = n.natAbs := by simpa using hv
        have hn := normZ true o n oo (by omega) (by rw [hv']; simp; omega)
        rcases hgr with ⟨e3, rfl⟩ | ⟨B, hB, e3, eB⟩
        · exfalso; simp [val] at hv'; omega
        · simp (maxSteps := 4000000) (disch := first | omega | (simp only [List.length_set, List.length_replicate, List.length_append, List.length_take, List.length_drop, List.length_cons, List.length_nil]; omega)) only [go_sem, reduceCtorEq, Nat.reduceEqDiff, Nat.reduceAdd, Nat.reduceMul, Nat.reduceSub, ↓Nat.reduceBEq, Nat.reduceLT, Nat.reduceLeDiff, Int.reduceLT, Int.reduceLE, Int.reduceNeg, Int.reduceToNat, g0, g2, g4, hh, e3, eB, mode_106, hn]
          rw [hr]
      · obtain ⟨l2, on, hvn⟩ := digit_in oo hv hk (by omega)
        have kb : (k : Int) ≤ 9223372036854775808 := by
          have h1 : 1 * (k : Int) ≤ Bz ^ o.length * k := Int.mul_le_mul_of_nonneg_right (by have := bz_pos o.length; omega) (by omega)
          have := val_nonneg oo
          omega
        have hq : IntKind.i64.wrap ((-(k : Int)).tdiv 1000000000) = -((k / 1000000000 : Nat) : Int) := by
          rw [Int.neg_tdiv, Int.tdiv_eq_ediv_of_nonneg (by omega), IntWalk.i64_in _ (by omega)]; rfl
        by_cases hz : k % 1000000000 = 0
        · have hm : (-(k : Int)).tmod 1000000000 = 0 := by rw [Int.neg_tmod, Int.tmod_eq_emod_of_nonneg (by omega)]; omega
          rw [hz] at on hvn
          rcases hgr with ⟨e3, rfl⟩ | ⟨B, hB, e3, eB⟩
          · simp (maxSteps := 4000000) (disch := first | omega | (simp only [List.length_set, List.length_replicate, List.length_append, List.length_take, List.length_drop, List.length_cons, List.length_nil]; omega)) only [go_sem, reduceCtorEq, Nat.reduceEqDiff, Nat.reduceAdd, Nat.reduceMul, Nat.reduceSub, ↓Nat.reduceBEq, Nat.reduceLT, Nat.reduceLeDiff, Int.reduceLT, Int.reduceLE, Int.reduceNeg, Int.reduceToNat, g0, g2, g4, hh, e3, hm, hq]
            exact ⟨k / 1000000000, ⟨rfl, by omega, _, grow_one _ _ _ _ _ (by omega), on, by simp, hvn⟩, by omega⟩
          · simp (maxSteps := 4000000) (disch := first | omega | (simp only [List.length_set, List.length_replicate, List.length_append, List.length_take, List.length_drop, List.length_cons, List.length_nil]; omega)) only [go_sem, reduceCtorEq, Nat.reduceEqDiff, Nat.reduceAdd, Nat.reduceMul, Nat.reduceSub, ↓Nat.reduceBEq, Nat.reduceLT, Nat.reduceLeDiff, Int.reduceLT, Int.reduceLE, Int.reduceNeg, Int.reduceToNat, g0, g2, g4, hh, e3, eB, hm, hq]
            exact ⟨k / 1000000000, ⟨rfl, by omega, _, grow_app _ _ _ _ _ _ _ (by omega) rfl, on, by simp; omega, hvn⟩, by omega⟩
        · have hm : (-(k : Int)).tmod 1000000000 = -((k % 1000000000 : Nat) : Int) := by rw [Int.neg_tmod, Int.tmod_eq_emod_of_nonneg (by omega)]; rfl
          rcases hgr with ⟨e3, rfl⟩ | ⟨B, hB, e3, eB⟩
          · simp (maxSteps := 4000000) (disch := first | omega | (simp only [List.length_set, List.length_replicate, List.length_append, List.length_take, List.length_drop, List.length_cons, List.length_nil]; omega)) only [go_sem, reduceCtorEq, Nat.reduceEqDiff, Nat.reduceAdd, Nat.reduceMul, Nat.reduceSub, ↓Nat.reduceBEq, Nat.reduceLT, Nat.reduceLeDiff, Int.reduceLT, Int.reduceLE, Int.reduceNeg, Int.reduceToNat, g0, g2, g4, hh, e3, hm, hq, Int.zero_sub, Int.neg_neg]
            exact ⟨k / 1000000000, ⟨rfl, by omega, _, grow_one _ _ _ _ _ (by omega), on, by simp, hvn⟩, by omega⟩
          · simp (maxSteps := 4000000) (disch := first | omega | (simp only [List.length_set, List.length_replicate, List.length_append, List.length_take, List.length_drop, List.length_cons, List.length_nil]; omega)) only [go_sem, reduceCtorEq, Nat.reduceEqDiff, Nat.reduceAdd, Nat.reduceMul, Nat.reduceSub, ↓Nat.reduceBEq, Nat.reduceLT, Nat.reduceLeDiff, Int.reduceLT, Int.reduceLE, Int.reduceNeg, Int.reduceToNat, g0, g2, g4, hh, e3, eB, hm, hq, Int.zero_sub, Int.neg_neg]
            exact ⟨k / 1000000000, ⟨rfl, by omega, _, grow_app _ _ _ _ _ _ _ (by omega) rfl, on, by simp; omega, hvn⟩, by omega⟩
    · simp (maxSteps := 4000000) (disch := first | omega | (simp only [List.length_set, List.length_replicate, List.length_append, List.length_take, List.length_drop, List.length_cons, List.length_nil]; omega)) only [go_sem, reduceCtorEq, Nat.reduceEqDiff, Nat.reduceAdd, Nat.reduceMul, Nat.reduceSub, ↓Nat.reduceBEq, Nat.reduceLT, Nat.reduceLeDiff, Int.reduceLT, Int.reduceLE, Int.reduceNeg, Int.reduceToNat]
      exact ⟨by congr 1; omega, [], grow_nil _ _ _, okd_nil, by simp, by simp [val]⟩
  · simp (maxSteps := 4000000) (disch := first | omega | (simp only [List.length_set, List.length_replicate, List.length_append, List.length_take, List.length_drop, List.length_cons, List.length_nil]; omega)) only [go_sem, reduceCtorEq, Nat.reduceEqDiff, Nat.reduceAdd, Nat.reduceMul, Nat.reduceSub, ↓Nat.reduceBEq, Nat.reduceLT, Nat.reduceLeDiff, Int.reduceLT, Int.reduceLE, Int.reduceNeg, Int.reduceToNat]
    refine W_loop X (fun (k : Nat) s => s.env 0 = .int .i64 k ∧ s.env 2 = .ptr 0 0 ∧ s.env 4 = .bool false ∧ 0 < s.next ∧ s.heap 0 = some (.cells [AV.bool false, AV.ro [] 0 false] false false) ∧ ∃ o, Grow 1 s.heap s.next (s.env 3) o ∧ okd o ∧ o.length ≤ 3 ∧ val o + Bz ^ o.length * k = n.natAbs) (fun k => k) ?_ n.natAbs _ ?_
    · rintro k ⟨env, heap, nx⟩ ⟨g0, g2, g4, hnx, hh, o, hgr, oo, lo, hv⟩
      simp only at g0 g2 g4 hnx hh hgr
      by_cases hk : k = 0
      · subst hk
        have hv' : val o = n.natAbs := by simpa using hv
        have hn := normZ false o n oo (by omega) (by rw [hv']; simp; omega)
        rcases hgr with ⟨e3, rfl⟩ | ⟨B, hB, e3, eB⟩
        · rw [isl_nil] at hn
          simp (maxSteps := 4000000) (disch := first | omega | (simp only [List.length_set, List.length_replicate, List.length_append, List.length_take, List.length_drop, List.length_cons, List.length_nil]; omega)) only [go_sem, reduceCtorEq, Nat.reduceEqDiff, Nat.reduceAdd, Nat.reduceMul, Nat.reduceSub, ↓Nat.reduceBEq, Nat.reduceLT, Nat.reduceLeDiff, Int.reduceLT, Int.reduceLE, Int.reduceNeg, Int.reduceToNat, g0, g2, g4, hh, e3, mode_106, hn]
          rw [hr]
        · simp (maxSteps := 4000000) (disch := first | omega | (simp only [List.length_set, List.length_replicate, List.length_append, List.length_take, List.length_drop, List.length_cons, List.length_nil]; omega)) only [go_sem, reduceCtorEq, Nat.reduceEqDiff, Nat.reduceAdd, Nat.reduceMul, Nat.reduceSub, ↓Nat.reduceBEq, Nat.reduceLT, Nat.reduceLeDiff, Int.reduceLT, Int.reduceLE, Int.reduceNeg, Int.reduceToNat, g0, g2, g4, hh, e3, eB, mode_106, hn]
          rw [hr]
      · obtain ⟨l2, on, hvn⟩ := digit_in oo hv hk (by omega)
        have kb : (k : Int) ≤ 9223372036854775808 := by
          have h1 : 1 * (k : Int) ≤ Bz ^ o.length * k := Int.mul_le_mul_of_nonneg_right (by have := bz_pos o.length; omega) (by omega)
          have := val_nonneg oo
          omega
        have kb' : (k : Int) ≤ 9223372036854775807 := by
          have h1 : 1 * (k : Int) ≤ Bz ^ o.length * k := Int.mul_le_mul_of_nonneg_right (by have := bz_pos o.length; omega) (by omega)
          have := val_nonneg oo
          omega
        have e1 : (k : Int) % 1000000000 = ((k % 1000000000 : Nat) : Int) := rfl
        have e2 : (k : Int) / 1000000000 = ((k / 1000000000 : Nat) : Int) := rfl
        rcases hgr with ⟨e3, rfl⟩ | ⟨B, hB, e3, eB⟩
        · simp (maxSteps := 4000000) (disch := first | omega | (simp only [List.length_set, List.length_replicate, List.length_append, List.length_take, List.length_drop, List.length_cons, List.length_nil]; omega)) only [go_sem, reduceCtorEq, Nat.reduceEqDiff, Nat.reduceAdd, Nat.reduceMul, Nat.reduceSub, ↓Nat.reduceBEq, Nat.reduceLT, Nat.reduceLeDiff, Int.reduceLT, Int.reduceLE, Int.reduceNeg, Int.reduceToNat, g0, g2, g4, hh, e3, e1, e2]
          exact ⟨k / 1000000000, ⟨rfl, by omega, _, grow_one _ _ _ _ _ (by omega), on, by simp, hvn⟩, by omega⟩
        · simp (maxSteps := 4000000) (disch := first | omega | (simp only [List.length_set, List.length_replicate, List.length_append, List.length_take, List.length_drop, List.length_cons, List.length_nil]; omega)) only [go_sem, reduceCtorEq, Nat.reduceEqDiff, Nat.reduceAdd, Nat.reduceMul, Nat.reduceSub, ↓Nat.reduceBEq, Nat.reduceLT, Nat.reduceLeDiff, Int.reduceLT, Int.reduceLE, Int.reduceNeg, Int.reduceToNat, g0, g2, g4, hh, e3, eB, e1, e2]
          exact ⟨k / 1000000000, ⟨rfl, by omega, _, grow_app _ _ _ _ _ _ _ (by omega) rfl, on, by simp; omega, hvn⟩, by omega⟩
    · simp (maxSteps := 4000000) (disch := first | omega | (simp only [List.length_set, List.length_replicate, List.length_append, List.length_take, List.length_drop, List.length_cons, List.length_nil]; omega)) only [go_sem, reduceCtorEq, Nat.reduceEqDiff, Nat.reduceAdd, Nat.reduceMul, Nat.reduceSub, ↓Nat.reduceBEq, Nat.reduceLT, Nat.reduceLeDiff, Int.reduceLT, Int.reduceLE, Int.reduceNeg, Int.reduceToNat]
      exact ⟨by congr 1; omega, [], grow_nil _ _ _, okd_nil, by simp, by simp [val]⟩
end Go.Proofs.YtjccikgdebgebaaGreatDoor.Abs
end
section
set_option linter.unusedSimpArgs false
namespace Go.Proofs.YtjccikgdebgebaaGreatDoor.Abs
open Go
theorem val_snoc (o : List Int) (d : Int) : val (o ++ [d]) = val o + Bz ^ o.length * d := by rw [val_app]; simp [val]
theorem okd_snoc {o : List Int} {d : Int} (oo : okd o) (h : 0 ≤ d ∧ d < Bz) : okd (o ++ [d]) := by
  rw [okd_app]; exact ⟨oo, by intro x hx; simp at hx; subst hx; exact h⟩
/-- plus: i digits are done. -/
def RPlus (a b : List Int) (i : Nat) (c : Int) (o : List Int) : Prop :=
  o.length = i ∧ okd o ∧ (c = 0 ∨ c = 1) ∧ (i ≤ max a.length b.length ∨ i = max a.length b.length + 1 ∧ c = 0) ∧ val o + Bz ^ i * c = val (a.take i) + val (b.take i)
theorem rplus_step {a b o : List Int} {i : Nat} {c : Int} (h : RPlus a b i c o) (oa : okd a) (ob : okd b) (hi : i < a.length ∨ i < b.length ∨ c = 1) :
    RPlus a b (i + 1) ((a.getD i 0 + b.getD i 0 + c) / 1000000000) (o ++ [(a.getD i 0 + b.getD i 0 + c) % 1000000000]) ∧ i < max a.length b.length + 1 := by
  obtain ⟨h1, h2, h3, h4, h5⟩ := h
  have ka := okd_getD oa i
  have kb := okd_getD ob i
  simp only [Bz] at ka kb
  refine ⟨⟨by simp [h1], okd_snoc h2 (by simp only [Bz]; omega), by omega, ?_, ?_⟩, by omega⟩
  · by_cases hm : i < max a.length b.length
    · exact .inl (by omega)
    · have e1 := getD_over a i (by omega)
      have e2 := getD_over b i (by omega)
      exact .inr ⟨by omega, by omega⟩
  · rw [val_snoc, h1, val_take_succ', val_take_succ']
    have e1 : Bz ^ (i + 1) = Bz ^ i * Bz := Int.pow_succ Bz i
    have e2 := Int.mul_ediv_add_emod (a.getD i 0 + b.getD i 0 + c) 1000000000
    rw [e1]; simp only [Bz] at *
    generalize (a.getD i 0 + b.getD i 0 + c) / 1000000000 = x at *
    generalize (a.getD i 0 + b.getD i 0 + c) % 1000000000 = y at *
    grind
theorem rplus_end {a b o : List Int} {i : Nat} {c : Int} (h : RPlus a b i c o) (hi : ¬ (i < a.length ∨ i < b.length ∨ c = 1)) : okd o ∧ val o = val a + val b ∧ o.length ≤ max a.length b.length + 1 := by
  obtain ⟨h1, h2, h3, h4, h5⟩ := h
  rw [List.take_of_length_le (by omega), List.take_of_length_le (by omega), show c = 0 by omega] at h5
  exact ⟨h2, by simpa using h5, by omega⟩
theorem rplus_zero (a b : List Int) : RPlus a b 0 0 [] := ⟨rfl, okd_nil, .inl rfl, .inl (by omega), by simp [val]⟩
set_option maxRecDepth 100000 in
set_option maxHeartbeats 1000000 in
theorem M_107 [SpC] (a b : List Int) (ha : a.length < 2 ^ 30) (hb : b.length < 2 ^ 30) (oa : okd a) (ob : okd b) :
    ∃ out, M X 107 [isl a, isl b] = some (isl out) ∧ okd out ∧ val out = val a + val b ∧ out.length ≤ max a.length b.length + 1 := by
  suffices h : ∃ r, (∃ out, r = isl out ∧ okd out ∧ val out = val a + val b ∧ out.length ≤ max a.length b.length + 1) ∧ M X 107 [isl a, isl b] = some r by
    obtain ⟨r, ⟨out, rfl, h1⟩, h2⟩ := h
    exact ⟨out, h2, h1⟩
  refine M_ex (fn := Tryz.f107) Tryz.func107 rfl ok_107 mode_107 res_107 _ rfl _ ?_
  simp (maxSteps := 4000000) (disch := first | omega | (simp only [List.length_set, List.length_replicate, List.length_append, List.length_take, List.length_drop, List.length_cons, List.length_nil]; omega)) only [go_sem, reduceCtorEq, Nat.reduceEqDiff, Nat.reduceAdd, Nat.reduceMul, Nat.reduceSub, ↓Nat.reduceBEq, Nat.reduceLT, Nat.reduceLeDiff, Int.reduceLT, Int.reduceLE, Int.reduceNeg, Int.reduceToNat]
  refine W_loop X (fun (i : Nat) s => s.env 0 = isl a ∧ s.env 1 = isl b ∧ s.env 7 = .int .i64 i ∧ ∃ c o, s.env 6 = .int .i64 c ∧ Grow 1 s.heap s.next (s.env 5) o ∧ RPlus a b i c o) (fun i => max a.length b.length + 1 - i) ?_ 0 _ ?_
  · rintro i ⟨env, heap, nx⟩ ⟨g0, g1, g7, c, o, g6, hgr, hp⟩
    simp only at g0 g1 g7 g6 hgr
    have lo := hp.1
    have hc := hp.2.2.1
    have him := hp.2.2.2.1
    have ka := okd_getD oa i
    have kb := okd_getD ob i
    simp only [Bz] at ka kb
    have md : ∀ l : List Int, M X 138 [isl l, .int .i64 i] = some (.int .i64 (l.getD i 0)) := fun l => by
      rw [M_138 l i (by omega), Int.toNat_natCast]
    by_cases hi : i < a.length ∨ i < b.length ∨ c = 1
    · obtain ⟨hs, hm⟩ := rplus_step hp oa ob hi
      have hi3 : i < a.length ∨ (¬ i < a.length ∧ i < b.length) ∨ (¬ i < a.length ∧ ¬ i < b.length ∧ c = 1) := by omega
      rcases hi3 with hi3 | ⟨hi3, hi4⟩ | ⟨hi3, hi4, hi5⟩
      all_goals
        rcases hgr with ⟨e5, rfl⟩ | ⟨B, hB, e5, eB⟩
        · simp (maxSteps := 4000000) (disch := first | omega | (simp only [List.length_set, List.length_replicate, List.length_append, List.length_take, List.length_drop, List.length_cons, List.length_nil]; omega)) only [go_sem, reduceCtorEq, Nat.reduceEqDiff, Nat.reduceAdd, Nat.reduceMul, Nat.reduceSub, ↓Nat.reduceBEq, Nat.reduceLT, Nat.reduceLeDiff, Int.reduceLT, Int.reduceLE, Int.reduceNeg, Int.reduceToNat, g0, g1, g7, g6, e5, mode_138, md]
          exact ⟨i + 1, ⟨rfl, _, _, rfl, grow_one _ _ _ _ _ (by omega), hs⟩, by omega⟩
        · simp (maxSteps := 4000000) (disch := first | omega | (simp only [List.length_set, List.length_replicate, List.length_append, List.length_take, List.length_drop, List.length_cons, List.length_nil]; omega)) only [go_sem, reduceCtorEq, Nat.reduceEqDiff, Nat.reduceAdd, Nat.reduceMul, Nat.reduceSub, ↓Nat.reduceBEq, Nat.reduceLT, Nat.reduceLeDiff, Int.reduceLT, Int.reduceLE, Int.reduceNeg, Int.reduceToNat, g0, g1, g7, g6, e5, eB, mode_138, md]
          exact ⟨i + 1, ⟨rfl, _, _, rfl, grow_app _ _ _ _ _ _ _ (by omega) rfl, hs⟩, by omega⟩
    · obtain ⟨r1, r2, r3⟩ := rplus_end hp hi
      rcases hgr with ⟨e5, rfl⟩ | ⟨B, hB, e5, eB⟩
      · simp (maxSteps := 4000000) (disch := first | omega | (simp only [List.length_set, List.length_replicate, List.length_append, List.length_take, List.length_drop, List.length_cons, List.length_nil]; omega)) only [go_sem, reduceCtorEq, Nat.reduceEqDiff, Nat.reduceAdd, Nat.reduceMul, Nat.reduceSub, ↓Nat.reduceBEq, Nat.reduceLT, Nat.reduceLeDiff, Int.reduceLT, Int.reduceLE, Int.reduceNeg, Int.reduceToNat, g0, g1, g7, g6, e5]
        exact ⟨[], rfl, r1, r2, r3⟩
      · simp (maxSteps := 4000000) (disch := first | omega | (simp only [List.length_set, List.length_replicate, List.length_append, List.length_take, List.length_drop, List.length_cons, List.length_nil]; omega)) only [go_sem, reduceCtorEq, Nat.reduceEqDiff, Nat.reduceAdd, Nat.reduceMul, Nat.reduceSub, ↓Nat.reduceBEq, Nat.reduceLT, Nat.reduceLeDiff, Int.reduceLT, Int.reduceLE, Int.reduceNeg, Int.reduceToNat, g0, g1, g7, g6, e5, eB]
        exact ⟨o, rfl, r1, r2, r3⟩
  · simp (maxSteps := 4000000) (disch := first | omega | (simp only [List.length_set, List.length_replicate, List.length_append, List.length_take, List.length_drop, List.length_cons, List.length_nil]; omega)) only [go_sem, reduceCtorEq, Nat.reduceEqDiff, Nat.reduceAdd, Nat.reduceMul, Nat.reduceSub, ↓Nat.reduceBEq, Nat.reduceLT, Nat.reduceLeDiff, Int.reduceLT, Int.reduceLE, Int.reduceNeg, Int.reduceToNat]
    exact ⟨0, [], rfl, grow_nil _ _ _, rplus_zero a b⟩
/-- minus: i digits are done. -/
def RMinus (a b : List Int) (i : Nat) (c : Int) (o : List Int) : Prop :=
  o.length = i ∧ okd o ∧ (c = 0 ∨ c = 1) ∧ i ≤ a.length ∧ val o = val (a.take i) - val (b.take i) + Bz ^ i * c
theorem rminus_step {a b o : List Int} {i : Nat} {c : Int} (h : RMinus a b i c o) (oa : okd a) (ob : okd b) (hi : i < a.length) (v : Int) (hv : v = a.getD i 0 - b.getD i 0 - c) :
    (v < 0 → RMinus a b (i + 1) 1 (o ++ [v + 1000000000])) ∧ (¬ v < 0 → RMinus a b (i + 1) 0 (o ++ [v])) := by
  obtain ⟨h1, h2, h3, h4, h5⟩ := h
  have ka := okd_getD oa i
  have kb := okd_getD ob i
  simp only [Bz] at ka kb
  have e1 : Bz ^ (i + 1) = Bz ^ i * Bz := Int.pow_succ Bz i
  refine ⟨fun hn => ⟨by simp [h1], okd_snoc h2 (by simp only [Bz]; omega), .inr rfl, hi, ?_⟩, fun hn => ⟨by simp [h1], okd_snoc h2 (by simp only [Bz]; omega), .inl rfl, hi, ?_⟩⟩
  · rw [val_snoc, h1, val_take_succ', val_take_succ', h5, hv, e1]; simp only [Bz] at *; grind
  · rw [val_snoc, h1, val_take_succ', val_take_succ', h5, hv]; grind
theorem rminus_end {a b o : List Int} {i : Nat} {c : Int} (h : RMinus a b i c o) (hi : ¬ i < a.length) (hl : b.length ≤ a.length) (hv : val b ≤ val a) : okd o ∧ val o = val a - val b ∧ o.length = a.length := by
  obtain ⟨h1, h2, h3, h4, h5⟩ := h
  rw [List.take_of_length_le (by omega), List.take_of_length_le (by omega)] at h5
  have h6 := val_lt h2
  rw [h1] at h6
  rcases h3 with rfl | rfl
  · exact ⟨h2, by simpa using h5, by omega⟩
  · exfalso; omega
theorem rminus_zero (a b : List Int) : RMinus a b 0 0 [] := ⟨rfl, okd_nil, .inl rfl, by omega, by simp [val]⟩
set_option maxRecDepth 100000 in
set_option maxHeartbeats 1000000 in
theorem M_109 [SpC] (a b : List Int) (ha : a.length < 2 ^ 30) (hl : b.length ≤ a.length) (oa : okd a) (ob : okd b) (hv : val b ≤ val a) :
    ∃ out, M X 109 [isl a, isl b] = some (isl out) ∧ okd out ∧ val out = val a - val b ∧ out.length = a.length := by
  suffices h : ∃ r, (∃ out, r = isl out ∧ okd out ∧ val out = val a - val b ∧ out.length = a.length) ∧ M X 109 [isl a, isl b] = some r by
    obtain ⟨r, ⟨out, rfl, h1⟩, h2⟩ := h
    exact ⟨out, h2, h1⟩
  refine M_ex (fn := Tryz.f109) Tryz.func109 rfl ok_109 mode_109 res_109 _ rfl _ ?_
  simp (maxSteps := 4000000) (disch := first | omega | (simp only [List.length_set, List.length_replicate, List.length_append, List.length_take, List.length_drop, List.length_cons, List.length_nil]; omega)) only [go_sem, reduceCtorEq, Nat.reduceEqDiff, Nat.reduceAdd, Nat.reduceMul, Nat.reduceSub, ↓Nat.reduceBEq, Nat.reduceLT, Nat.reduceLeDiff, Int.reduceLT, Int.reduceLE, Int.reduceNeg, Int.reduceToNat]
  refine W_loop X (fun (i : Nat) s => s.env 0 = isl a ∧ s.env 1 = isl b ∧ s.env 7 = .int .i64 i ∧ ∃ c o, s.env 6 = .int .i64 c ∧ Grow 1 s.heap s.next (s.env 5) o ∧ RMinus a b i c o) (fun i => a.length - i) ?_ 0 _ ?_
  · rintro i ⟨env, heap, nx⟩ ⟨g0, g1, g7, c, o, g6, hgr, hp⟩
    simp only at g0 g1 g7 g6 hgr
    have lo := hp.1
    have hc := hp.2.2.1
    have him := hp.2.2.2.1
    have ka := okd_getD oa i
    have kb := okd_getD ob i
    simp only [Bz] at ka kb
    have md : ∀ l : List Int, M X 138 [isl l, .int .i64 i] = some (.int .i64 (l.getD i 0)) := fun l => by
      rw [M_138 l i (by omega), Int.toNat_natCast]
    by_cases hi : i < a.length
    · obtain ⟨hs1, hs2⟩ := rminus_step hp oa ob hi _ rfl
      by_cases hn : a.getD i 0 - b.getD i 0 - c < 0
      · have hs := hs1 hn
        rcases hgr with ⟨e5, rfl⟩ | ⟨B, hB, e5, eB⟩
        · simp (maxSteps := 4000000) (disch := first | omega | (simp only [List.length_set, List.length_replicate, List.length_append, List.length_take, List.length_drop, List.length_cons, List.length_nil]; omega)) only [go_sem, reduceCtorEq, Nat.reduceEqDiff, Nat.reduceAdd, Nat.reduceMul, Nat.reduceSub, ↓Nat.reduceBEq, Nat.reduceLT, Nat.reduceLeDiff, Int.reduceLT, Int.reduceLE, Int.reduceNeg, Int.reduceToNat, g0, g1, g7, g6, e5, mode_138, md]
          exact ⟨i + 1, ⟨rfl, _, _, rfl, grow_one _ _ _ _ _ (by omega), hs⟩, by omega⟩
        · simp (maxSteps := 4000000) (disch := first | omega | (simp only [List.length_set, List.length_replicate, List.length_append, List.length_take, List.length_drop, List.length_cons, List.length_nil]; omega)) only [go_sem, reduceCtorEq, Nat.reduceEqDiff, Nat.reduceAdd, Nat.reduceMul, Nat.reduceSub, ↓Nat.reduceBEq, Nat.reduceLT, Nat.reduceLeDiff, Int.reduceLT, Int.reduceLE, Int.reduceNeg, Int.reduceToNat, g0, g1, g7, g6, e5, eB, mode_138, md]
          exact ⟨i + 1, ⟨rfl, _, _, rfl, grow_app _ _ _ _ _ _ _ (by omega) rfl, hs⟩, by omega⟩
      · have hs := hs2 hn
        rcases hgr with ⟨e5, rfl⟩ | ⟨B, hB, e5, eB⟩
        · simp (maxSteps := 4000000) (disch := first | omega | (simp only [List.length_set, List.length_replicate, List.length_append, List.length_take, List.length_drop, List.length_cons, List.length_nil]; omega)) only [go_sem, reduceCtorEq, Nat.reduceEqDiff, Nat.reduceAdd, Nat.reduceMul, Nat.reduceSub, ↓Nat.reduceBEq, Nat.reduceLT, Nat.reduceLeDiff, Int.reduceLT, Int.reduceLE, Int.reduceNeg, Int.reduceToNat, g0, g1, g7, g6, e5, mode_138, md]
          exact ⟨i + 1, ⟨rfl, _, _, rfl, grow_one _ _ _ _ _ (by omega), hs⟩, by omega⟩
        · simp (maxSteps := 4000000) (disch := first | omega | (simp only [List.length_set, List.length_replicate, List.length_append, List.length_take, List.length_drop, List.length_cons, List.length_nil]; omega)) only [go_sem, reduceCtorEq, Nat.reduceEqDiff, Nat.reduceAdd, Nat.reduceMul, Nat.reduceSub, ↓Nat.reduceBEq, Nat.reduceLT, Nat.reduceLeDiff, Int.reduceLT, Int.reduceLE, Int.reduceNeg, Int.reduceToNat, g0, g1, g7, g6, e5, eB, mode_138, md]
          exact ⟨i + 1, ⟨rfl, _, _, rfl, grow_app _ _ _ _ _ _ _ (by omega) rfl, hs⟩, by omega⟩
    · obtain ⟨r1, r2, r3⟩ := rminus_end hp hi hl hv
      rcases hgr with ⟨e5, rfl⟩ | ⟨B, hB, e5, eB⟩
      · simp (maxSteps := 4000000) (disch := first | omega | (simp only [List.length_set, List.length_replicate, List.length_append, List.length_take, List.length_drop, List.length_cons, List.length_nil]; omega)) only [go_sem, reduceCtorEq, Nat.reduceEqDiff, Nat.reduceAdd, Nat.reduceMul, Nat.reduceSub, ↓Nat.reduceBEq, Nat.reduceLT, Nat.reduceLeDiff, Int.reduceLT, Int.reduceLE, Int.reduceNeg, Int.reduceToNat, g0, g1, g7, g6, e5]
        exact ⟨[], rfl, r1, r2, r3⟩
      · simp (maxSteps := 4000000) (disch := first | omega | (simp only [List.length_set, List.length_replicate, List.length_append, List.length_take, List.length_drop, List.length_cons, List.length_nil]; omega)) only [go_sem, reduceCtorEq, Nat.reduceEqDiff, Nat.reduceAdd, Nat.reduceMul, Nat.reduceSub, ↓Nat.reduceBEq, Nat.reduceLT, Nat.reduceLeDiff, Int.reduceLT, Int.reduceLE, Int.reduceNeg, Int.reduceToNat, g0, g1, g7, g6, e5, eB]
        exact ⟨o, rfl, r1, r2, r3⟩
  · simp (maxSteps := 4000000) (disch := first | omega | (simp only [List.length_set, List.length_replicate, List.length_append, List.length_take, List.length_drop, List.length_cons, List.length_nil]; omega)) only [go_sem, reduceCtorEq, Nat.reduceEqDiff, Nat.reduceAdd, Nat.reduceMul, Nat.reduceSub, ↓Nat.reduceBEq, Nat.reduceLT, Nat.reduceLeDiff, Int.reduceLT, Int.reduceLE, Int.reduceNeg, Int.reduceToNat]
    exact ⟨0, [], rfl, grow_nil _ _ _, rminus_zero a b⟩
theorem rplusZ [SpC] (x y : Int) (hx : nd x < 2 ^ 28) (hy : nd y < 2 ^ 28) : ∃ out, M X 107 [zD x, zD y] = some (isl out) ∧ ∀ neg z, z = (if neg then -((x.natAbs : Int) + y.natAbs) else (x.natAbs : Int) + y.natAbs) → M X 106 [.bool neg, isl out] = some (.agg [zS z, zD z]) := by
  obtain ⟨out, h1, h2, h3, h4⟩ := M_107 (digs x.natAbs) (digs y.natAbs) (by rw [len_nd]; omega) (by rw [len_nd]; omega) (okd_nat x) (okd_nat y)
  rw [val_nat, val_nat] at h3
  rw [len_nd, len_nd] at h4
  exact ⟨out, h1, fun neg z hz => normZ neg out z h2 (by omega) (by rw [h3]; exact hz)⟩
theorem rminusZ [SpC] (x y : Int) (hx : nd x < 2 ^ 28) (hv : y.natAbs ≤ x.natAbs) : ∃ out, M X 109 [zD x, zD y] = some (isl out) ∧ ∀ neg z, z = (if neg then -((x.natAbs : Int) - y.natAbs) else (x.natAbs : Int) - y.natAbs) → M X 106 [.bool neg, isl out] = some (.agg [zS z, zD z]) := by
  obtain ⟨out, h1, h2, h3, h4⟩ := M_109 (digs x.natAbs) (digs y.natAbs) (by rw [len_nd]; omega) (nd_mono hv) (okd_nat x) (okd_nat y) (by rw [val_nat, val_nat]; omega)
  rw [val_nat, val_nat] at h3
  rw [len_nd] at h4
  exact ⟨out, h1, fun neg z hz => normZ neg out z h2 (by omega) (by rw [h3]; exact hz)⟩
theorem comparedZ [SpC] (x y : Int) (hx : nd x < 2 ^ 40) (hy : nd y < 2 ^ 40) : M X 108 [zD x, zD y] = some (.int .i64 (cmpZ x.natAbs y.natAbs)) := by
  rw [← cmpL_digs]
  exact M_108 _ _ hx hy
theorem normDg [SpC] (neg : Bool) (x z : Int) (hx : nd x < 2 ^ 40) (hz : z = if neg then -(x.natAbs : Int) else x.natAbs) : M X 106 [.bool neg, zD x] = some (.agg [zS z, zD z]) := by
  rw [zD_eq]
  exact normZ neg _ z (okd_nat x) (by rw [len_nd]; exact hx) (by rw [val_nat]; exact hz)
set_option maxRecDepth 100000 in
theorem M_68 [SpC] (x y : Int) (hx : nd x < 2 ^ 28) (hy : nd y < 2 ^ 28) : M X 68 [.agg [zS x, zD x], .agg [zS y, zD y]] = some (.agg [zS (x + y), zD (x + y)]) := by
  refine M_of X (fn := Tryz.f68) Tryz.func68 rfl ok_68 mode_68 res_68 _ rfl _ ?_
  intro r hr
  obtain ⟨p, p1, p5⟩ := rplusZ x y hx hy
  have hc := comparedZ x y (by omega) (by omega)
  have hc' : ¬ x.natAbs < y.natAbs → 0 ≤ cmpZ (x.natAbs : Int) y.natAbs := by intro h; unfold cmpZ; rw [if_neg (by omega)]; split <;> omega
  by_cases h1 : x < 0
  · by_cases h2 : y < 0
    · have p6 := p5 true (x + y) (by simp; omega)
      simp (maxSteps := 4000000) (disch := first | omega | (simp only [List.length_set, List.length_replicate, List.length_append, List.length_take, List.length_drop, List.length_cons, List.length_nil]; omega)) only [go_sem, reduceCtorEq, Nat.reduceEqDiff, Nat.reduceAdd, Nat.reduceMul, Nat.reduceSub, ↓Nat.reduceBEq, Nat.reduceLT, Nat.reduceLeDiff, Int.reduceLT, Int.reduceLE, Int.reduceNeg, Int.reduceToNat, zS_neg, mode_107, mode_106, p1, p6]
      simp (disch := omega) only [hr, zS_neg, zS_pos]
    · by_cases h3 : x.natAbs < y.natAbs
      · obtain ⟨m, m1, m5⟩ := rminusZ y x hy (by omega)
        have m6 := m5 false (x + y) (by simp; omega)
        rw [cmpZ_lt (by omega)] at hc
        simp (maxSteps := 4000000) (disch := first | omega | (simp only [List.length_set, List.length_replicate, List.length_append, List.length_take, List.length_drop, List.length_cons, List.length_nil]; omega)) only [go_sem, reduceCtorEq, Nat.reduceEqDiff, Nat.reduceAdd, Nat.reduceMul, Nat.reduceSub, ↓Nat.reduceBEq, Nat.reduceLT, Nat.reduceLeDiff, Int.reduceLT, Int.reduceLE, Int.reduceNeg, Int.reduceToNat, zS_neg, zS_pos, mode_109, mode_108, mode_106, m1, m6, hc]
        simp (disch := omega) only [hr, zS_neg, zS_pos]
      · obtain ⟨m, m1, m5⟩ := rminusZ x y hx (by omega)
        have m6 := m5 true (x + y) (by simp; omega)
        have hc' := hc' h3
        simp (maxSteps := 4000000) (disch := first | omega | (simp only [List.length_set, List.length_replicate, List.length_append, List.length_take, List.length_drop, List.length_cons, List.length_nil]; omega)) only [go_sem, reduceCtorEq, Nat.reduceEqDiff, Nat.reduceAdd, Nat.reduceMul, Nat.reduceSub, ↓Nat.reduceBEq, Nat.reduceLT, Nat.reduceLeDiff, Int.reduceLT, Int.reduceLE, Int.reduceNeg, Int.reduceToNat, zS_neg, zS_pos, mode_109, mode_108, mode_106, m1, m6, hc]
        simp (disch := omega) only [hr, zS_neg, zS_pos]
  · by_cases h2 : y < 0
    · by_cases h3 : x.natAbs < y.natAbs
      · obtain ⟨m, m1, m5⟩ := rminusZ y x hy (by omega)
        have m6 := m5 true (x + y) (by simp; omega)
        rw [cmpZ_lt (by omega)] at hc
        simp (maxSteps := 4000000) (disch := first | omega | (simp only [List.length_set, List.length_replicate, List.length_append, List.length_take, List.length_drop, List.length_cons, List.length_nil]; omega)) only [go_sem, reduceCtorEq, Nat.reduceEqDiff, Nat.reduceAdd, Nat.reduceMul, Nat.reduceSub, ↓Nat.reduceBEq, Nat.reduceLT, Nat.reduceLeDiff, Int.reduceLT, Int.reduceLE, Int.reduceNeg, Int.reduceToNat, zS_neg, zS_pos, mode_109, mode_108, mode_106, m1, m6, hc]
        simp (disch := omega) only [hr, zS_neg, zS_pos]
      · obtain ⟨m, m1, m5⟩ := rminusZ x y hx (by omega)
        have m6 := m5 false (x + y) (by simp; omega)
        have hc' := hc' h3
        simp (maxSteps := 4000000) (disch := first | omega | (simp only [List.length_set, List.length_replicate, List.length_append, List.length_take, List.length_drop, List.length_cons, List.length_nil]; omega)) only [go_sem, reduceCtorEq, Nat.reduceEqDiff, Nat.reduceAdd, Nat.reduceMul, Nat.reduceSub, ↓Nat.reduceBEq, Nat.reduceLT, Nat.reduceLeDiff, Int.reduceLT, Int.reduceLE, Int.reduceNeg, Int.reduceToNat, zS_neg, zS_pos, mode_109, mode_108, mode_106, m1, m6, hc]
        simp (disch := omega) only [hr, zS_neg, zS_pos]
    · have p6 := p5 false (x + y) (by simp; omega)
      simp (maxSteps := 4000000) (disch := first | omega | (simp only [List.length_set, List.length_replicate, List.length_append, List.length_take, List.length_drop, List.length_cons, List.length_nil]; omega)) only [go_sem, reduceCtorEq, Nat.reduceEqDiff, Nat.reduceAdd, Nat.reduceMul, Nat.reduceSub, ↓Nat.reduceBEq, Nat.reduceLT, Nat.reduceLeDiff, Int.reduceLT, Int.reduceLE, Int.reduceNeg, Int.reduceToNat, zS_pos, mode_107, mode_106, p1, p6]
      simp (disch := omega) only [hr, zS_neg, zS_pos]
set_option maxRecDepth 100000 in
theorem M_104 [SpC] (x : Int) (hx : nd x < 2 ^ 28) : M X 104 [.agg [zS x, zD x]] = some (.agg [zS (-x), zD (-x)]) := by
  refine M_of X (fn := Tryz.f104) Tryz.func104 rfl ok_104 mode_104 res_104 _ rfl _ ?_
  intro r hr
  by_cases h1 : x < 0
  · have hn := normDg false x (-x) (by omega) (by simp; omega)
    simp (maxSteps := 4000000) (disch := first | omega | (simp only [List.length_set, List.length_replicate, List.length_append, List.length_take, List.length_drop, List.length_cons, List.length_nil]; omega)) only [go_sem, reduceCtorEq, Nat.reduceEqDiff, Nat.reduceAdd, Nat.reduceMul, Nat.reduceSub, ↓Nat.reduceBEq, Nat.reduceLT, Nat.reduceLeDiff, Int.reduceLT, Int.reduceLE, Int.reduceNeg, Int.reduceToNat, zS_neg x h1, mode_106, hn]
    rw [hr]
  · have hn := normDg true x (-x) (by omega) (by simp; omega)
    simp (maxSteps := 4000000) (disch := first | omega | (simp only [List.length_set, List.length_replicate, List.length_append, List.length_take, List.length_drop, List.length_cons, List.length_nil]; omega)) only [go_sem, reduceCtorEq, Nat.reduceEqDiff, Nat.reduceAdd, Nat.reduceMul, Nat.reduceSub, ↓Nat.reduceBEq, Nat.reduceLT, Nat.reduceLeDiff, Int.reduceLT, Int.reduceLE, Int.reduceNeg, Int.reduceToNat, zS_pos x (Int.not_lt.1 h1), mode_106, hn]
    rw [hr]
set_option maxRecDepth 100000 in
theorem M_88 [SpC] (x y : Int) (hx : nd x < 2 ^ 28) (hy : nd y < 2 ^ 28) : M X 88 [.agg [zS x, zD x], .agg [zS y, zD y]] = some (.int .i64 (cmpZ x y)) := by
  refine M_of X (fn := Tryz.f88) Tryz.func88 rfl ok_88 mode_88 res_88 _ rfl _ ?_
  intro r hr
  have hc := comparedZ x y (by omega) (by omega)
  have hc' := comparedZ y x (by omega) (by omega)
  by_cases h1 : x < 0
  · by_cases h2 : y < 0
    · simp (maxSteps := 4000000) (disch := first | omega | (simp only [List.length_set, List.length_replicate, List.length_append, List.length_take, List.length_drop, List.length_cons, List.length_nil]; omega)) only [go_sem, reduceCtorEq, Nat.reduceEqDiff, Nat.reduceAdd, Nat.reduceMul, Nat.reduceSub, ↓Nat.reduceBEq, Nat.reduceLT, Nat.reduceLeDiff, Int.reduceLT, Int.reduceLE, Int.reduceNeg, Int.reduceToNat, zS_neg, mode_108, hc, hc']
      rw [hr]; congr 1; unfold cmpZ; grind
    · simp (maxSteps := 4000000) (disch := first | omega | (simp only [List.length_set, List.length_replicate, List.length_append, List.length_take, List.length_drop, List.length_cons, List.length_nil]; omega)) only [go_sem, reduceCtorEq, Nat.reduceEqDiff, Nat.reduceAdd, Nat.reduceMul, Nat.reduceSub, ↓Nat.reduceBEq, Nat.reduceLT, Nat.reduceLeDiff, Int.reduceLT, Int.reduceLE, Int.reduceNeg, Int.reduceToNat, zS_neg, zS_pos, mode_108, hc, hc']
      rw [hr, cmpZ_lt (by omega)]
  · by_cases h2 : y < 0
    · simp (maxSteps := 4000000) (disch := first | omega | (simp only [List.length_set, List.length_replicate, List.length_append, List.length_take, List.length_drop, List.length_cons, List.length_nil]; omega)) only [go_sem, reduceCtorEq, Nat.reduceEqDiff, Nat.reduceAdd, Nat.reduceMul, Nat.reduceSub, ↓Nat.reduceBEq, Nat.reduceLT, Nat.reduceLeDiff, Int.reduceLT, Int.reduceLE, Int.reduceNeg, Int.reduceToNat, zS_neg, zS_pos, mode_108, hc, hc']
      rw [hr, cmpZ_gt (by omega)]
    · simp (maxSteps := 4000000) (disch := first | omega | (simp only [List.length_set, List.length_replicate, List.length_append, List.length_take, List.length_drop, List.length_cons, List.length_nil]; omega)) only [go_sem, reduceCtorEq, Nat.reduceEqDiff, Nat.reduceAdd, Nat.reduceMul, Nat.reduceSub, ↓Nat.reduceBEq, Nat.reduceLT, Nat.reduceLeDiff, Int.reduceLT, Int.reduceLE, Int.reduceNeg, Int.reduceToNat, zS_pos, mode_108, hc, hc']
      rw [hr]; congr 1; unfold cmpZ; grind
set_option maxRecDepth 100000 in
theorem M_135 [SpC] (x : Int) (hx : nd x < 2 ^ 28) : M X 135 [.agg [zS x, zD x]] = some (.int .i64 (cmpZ x 0)) := by
  refine M_of X (fn := Tryz.f135) Tryz.func135 rfl ok_135 mode_135 res_135 _ rfl _ ?_
  intro r hr
  have hc := M_88 x 0 hx (by rw [nd_zero 0 rfl]; decide)
  rw [← zz_nil, ← zz_false] at hc
  simp (maxSteps := 4000000) (disch := first | omega | (simp only [List.length_set, List.length_replicate, List.length_append, List.length_take, List.length_drop, List.length_cons, List.length_nil]; omega)) only [go_sem, reduceCtorEq, Nat.reduceEqDiff, Nat.reduceAdd, Nat.reduceMul, Nat.reduceSub, ↓Nat.reduceBEq, Nat.reduceLT, Nat.reduceLeDiff, Int.reduceLT, Int.reduceLE, Int.reduceNeg, Int.reduceToNat, mode_88, hc]
  rw [hr]
end Go.Proofs.YtjccikgdebgebaaGreatDoor.Abs
end
section
set_option linter.unusedSimpArgs false
namespace Go.Proofs.YtjccikgdebgebaaGreatDoor.Abs
open Go
theorem mulP_step' {a b o : List Int} {i k : Nat} {c : Int} (h : MulP a b i k c o) (hi : i < a.length) (hk : k < b.length) (oa : okd a) (ob : okd b) (v : Int) (hv : v = o.getD (i + k) 0 + a.getD i 0 * b.getD k 0 + c) :
    MulP a b i (k + 1) (v / 1000000000) (o.set (i + k) (v % 1000000000)) := by
  have := mulP_step h hi hk oa ob v _ hv rfl
  rwa [show v - v / 1000000000 * 1000000000 = v % 1000000000 by omega] at this
set_option maxRecDepth 100000 in
set_option maxHeartbeats 1000000 in
theorem rmulL [SpC] (na nb : Bool) (a b : List Int) (ha : a.length < 2 ^ 28) (hb : b.length < 2 ^ 28) (oa : okd a) (ob : okd b) (z : Int) (hz : z = if na = nb then val a * val b else -(val a * val b)) :
    M X 66 [.agg [.bool na, isl a], .agg [.bool nb, isl b]] = some (.agg [zS z, zD z]) := by
  refine M_of X (fn := Tryz.f66) Tryz.func66 rfl ok_66 mode_66 res_66 _ rfl _ ?_
  intro r hr
  have hof : ∀ out, okd out → val out = val a * val b → out.length < 2 ^ 40 → ∀ t, t = !(na == nb) → M X 106 [.bool t, isl out] = some (.agg [zS z, zD z]) := by
    intro out h2 h3 h4 t ht
    refine normZ _ out z h2 h4 ?_
    rw [hz, h3, ht]; cases na <;> cases nb <;> rfl
  simp (maxSteps := 4000000) (disch := first | omega | (simp only [List.length_set, List.length_replicate, List.length_append, List.length_take, List.length_drop, List.length_cons, List.length_nil]; omega)) only [go_sem, reduceCtorEq, Nat.reduceEqDiff, Nat.reduceAdd, Nat.reduceMul, Nat.reduceSub, ↓Nat.reduceBEq, Nat.reduceLT, Nat.reduceLeDiff, Int.reduceLT, Int.reduceLE, Int.reduceNeg, Int.reduceToNat]
  refine W_loop X (fun (i : Nat) s => i ≤ a.length ∧ s.env 2 = .ptr 0 0 ∧ s.env 3 = .ptr 8 0 ∧ s.env 4 = .ptr 16 0 ∧ s.env 5 = .sl 80 0 (a.length + b.length) (some (a.length + b.length)) 1 ∧
      s.env 6 = .int .i64 i ∧ s.heap 0 = some (.cells [.bool na, isl a] false false) ∧ s.heap 8 = some (.cells [.bool nb, isl b] false false) ∧ s.heap 16 = some (.cells [.bool false, .ro [] 0 false] false false) ∧ 80 < s.next ∧
      ∃ o, s.heap 80 = some (.cells (ints o) false false) ∧ MulP a b i 0 0 o) (fun i => a.length - i) ?_ 0 _ ?_
  · rintro i ⟨env, heap, nx⟩ ⟨hi, g2, g3, g4, g5, g6, e0, e8, e16, hnx, o, gh, hm⟩
    simp only at g2 g3 g4 g5 g6 e0 e8 e16 gh hnx
    have ho := hm.1
    by_cases h3 : i < a.length
    · simp (maxSteps := 4000000) (disch := first | omega | (simp only [List.length_set, List.length_replicate, List.length_append, List.length_take, List.length_drop, List.length_cons, List.length_nil]; omega)) only [go_sem, reduceCtorEq, Nat.reduceEqDiff, Nat.reduceAdd, Nat.reduceMul, Nat.reduceSub, ↓Nat.reduceBEq, Nat.reduceLT, Nat.reduceLeDiff, Int.reduceLT, Int.reduceLE, Int.reduceNeg, Int.reduceToNat, g2, g3, g4, g5, g6, e0, e8, e16, gh, ho]
      refine W_loop X (fun (k : Nat) s => k ≤ b.length ∧ s.env 2 = .ptr 0 0 ∧ s.env 3 = .ptr 8 0 ∧ s.env 4 = .ptr 16 0 ∧ s.env 5 = .sl 80 0 (a.length + b.length) (some (a.length + b.length)) 1 ∧
        s.env 6 = .int .i64 i ∧ s.env 8 = .int .i64 k ∧ s.heap 0 = some (.cells [.bool na, isl a] false false) ∧ s.heap 8 = some (.cells [.bool nb, isl b] false false) ∧ s.heap 16 = some (.cells [.bool false, .ro [] 0 false] false false) ∧ 80 < s.next ∧
        ∃ o c, s.heap 80 = some (.cells (ints o) false false) ∧ s.env 7 = .int .i64 c ∧ MulP a b i k c o) (fun k => b.length - k) ?_ 0 _ ?_
      · clear gh hm ho g2 g3 g4 g5 g6 e0 e8 e16 hnx
        rintro k ⟨env, heap, nx⟩ ⟨hk, g2, g3, g4, g5, g6, g8, e0, e8, e16, hnx, o, c, gh, g7, hm⟩
        simp only at g2 g3 g4 g5 g6 g8 e0 e8 e16 gh hnx g7
        have ho := hm.1
        have hc := hm.2.2.1
        by_cases h4 : k < b.length
        · have ka := okd_getD oa i
          have kb := okd_getD ob k
          have ko := okd_getD hm.2.1 (i + k)
          have hd := mul_dig ka kb
          simp only [Bz] at ka kb ko
          have hm' := mulP_step' hm h3 h4 oa ob _ rfl
          simp (maxSteps := 4000000) (disch := first | omega | (simp only [List.length_set, List.length_replicate, List.length_append, List.length_take, List.length_drop, List.length_cons, List.length_nil]; omega)) only [go_sem, reduceCtorEq, Nat.reduceEqDiff, Nat.reduceAdd, Nat.reduceMul, Nat.reduceSub, ↓Nat.reduceBEq, Nat.reduceLT, Nat.reduceLeDiff, Int.reduceLT, Int.reduceLE, Int.reduceNeg, Int.reduceToNat, g2, g3, g4, g5, g6, g7, g8, e0, e8, e16, gh, ho]
          exact ⟨k + 1, ⟨by omega, rfl, by omega, _, _, rfl, rfl, hm'⟩, by omega⟩
        · have hk' : k = b.length := by omega
          subst hk'
          have hm' := mulP_end hm h3
          simp (maxSteps := 4000000) (disch := first | omega | (simp only [List.length_set, List.length_replicate, List.length_append, List.length_take, List.length_drop, List.length_cons, List.length_nil]; omega)) only [go_sem, reduceCtorEq, Nat.reduceEqDiff, Nat.reduceAdd, Nat.reduceMul, Nat.reduceSub, ↓Nat.reduceBEq, Nat.reduceLT, Nat.reduceLeDiff, Int.reduceLT, Int.reduceLE, Int.reduceNeg, Int.reduceToNat, g2, g3, g4, g5, g6, g7, g8, e0, e8, e16, gh, ho]
          exact ⟨i + 1, ⟨by omega, rfl, by omega, _, rfl, hm'⟩, by omega⟩
      · simp (maxSteps := 4000000) (disch := first | omega | (simp only [List.length_set, List.length_replicate, List.length_append, List.length_take, List.length_drop, List.length_cons, List.length_nil]; omega)) only [go_sem, reduceCtorEq, Nat.reduceEqDiff, Nat.reduceAdd, Nat.reduceMul, Nat.reduceSub, ↓Nat.reduceBEq, Nat.reduceLT, Nat.reduceLeDiff, Int.reduceLT, Int.reduceLE, Int.reduceNeg, Int.reduceToNat, g2, g3, g4, g5, g6, e0, e8, e16, gh, ho]
        exact ⟨by omega, o, 0, rfl, rfl, hm⟩
    · have hi' : i = a.length := by omega
      subst hi'
      have hv := mulP_val hm
      have hof' := hof o hv.1 hv.2 (by omega) _ rfl
      simp (maxSteps := 4000000) (disch := first | omega | (simp only [List.length_set, List.length_replicate, List.length_append, List.length_take, List.length_drop, List.length_cons, List.length_nil]; omega)) only [go_sem, reduceCtorEq, Nat.reduceEqDiff, Nat.reduceAdd, Nat.reduceMul, Nat.reduceSub, ↓Nat.reduceBEq, Nat.reduceLT, Nat.reduceLeDiff, Int.reduceLT, Int.reduceLE, Int.reduceNeg, Int.reduceToNat, g2, g3, g4, g5, g6, e0, e8, e16, gh, ho, mode_106, hof']
      rw [hr]
  · simp (maxSteps := 4000000) (disch := first | omega | (simp only [List.length_set, List.length_replicate, List.length_append, List.length_take, List.length_drop, List.length_cons, List.length_nil]; omega)) only [go_sem, reduceCtorEq, Nat.reduceEqDiff, Nat.reduceAdd, Nat.reduceMul, Nat.reduceSub, ↓Nat.reduceBEq, Nat.reduceLT, Nat.reduceLeDiff, Int.reduceLT, Int.reduceLE, Int.reduceNeg, Int.reduceToNat]
    exact ⟨_, rfl, mulP_zero a b⟩
theorem M_66 [SpC] (x y : Int) (hx : nd x < 2 ^ 28) (hy : nd y < 2 ^ 28) : M X 66 [.agg [zS x, zD x], .agg [zS y, zD y]] = some (.agg [zS (x * y), zD (x * y)]) := by
  refine rmulL _ _ _ _ hx hy (okd_nat x) (okd_nat y) (x * y) ?_
  rw [val_nat, val_nat]
  rcases Int.natAbs_eq x with e1 | e1 <;> rcases Int.natAbs_eq y with e2 | e2 <;> generalize x.natAbs = m at * <;> generalize y.natAbs = n at * <;> subst e1 <;> subst e2
  · rw [decide_eq_false (by omega), decide_eq_false (by omega)]; rfl
  · by_cases hn : n = 0
    · subst hn; simp
    · rw [decide_eq_false (by omega), decide_eq_true (by omega)]; simp [Int.mul_neg]
  · by_cases hm : m = 0
    · subst hm; simp
    · rw [decide_eq_true (by omega), decide_eq_false (by omega)]; simp [Int.neg_mul]
  · by_cases hn : n = 0
    · subst hn; simp
    · by_cases hm : m = 0
      · subst hm; simp
      · rw [decide_eq_true (by omega), decide_eq_true (by omega)]; simp [Int.neg_mul_neg]
theorem nd_small (x : Int) (h : x.natAbs < 1000000000000000000000000000) : nd x ≤ 3 := by rw [nd, len_digs]; exact h
set_option maxRecDepth 100000 in
theorem M_159 [SpC] (y k : Int) (hy : nd y < 2 ^ 28) (hk : 0 ≤ k ∧ k ≤ 9223372036854775807) : M X 159 [zD y, .int .i64 k] = some (zD (y.natAbs * k)) := by
  refine M_of X (fn := Tryz.f159) Tryz.func159 rfl ok_159 mode_159 res_159 _ rfl _ ?_
  intro r hr
  have h1 := normDg false y y.natAbs (by omega) (by simp)
  have h2 := M_64 k (by omega)
  have h3 := M_66 y.natAbs k (by rw [nd_nat]; omega) (by have := nd_small k (by omega); omega)
  simp (maxSteps := 4000000) (disch := first | omega | (simp only [List.length_set, List.length_replicate, List.length_append, List.length_take, List.length_drop, List.length_cons, List.length_nil]; omega)) only [go_sem, reduceCtorEq, Nat.reduceEqDiff, Nat.reduceAdd, Nat.reduceMul, Nat.reduceSub, ↓Nat.reduceBEq, Nat.reduceLT, Nat.reduceLeDiff, Int.reduceLT, Int.reduceLE, Int.reduceNeg, Int.reduceToNat, mode_106, mode_64, mode_66, h1, h2, h3]
  rw [hr]
theorem digs_0 (n : Nat) : (digs n).getD 0 0 = ((n % Bn : Nat) : Int) := by
  by_cases h : n = 0
  · subst h; rw [digs_zero]; rfl
  · rw [digs_pos n h]; rfl
theorem digs_1 (n : Nat) : (digs n).getD 1 0 = ((n / Bn % Bn : Nat) : Int) := by
  by_cases h : n = 0
  · subst h; rw [digs_zero]; rfl
  · rw [digs_pos n h]
    exact digs_0 _
set_option maxRecDepth 100000 in
theorem M_136 [SpC] (x : Int) (h : x.natAbs < 1000000000000000000) : M X 136 [zD x] = some (.int .i64 x.natAbs) := by
  refine M_of X (fn := Tryz.f136) Tryz.func136 rfl ok_136 mode_136 res_136 _ rfl _ ?_
  intro r hr
  have h0 := M_138 (digs x.natAbs) 0 (by omega)
  have h1 := M_138 (digs x.natAbs) 1 (by omega)
  rw [show (0 : Int).toNat = 0 from rfl, digs_0, ← zD_eq] at h0
  rw [show (1 : Int).toNat = 1 from rfl, digs_1, ← zD_eq] at h1
  have e : ((x.natAbs / Bn % Bn : Nat) : Int) * 1000000000 + ((x.natAbs % Bn : Nat) : Int) = x.natAbs := by simp only [Bn]; omega
  have b1 : 0 ≤ ((x.natAbs / Bn % Bn : Nat) : Int) ∧ ((x.natAbs / Bn % Bn : Nat) : Int) < 1000000000 := by simp only [Bn]; omega
  have b2 : 0 ≤ ((x.natAbs % Bn : Nat) : Int) ∧ ((x.natAbs % Bn : Nat) : Int) < 1000000000 := by simp only [Bn]; omega
  generalize ((x.natAbs / Bn % Bn : Nat) : Int) = d1 at *
  generalize ((x.natAbs % Bn : Nat) : Int) = d0 at *
  simp (maxSteps := 4000000) (disch := first | omega | (simp only [List.length_set, List.length_replicate, List.length_append, List.length_take, List.length_drop, List.length_cons, List.length_nil]; omega)) only [go_sem, reduceCtorEq, Nat.reduceEqDiff, Nat.reduceAdd, Nat.reduceMul, Nat.reduceSub, ↓Nat.reduceBEq, Nat.reduceLT, Nat.reduceLeDiff, Int.reduceLT, Int.reduceLE, Int.reduceNeg, Int.reduceToNat, mode_138, h0, h1]
  rw [hr, e]
end Go.Proofs.YtjccikgdebgebaaGreatDoor.Abs
end
