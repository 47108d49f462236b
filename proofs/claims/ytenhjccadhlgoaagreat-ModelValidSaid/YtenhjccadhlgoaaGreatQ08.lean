/-
  Packages integer, rat and model: which numbers are valid; what ContainsFunc finds. No conditions. Package model: numbers. No conditions. Package model: Live. No conditions. Package model: sum, plus, minus, At, Moves. No conditions. Package model: holds. No conditions. Packages model and convex: dof, between, Normal, Contains of directions. No conditions. Package model: Valid, for a model without ropes and skipped pairs. No conditions.
-/
import Derived.Test.YtenhjccadhlgoaaGreatQ07
set_option linter.unusedSimpArgs false
set_option linter.unusedVariables false
set_option maxRecDepth 100000
set_option maxHeartbeats 16000000
namespace Go.Proofs.YtenhjccadhlgoaaGreat.Abs
open Go
theorem idx_int [SpC] (G : Nat) (hm : X.mode G = .ro) (P : Int → Bool) (l : List (Int)) (hc : ∀ e ∈ l, M X G [.int .i64 e] = some (.bool (P e))) (hl : l.length < 2 ^ 30) :
  ∃ z : Int, M X 249 [isl l, .func (.func G) [] []] = some (.int .i64 z) ∧ decide (0 ≤ z) = l.any P := by
 suffices h : ∃ r, (∃ z : Int, r = .int .i64 z ∧ decide (0 ≤ z) = l.any P) ∧ M X 249 [isl l, .func (.func G) [] []] = some r by
  obtain ⟨r, ⟨z, rfl, h1⟩, h2⟩ := h
  exact ⟨z, h2, h1⟩
 refine M_ex (fn := Tryz.f249) Tryz.func249 rfl ok_249 mode_249 res_249 _ rfl _ ?_
 have hl2 := hl
 simp (maxSteps := 4000000) (disch := first | omega | (simp only [LL]; omega)) only [go_sem, hl2]
 refine W_loop X (fun (k : Nat) s => k ≤ l.length ∧ (∀ j e, j < k → l[j]? = some e → P e = false) ∧ s.env 0 = isl l ∧ s.env 1 = .func (.func G) [] [] ∧ s.env 7 = .int .i64 l.length ∧ s.env 8 = .int .i64 k) (fun k => l.length - k) ?_ 0 _ ?_
 ·rintro k ⟨env, heap, nx⟩ ⟨hk, hj, g0, g1, g7, g8⟩
  simp only at g0 g1 g7 g8
  by_cases h1 : k < l.length
  ·have hn := List.getElem?_eq_getElem h1
   have hd : l.getD k 0 = l[k] := by rw [List.getD_eq_getElem?_getD, hn, Option.getD_some]
   have hmem : l[k] ∈ l := List.getElem_mem h1
   have hv := hc _ hmem
   by_cases h2 : P l[k] = true
   ·rw [h2] at hv
    have hany : l.any P = true := List.any_eq_true.2 ⟨_, hmem, h2⟩
    generalize l[k] = e at *
    simp (maxSteps := 4000000) (disch := first | omega | (simp only [LL]; omega)) only [go_sem, hl2, hd, g0, g1, g7, g8, hm, hv, weak_rptr]
    exact ⟨_, rfl, by rw [hany]; exact decide_eq_true (by omega)⟩
   ·simp only [Bool.not_eq_true] at h2
    rw [h2] at hv
    have hj' : ∀ j e, j < k + 1 → l[j]? = some e → P e = false := by
     intro j e h3 h4
     rcases Nat.lt_or_ge j k with h5 | h5
     ·exact hj j e h5 h4
     ·obtain rfl : j = k := by omega
      rw [hn] at h4; cases h4; exact h2
    clear hj
    generalize l[k] = e at *
    simp (maxSteps := 4000000) (disch := first | omega | (simp only [LL]; omega)) only [go_sem, hl2, hd, g0, g1, g7, g8, hm, hv, weak_rptr]
    exact ⟨k + 1, ⟨by omega, hj', rfl⟩, by omega⟩
  ·have hany : l.any P = false := by
    rw [List.any_eq_false]
    intro e he
    obtain ⟨j, h3, rfl⟩ := List.getElem_of_mem he
    have := hj j _ (by omega) (List.getElem?_eq_getElem h3)
    simpa using this
   clear hj
   simp (maxSteps := 4000000) (disch := first | omega | (simp only [LL]; omega)) only [go_sem, hl2, g0, g1, g7, g8]
   exact ⟨_, rfl, by rw [hany]; rfl⟩
 ·simp (maxSteps := 4000000) (disch := first | omega | (simp only [LL]; omega)) only [go_sem]
  exact fun j e h => absurd h (Nat.not_lt_zero j)
theorem con_int [SpC] (G : Nat) (hm : X.mode G = .ro) (P : Int → Bool) (l : List (Int)) (hc : ∀ e ∈ l, M X G [.int .i64 e] = some (.bool (P e))) (hl : l.length < 2 ^ 30) :
  M X 234 [isl l, .func (.func G) [] []] = some (.bool (l.any P)) := by
 refine M_of X (fn := Tryz.f234) Tryz.func234 rfl ok_234 mode_234 res_234 _ rfl _ ?_
 intro r hr
 obtain ⟨z, h1, h2⟩ := idx_int G hm P l hc hl
 have hl2 := hl
 simp (maxSteps := 4000000) (disch := first | omega | (simp only [LL]; omega)) only [go_sem, hl2, weaks_ints, weak_rptr, mode_249, h1]
 rw [hr, h2]
theorem idx_nm [SpC] (G : Nat) (hm : X.mode G = .ro) (P : Nm → Bool) (l : List (Nm)) (hc : ∀ e ∈ l, M X G [.agg (nmA e)] = some (.bool (P e))) (hl : l.length < 2 ^ 30) (g : Bool) :
  ∃ z : Int, M X 188 [.ro (cat nmA l) l.length g, .func (.func G) [] []] = some (.int .i64 z) ∧ decide (0 ≤ z) = l.any P := by
 suffices h : ∃ r, (∃ z : Int, r = .int .i64 z ∧ decide (0 ≤ z) = l.any P) ∧ M X 188 [.ro (cat nmA l) l.length g, .func (.func G) [] []] = some r by
  obtain ⟨r, ⟨z, rfl, h1⟩, h2⟩ := h
  exact ⟨z, h2, h1⟩
 refine M_ex (fn := Tryz.f188) Tryz.func188 rfl ok_188 mode_188 res_188 _ rfl _ ?_
 have hl2 := cat_length (f := nmA) l
 simp (maxSteps := 4000000) (disch := first | omega | (simp only [LL]; omega)) only [go_sem, hl2]
 refine W_loop X (fun (k : Nat) s => k ≤ l.length ∧ (∀ j e, j < k → l[j]? = some e → P e = false) ∧ s.env 0 = .ro (cat nmA l) l.length g ∧ s.env 1 = .func (.func G) [] [] ∧ s.env 7 = .int .i64 l.length ∧ s.env 8 = .int .i64 k) (fun k => l.length - k) ?_ 0 _ ?_
 ·rintro k ⟨env, heap, nx⟩ ⟨hk, hj, g0, g1, g7, g8⟩
  simp only at g0 g1 g7 g8
  by_cases h1 : k < l.length
  ·have hn := List.getElem?_eq_getElem h1
   have hd := cat_take (f := nmA) hn
   have hmem : l[k] ∈ l := List.getElem_mem h1
   have hv := hc _ hmem
   by_cases h2 : P l[k] = true
   ·rw [h2] at hv
    have hany : l.any P = true := List.any_eq_true.2 ⟨_, hmem, h2⟩
    generalize l[k] = e at *
    have hwe := weaks_enc (f := nmA) e
    simp (maxSteps := 4000000) (disch := first | omega | (simp only [LL]; omega)) only [go_sem, hl2, hd, g0, g1, g7, g8, hm, hv, weak_rptr, hwe, snaps_enc]
    exact ⟨_, rfl, by rw [hany]; exact decide_eq_true (by omega)⟩
   ·simp only [Bool.not_eq_true] at h2
    rw [h2] at hv
    have hj' : ∀ j e, j < k + 1 → l[j]? = some e → P e = false := by
     intro j e h3 h4
     rcases Nat.lt_or_ge j k with h5 | h5
     ·exact hj j e h5 h4
     ·obtain rfl : j = k := by omega
      rw [hn] at h4; cases h4; exact h2
    clear hj
    generalize l[k] = e at *
    have hwe := weaks_enc (f := nmA) e
    simp (maxSteps := 4000000) (disch := first | omega | (simp only [LL]; omega)) only [go_sem, hl2, hd, g0, g1, g7, g8, hm, hv, weak_rptr, hwe, snaps_enc]
    exact ⟨k + 1, ⟨by omega, hj', rfl⟩, by omega⟩
  ·have hany : l.any P = false := by
    rw [List.any_eq_false]
    intro e he
    obtain ⟨j, h3, rfl⟩ := List.getElem_of_mem he
    have := hj j _ (by omega) (List.getElem?_eq_getElem h3)
    simpa using this
   clear hj
   simp (maxSteps := 4000000) (disch := first | omega | (simp only [LL]; omega)) only [go_sem, hl2, g0, g1, g7, g8]
   exact ⟨_, rfl, by rw [hany]; rfl⟩
 ·simp (maxSteps := 4000000) (disch := first | omega | (simp only [LL]; omega)) only [go_sem]
  exact fun j e h => absurd h (Nat.not_lt_zero j)
theorem con_nm [SpC] (G : Nat) (hm : X.mode G = .ro) (P : Nm → Bool) (l : List (Nm)) (hc : ∀ e ∈ l, M X G [.agg (nmA e)] = some (.bool (P e))) (hl : l.length < 2 ^ 30) (g : Bool) :
  M X 122 [.ro (cat nmA l) l.length g, .func (.func G) [] []] = some (.bool (l.any P)) := by
 refine M_of X (fn := Tryz.f122) Tryz.func122 rfl ok_122 mode_122 res_122 _ rfl _ ?_
 intro r hr
 obtain ⟨z, h1, h2⟩ := idx_nm G hm P l hc hl false
 have hl2 := cat_length (f := nmA) l
 simp (maxSteps := 4000000) (disch := first | omega | (simp only [LL]; omega)) only [go_sem, hl2, weaks_cat, weak_rptr, mode_188, h1]
 rw [hr, h2]
theorem idx_dir2 [SpC] (G : Nat) (hm : X.mode G = .ro) (cs0 : List AV) (hw0 : AV.weak.go cs0 = cs0) (cs1 : List AV) (hw1 : AV.weak.go cs1 = cs1) (P : Dr → Bool) (l : List (Dr)) (hc : ∀ e ∈ l, M X G [.agg (dirA e), .rptr cs0, .rptr cs1] = some (.bool (P e))) (hl : l.length < 2 ^ 30) (g : Bool) :
  ∃ z : Int, M X 207 [.ro (cat dirA l) l.length g, .func (.func G) [] [.rptr cs0, .rptr cs1]] = some (.int .i64 z) ∧ decide (0 ≤ z) = l.any P := by
 suffices h : ∃ r, (∃ z : Int, r = .int .i64 z ∧ decide (0 ≤ z) = l.any P) ∧ M X 207 [.ro (cat dirA l) l.length g, .func (.func G) [] [.rptr cs0, .rptr cs1]] = some r by
  obtain ⟨r, ⟨z, rfl, h1⟩, h2⟩ := h
  exact ⟨z, h2, h1⟩
 refine M_ex (fn := Tryz.f207) Tryz.func207 rfl ok_207 mode_207 res_207 _ rfl _ ?_
 have hl2 := cat_length (f := dirA) l
 simp (maxSteps := 4000000) (disch := first | omega | (simp only [LL]; omega)) only [go_sem, hl2]
 refine W_loop X (fun (k : Nat) s => k ≤ l.length ∧ (∀ j e, j < k → l[j]? = some e → P e = false) ∧ s.env 0 = .ro (cat dirA l) l.length g ∧ s.env 1 = .func (.func G) [] [.rptr cs0, .rptr cs1] ∧ s.env 7 = .int .i64 l.length ∧ s.env 8 = .int .i64 k) (fun k => l.length - k) ?_ 0 _ ?_
 ·rintro k ⟨env, heap, nx⟩ ⟨hk, hj, g0, g1, g7, g8⟩
  simp only at g0 g1 g7 g8
  by_cases h1 : k < l.length
  ·have hn := List.getElem?_eq_getElem h1
   have hd := cat_take (f := dirA) hn
   have hmem : l[k] ∈ l := List.getElem_mem h1
   have hv := hc _ hmem
   by_cases h2 : P l[k] = true
   ·rw [h2] at hv
    have hany : l.any P = true := List.any_eq_true.2 ⟨_, hmem, h2⟩
    generalize l[k] = e at *
    have hwe := weaks_enc (f := dirA) e
    simp (maxSteps := 4000000) (disch := first | omega | (simp only [LL]; omega)) only [go_sem, hl2, hd, g0, g1, g7, g8, hm, hv, weak_rptr, hw0, hw1, hwe, snaps_enc]
    exact ⟨_, rfl, by rw [hany]; exact decide_eq_true (by omega)⟩
   ·simp only [Bool.not_eq_true] at h2
    rw [h2] at hv
    have hj' : ∀ j e, j < k + 1 → l[j]? = some e → P e = false := by
     intro j e h3 h4
     rcases Nat.lt_or_ge j k with h5 | h5
     ·exact hj j e h5 h4
     ·obtain rfl : j = k := by omega
      rw [hn] at h4; cases h4; exact h2
    clear hj
    generalize l[k] = e at *
    have hwe := weaks_enc (f := dirA) e
    simp (maxSteps := 4000000) (disch := first | omega | (simp only [LL]; omega)) only [go_sem, hl2, hd, g0, g1, g7, g8, hm, hv, weak_rptr, hw0, hw1, hwe, snaps_enc]
    exact ⟨k + 1, ⟨by omega, hj', rfl⟩, by omega⟩
  ·have hany : l.any P = false := by
    rw [List.any_eq_false]
    intro e he
    obtain ⟨j, h3, rfl⟩ := List.getElem_of_mem he
    have := hj j _ (by omega) (List.getElem?_eq_getElem h3)
    simpa using this
   clear hj
   simp (maxSteps := 4000000) (disch := first | omega | (simp only [LL]; omega)) only [go_sem, hl2, g0, g1, g7, g8]
   exact ⟨_, rfl, by rw [hany]; rfl⟩
 ·simp (maxSteps := 4000000) (disch := first | omega | (simp only [LL]; omega)) only [go_sem]
  exact fun j e h => absurd h (Nat.not_lt_zero j)
theorem con_dir2 [SpC] (G : Nat) (hm : X.mode G = .ro) (cs0 : List AV) (hw0 : AV.weak.go cs0 = cs0) (cs1 : List AV) (hw1 : AV.weak.go cs1 = cs1) (P : Dr → Bool) (l : List (Dr)) (hc : ∀ e ∈ l, M X G [.agg (dirA e), .rptr cs0, .rptr cs1] = some (.bool (P e))) (hl : l.length < 2 ^ 30) (g : Bool) :
  M X 148 [.ro (cat dirA l) l.length g, .func (.func G) [] [.rptr cs0, .rptr cs1]] = some (.bool (l.any P)) := by
 refine M_of X (fn := Tryz.f148) Tryz.func148 rfl ok_148 mode_148 res_148 _ rfl _ ?_
 intro r hr
 obtain ⟨z, h1, h2⟩ := idx_dir2 G hm cs0 hw0 cs1 hw1 P l hc hl false
 have hl2 := cat_length (f := dirA) l
 simp (maxSteps := 4000000) (disch := first | omega | (simp only [LL]; omega)) only [go_sem, hl2, weaks_cat, weak_rptr, hw0, hw1, mode_207, h1]
 rw [hr, h2]
theorem M_235 [SpC] (d : Int) : M X 235 [.int .i64 d] = some (.bool (!decide (0 ≤ d ∧ d < 1000000000))) := by
 refine M_of X (fn := Tryz.f235) Tryz.func235 rfl ok_235 mode_235 res_235 _ rfl _ ?_
 intro r hr
 rw [hr]
 by_cases h1 : d < 0
 ·have e : decide (0 ≤ d ∧ d < 1000000000) = false := decide_eq_false (by omega)
  simp (maxSteps := 4000000) (disch := first | omega | (simp only [LL]; omega)) only [go_sem, e, Bool.not_false]
 ·by_cases h2 : 1000000000 ≤ d
  ·have e : decide (0 ≤ d ∧ d < 1000000000) = false := decide_eq_false (by omega)
   simp (maxSteps := 4000000) (disch := first | omega | (simp only [LL]; omega)) only [go_sem, e, Bool.not_false]
  ·have e : decide (0 ≤ d ∧ d < 1000000000) = true := decide_eq_true (by omega)
   simp (maxSteps := 4000000) (disch := first | omega | (simp only [LL]; omega)) only [go_sem, e, Bool.not_true]
theorem any_dig (l : List Int) : l.any (fun d => !decide (0 ≤ d ∧ d < 1000000000)) = !okDig l := by
 unfold okDig
 rw [List.any_eq_not_all_not]
 congr 1
 congr 1
 funext d
 simp
theorem M_189 [SpC] (b : Bool) (l : List Int) (hl : l.length < 2 ^ 30) : M X 189 [.agg [.bool b, isl l]] = some (.bool (validI b l)) := by
 refine M_of X (fn := Tryz.f189) Tryz.func189 rfl ok_189 mode_189 res_189 _ rfl _ ?_
 intro r hr
 have c1 := con_int 235 mode_235 _ l (fun d _ => M_235 d) hl
 rw [any_dig] at c1
 unfold validI at hr
 by_cases h0 : okDig l = true
 ·rw [h0] at c1 hr
  simp only [Bool.not_true, Bool.true_and] at c1 hr
  by_cases h2 : l.length = 0
  ·rw [if_pos h2] at hr
   cases b <;> (simp (maxSteps := 4000000) (disch := first | omega | (simp only [LL]; omega)) only [go_sem, c1, h2]; rw [hr]; rfl)
  ·rw [if_neg h2] at hr
   have u : ((l.length - 1 : Nat) : Int) = (l.length : Int) - 1 := by omega
   generalize hd : l.getD (l.length - 1) 0 = d at hr
   simp (maxSteps := 4000000) (disch := first | omega | (simp only [LL]; omega)) only [go_sem, c1, hd]
   rw [hr]
   by_cases hd0 : d = 0 <;> simp [hd0]
 ·simp only [Bool.not_eq_true] at h0
  rw [h0] at c1 hr
  simp only [Bool.not_false, Bool.false_and] at c1 hr
  simp (maxSteps := 4000000) (disch := first | omega | (simp only [LL]; omega)) only [go_sem, c1]
  rw [hr]
theorem valid_zi [SpC] (p : Int) (hp : nd p < 2 ^ 28) : M X 189 [.agg [zS p, zD p]] = some (.bool true) := by
 have := M_189 (decide (p < 0)) (digs p.natAbs) (by rw [nd] at hp; omega)
 rw [validI_z] at this
 exact this
theorem pvalid_pq [SpC] (p q : Int) (hp : nd p < 2 ^ 26) (hq : nd q < 2 ^ 26) : M X 124 [.agg [zS p, zD p, zS q, zD q]] = some (.bool (validQ p q)) := by
 refine M_of X (fn := Tryz.f124) Tryz.func124 rfl ok_124 mode_124 res_124 _ rfl _ ?_
 intro r hr
 have v1 := valid_zi p (by omega)
 have v2 := valid_zi q (by omega)
 have o1 := M_160 q (by omega)
 by_cases h1 : q < 0
 ·have e : validQ p q = false := decide_eq_false (by omega)
  have z := zS_neg q h1
  rw [z] at v2 ⊢
  simp (maxSteps := 4000000) (disch := first | omega | (simp only [LL]; omega)) only [go_sem, v1, v2]
  rw [hr, e]
 ·have z := zS_pos q (by omega)
  rw [z] at v2 o1 ⊢
  by_cases h2 : q = 1
  ·have e : validQ p q = false := decide_eq_false (by omega)
   rw [decide_eq_true h2] at o1
   simp (maxSteps := 4000000) (disch := first | omega | (simp only [LL]; omega)) only [go_sem, v1, v2, o1]
   rw [hr, e]
  ·rw [decide_eq_false h2] at o1
   by_cases h3 : q = 0
   ·have e : validQ p q = true := decide_eq_true ⟨by omega, h2, .inl h3⟩
    have n0 := nd_zero q h3
    simp (maxSteps := 4000000) (disch := first | omega | (simp only [LL]; omega)) only [go_sem, v1, v2, o1, n0]
    rw [hr, e]
   ·have np := nd_pos q h3
    have e : validQ p q = decide (Int.gcd p q = 1) := by
     unfold validQ
     by_cases h4 : Int.gcd p q = 1
     ·rw [decide_eq_true h4]; exact decide_eq_true ⟨by omega, h2, .inr h4⟩
     ·rw [decide_eq_false h4]; exact decide_eq_false (by omega)
    have g1 := M_159 p q (by omega) (by omega)
    rw [z] at g1
    have hle : nd (Int.gcd p q : Int) ≤ nd q := nd_mono (by
     rw [Int.natAbs_natCast]
     exact Nat.le_of_dvd (by omega) (Int.gcd_dvd_natAbs_right p q))
    have o2 := M_160 (Int.gcd p q : Int) (by omega)
    have e2 : decide ((Int.gcd p q : Int) = 1) = decide (Int.gcd p q = 1) := by congr 1; exact propext (by omega)
    rw [e2] at o2
    generalize Int.gcd p q = g at *
    simp (maxSteps := 4000000) (disch := first | omega | (simp only [LL]; omega)) only [go_sem, v1, v2, o1, g1, o2]
    rw [hr, e]
theorem pvalid_bad [SpC] : M X 124 [.agg [.bool false, .ro [.int .i64 0] 1 false, zS 2, zD 2]] = some (.bool false) := by
 refine M_of X (fn := Tryz.f124) Tryz.func124 rfl ok_124 mode_124 res_124 _ rfl _ ?_
 intro r hr
 have v1 : M X 189 [.agg [.bool false, .ro [.int .i64 0] 1 false]] = some (.bool false) := M_189 false [0] (by decide)
 simp (maxSteps := 4000000) (disch := first | omega | (simp only [LL]; omega)) only [go_sem, v1]
 rw [hr]
theorem M_124 [SpC] (n : Nm) (h : nmB n) : M X 124 [.agg [n.c1, n.c2, n.c3, n.c4]] = some (.bool n.ok) := by
 cases n with
 | z p q => exact pvalid_pq p q (by have := h.1; omega) (by have := h.2; omega)
 | bad => exact pvalid_bad
theorem M_123 [SpC] (n : Nm) (h : nmB n) : M X 123 [.agg [n.c1, n.c2, n.c3, n.c4]] = some (.bool (!n.ok)) := by
 refine M_of X (fn := Tryz.f123) Tryz.func123 rfl ok_123 mode_123 res_123 _ rfl _ ?_
 intro r hr
 have v := M_124 n h
 simp (maxSteps := 4000000) (disch := first | omega | (simp only [LL]; omega)) only [go_sem, v]
 rw [hr]
theorem M_54 [SpC] (l : List Nm) (hl : l.length < 2 ^ 30) (h : ∀ n ∈ l, nmB n) : M X 54 [.ro (cat nmA l) l.length false] = some (.bool (l.all Nm.ok)) := by
 refine M_of X (fn := Tryz.f54) Tryz.func54 rfl ok_54 mode_54 res_54 _ rfl _ ?_
 intro r hr
 have c1 := con_nm 123 mode_123 (fun n => !n.ok) l (fun n hn => M_123 n (h n hn)) hl false
 have hl2 := cat_length (f := nmA) l
 have e : l.all Nm.ok = !(l.any fun n => !n.ok) := by rw [List.any_eq_not_all_not]; simp
 simp (maxSteps := 4000000) (disch := first | omega | (simp only [LL]; omega)) only [go_sem, hl2, weaks_cat, c1]
 rw [hr, e]
theorem canonical_q [SpC] (l : List Rat) (N : Nat) (hl : l.length < 2 ^ 30) (h : ∀ x ∈ l, RS x N) (hN : N < 2 ^ 19) : M X 54 [.ro (cat ratA l) l.length false] = some (.bool true) := by
 have := M_54 (l.map ofQ) (by rw [List.length_map]; exact hl) (fun n hn => by
  obtain ⟨x, hx, rfl⟩ := List.mem_map.1 hn
  exact nmB_ofQ (h x hx) hN)
 rw [← rat_nm, List.length_map] at this
 rw [this]
 have e : (l.map ofQ).all Nm.ok = true := by
  rw [List.all_eq_true]
  intro n hn
  obtain ⟨x, hx, rfl⟩ := List.mem_map.1 hn
  exact ok_ofQ x
 rw [e]
def dofN (d : DofR) : List Nm := [ofQ d.inv, d.load, ofQ d.lo, ofQ d.hi]
def colN (c : ColR) : List Nm := [ofQ c.x, ofQ c.y, ofQ c.s]
def parN (p : PartR) : List Nm := [ofQ p.hx, ofQ p.hy, ofQ p.ro, ofQ p.bo]
def ropN (r : RopeR) : List Nm := [ofQ r.fx, ofQ r.fy, ofQ r.tx, ofQ r.ty, ofQ r.len]
def partN (p : PartR) : List Nm := parN p ++ p.cols.flatMap colN
def numsV (m : MdlR) : List Nm := m.dofs.flatMap dofN ++ m.parts.flatMap partN ++ m.ropes.flatMap ropN
theorem cat_dofN (d : DofR) : cat nmA (dofN d) = [zS (Rat.num (d.inv)), zD (Rat.num (d.inv)), zS (dz (d.inv)), zD (dz (d.inv)), d.load.c1, d.load.c2, d.load.c3, d.load.c4, zS (Rat.num (d.lo)), zD (Rat.num (d.lo)), zS (dz (d.lo)), zD (dz (d.lo)), zS (Rat.num (d.hi)), zD (Rat.num (d.hi)), zS (dz (d.hi)), zD (dz (d.hi))] := rfl
theorem cat_colN (c : ColR) : cat nmA (colN c) = [zS (Rat.num (c.x)), zD (Rat.num (c.x)), zS (dz (c.x)), zD (dz (c.x)), zS (Rat.num (c.y)), zD (Rat.num (c.y)), zS (dz (c.y)), zD (dz (c.y)), zS (Rat.num (c.s)), zD (Rat.num (c.s)), zS (dz (c.s)), zD (dz (c.s))] := rfl
theorem cat_parN (p : PartR) : cat nmA (parN p) = [zS (Rat.num (p.hx)), zD (Rat.num (p.hx)), zS (dz (p.hx)), zD (dz (p.hx)), zS (Rat.num (p.hy)), zD (Rat.num (p.hy)), zS (dz (p.hy)), zD (dz (p.hy)), zS (Rat.num (p.ro)), zD (Rat.num (p.ro)), zS (dz (p.ro)), zD (dz (p.ro)), zS (Rat.num (p.bo)), zD (Rat.num (p.bo)), zS (dz (p.bo)), zD (dz (p.bo))] := rfl
theorem cat_ropN (r : RopeR) : cat nmA (ropN r) = [zS (Rat.num (r.fx)), zD (Rat.num (r.fx)), zS (dz (r.fx)), zD (dz (r.fx)), zS (Rat.num (r.fy)), zD (Rat.num (r.fy)), zS (dz (r.fy)), zD (dz (r.fy)), zS (Rat.num (r.tx)), zD (Rat.num (r.tx)), zS (dz (r.tx)), zD (dz (r.tx)), zS (Rat.num (r.ty)), zD (Rat.num (r.ty)), zS (dz (r.ty)), zD (dz (r.ty)), zS (Rat.num (r.len)), zD (Rat.num (r.len)), zS (dz (r.len)), zD (dz (r.len))] := rfl
theorem replQ_3 : replA 3 [.bool false, .ro [] 0 false, .bool false, .ro [] 0 false] = [.bool false, .ro [] 0 false, .bool false, .ro [] 0 false, .bool false, .ro [] 0 false, .bool false, .ro [] 0 false, .bool false, .ro [] 0 false, .bool false, .ro [] 0 false] := rfl
theorem replQ_4 : replA 4 [.bool false, .ro [] 0 false, .bool false, .ro [] 0 false] = [.bool false, .ro [] 0 false, .bool false, .ro [] 0 false, .bool false, .ro [] 0 false, .bool false, .ro [] 0 false, .bool false, .ro [] 0 false, .bool false, .ro [] 0 false, .bool false, .ro [] 0 false, .bool false, .ro [] 0 false] := rfl
theorem replQ_5 : replA 5 [.bool false, .ro [] 0 false, .bool false, .ro [] 0 false] = [.bool false, .ro [] 0 false, .bool false, .ro [] 0 false, .bool false, .ro [] 0 false, .bool false, .ro [] 0 false, .bool false, .ro [] 0 false, .bool false, .ro [] 0 false, .bool false, .ro [] 0 false, .bool false, .ro [] 0 false, .bool false, .ro [] 0 false, .bool false, .ro [] 0 false] := rfl
theorem flat_take {α β : Type} (f : α → List β) {l : List α} {i : Nat} {x : α} (h : l[i]? = some x) : (l.take (i + 1)).flatMap f = (l.take i).flatMap f ++ f x := by
 obtain ⟨hi, rfl⟩ := List.getElem?_eq_some_iff.1 h
 rw [List.take_succ_eq_append_getElem hi, List.flatMap_append]; simp
theorem flat_len {α β : Type} (f : α → List β) (n : Nat) : ∀ (l : List α), (∀ x ∈ l, (f x).length ≤ n) → (l.flatMap f).length ≤ n * l.length
 | [], _ => by simp
 | x :: l, h => by
  have := flat_len f n l (fun y hy => h y (by simp [hy]))
  have h2 := h x (by simp)
  rw [List.flatMap_cons, List.length_append, List.length_cons, Nat.mul_add]
  omega
theorem PN_grow {lo : Nat} {h H : Heap} {nx n sz bytes id k : Nat} {v : AV} {cs xs : List AV} {rd : List Nat} {Φ : Eff → Prop} (hg : GrowC lo h nx v cs n sz) (hk : k ≠ 0) (hcs : cs.length = n * sz) (hb : (n + k) * (bytes + 1) ≤ 2 ^ 40) (hid : nx ≤ id) (hh : ∀ b, lo ≤ b → b < nx → H b = h b)
  (hΦ : ∀ rd' wr' H', applyWr H wr' = H' → (∀ b, b < lo ∨ nx ≤ b → b ≠ id → H' b = H b) → H' id = some (.cells (cs ++ xs) true false) → Φ (.loc ⟨.sl id 0 (n + k) none sz, rd', wr'⟩)) : PN (apD sz bytes H id xs k rd v) Φ := by
 rcases hg with ⟨rfl, rfl, rfl⟩ | ⟨B, hB, rfl, eB⟩
 ·rw [apD_ro, if_neg hk, if_pos ⟨rfl, by simp, hb⟩]
  refine ⟨_, rfl, hΦ _ _ _ rfl (fun b h1 h2 => ?_) ?_⟩
  ·show upd H id _ b = H b
   simp only [upd_apply, if_neg h2]
  ·show upd H id _ id = _
   simp [upd_apply]
 ·rw [apD_sl, hh B hB.1 hB.2, eB, apO_open, if_neg hk, if_pos ⟨by omega, hb⟩]
  refine ⟨_, rfl, hΦ _ _ _ rfl (fun b h1 h2 => ?_) ?_⟩
  ·show upd (upd H B none) id _ b = H b
   rw [upd_apply, if_neg h2, upd_apply, if_neg (by omega)]
  ·show upd (upd H B none) id _ id = _
   simp [upd_apply]
def GrowN (h : Heap) (nx : Nat) (v : AV) (l : List Nm) : Prop := GrowC 8 h nx v (cat nmA l) l.length 4
theorem growN_mono {h h' : Heap} {nx nx' : Nat} {v : AV} {l : List Nm} (hg : GrowN h nx v l) (hh : ∀ b, b < nx → h' b = h b) (hn : nx ≤ nx') : GrowN h' nx' v l := growC_mono hg hh hn
theorem growN_put {H' : Heap} {id nx n : Nat} {l a : List Nm} {cs : List AV} (hid : 8 ≤ id ∧ id < nx) (hn : n = (l ++ a).length) (hc : cat nmA a = cs) (k2 : H' id = some (.cells (cat nmA l ++ cs) true false)) : GrowN H' nx (.sl id 0 n none 4) (l ++ a) := by
 subst hn hc
 exact .inr ⟨id, hid, rfl, by rw [cat_append]; exact k2⟩
theorem M_55 [SpC] (m : MdlR) (hd : m.dofs.length < 2 ^ 10) (hp : m.parts.length < 2 ^ 10) (hr0 : m.ropes.length < 2 ^ 10) (hc : ∀ p ∈ m.parts, p.cols.length < 2 ^ 10) :
  M X 55 [.agg (mdlA m)] = some (.ro (cat nmA (numsV m)) (numsV m).length false) := by
 refine M_of X (fn := Tryz.f55) Tryz.func55 rfl ok_55 mode_55 res_55 _ rfl _ ?_
 intro r hr
 have cd := cat_length (f := dofA) m.dofs
 have cp := cat_length (f := partA) m.parts
 have cr := cat_length (f := ropeA) m.ropes
 simp (maxSteps := 4000000) (disch := first | omega | (simp only [LL]; omega)) only [go_sem, mdlA_eq, cd]
 refine W_loop X (fun (k : Nat) t => k ≤ m.dofs.length ∧ t.env 1 = .ptr 0 0 ∧ t.env 13 = .ro (cat dofA m.dofs) m.dofs.length false ∧ t.env 14 = .int .i64 m.dofs.length ∧ t.env 15 = .int .i64 k ∧ 8 ≤ t.next ∧ t.heap 0 = some (.cells (mdlA m) false false) ∧
  GrowN t.heap t.next (t.env 3) ((m.dofs.take k).flatMap dofN)) (fun k => m.dofs.length - k) ?_ 0 _ ?_
 ·rintro k ⟨env, heap, nx⟩ ⟨hk, g1, g13, g14, g15, hnx, e0, hgr⟩
  simp only at g1 g13 g14 g15 hnx e0 hgr
  rw [mdlA_eq] at e0
  by_cases hlt : k < m.dofs.length
  ·have hg := List.getElem?_eq_getElem hlt
   have hdd := cat_take (f := dofA) hg
   rw [dofA_eq] at hdd
   have hs := flat_take dofN hg
   have hlen := flat_len dofN 4 (m.dofs.take k) (fun x _ => Nat.le_refl _)
   rw [List.length_take] at hlen
   generalize m.dofs[k] = d at *
   generalize (m.dofs.take k).flatMap dofN = acc at *
   have ca := cat_length (f := nmA) acc
   rcases hgr with ⟨e3, ec, en⟩ | ⟨B, hB, e3, eB⟩
   ·obtain rfl : acc = [] := List.eq_nil_of_length_eq_zero en
    simp (maxSteps := 4000000) (disch := first | omega | (simp only [LL]; omega)) only [go_sem, g1, g13, g14, g15, e0, e3, cd, hdd, replQ_4]
    refine ⟨k + 1, ?_, by omega⟩
    rw [hs]
    repeat' apply And.intro
    all_goals first | omega | rfl | (rw [mdlA_eq]; done) | exact growC_put _ _ _ _ _ _ _ (by omega) | trace_state
   ·simp (maxSteps := 4000000) (disch := first | omega | (simp only [LL]; omega)) only [go_sem, g1, g13, g14, g15, e0, e3, eB, ca, cd, hdd, replQ_4]
    refine ⟨k + 1, ?_, by omega⟩
    rw [hs]
    repeat' apply And.intro
    all_goals first | omega | rfl | (rw [mdlA_eq]; done) | (refine growN_put (by omega) (by rw [List.length_append]; rfl) (cat_dofN d) ?_; simp (maxSteps := 4000000) (disch := first | omega | (simp only [LL]; omega)) only [go_sem]; done) | trace_state
  ·obtain rfl : k = m.dofs.length := by omega
   rw [List.take_length] at hgr
   have hl1 := flat_len dofN 4 m.dofs (fun x _ => Nat.le_refl _)
   simp (maxSteps := 4000000) (disch := first | omega | (simp only [LL]; omega)) only [go_sem, g1, g13, g14, g15, e0, cp]
   refine W_loop X (fun (k : Nat) t => k ≤ m.parts.length ∧ t.env 1 = .ptr 0 0 ∧ t.env 32 = .ro (cat partA m.parts) m.parts.length false ∧ t.env 33 = .int .i64 m.parts.length ∧ t.env 34 = .int .i64 k ∧ 8 ≤ t.next ∧ t.heap 0 = some (.cells (mdlA m) false false) ∧
    GrowN t.heap t.next (t.env 3) (m.dofs.flatMap dofN ++ (m.parts.take k).flatMap partN)) (fun k => m.parts.length - k) ?_ 0 _ ?_
   ·clear g1 g13 g14 g15 hnx e0 hgr hk hlt
    rintro k ⟨env, heap, nx⟩ ⟨hk, g1, g32, g33, g34, hnx, e0, hgr⟩
    simp only at g1 g32 g33 g34 hnx e0 hgr
    rw [mdlA_eq] at e0
    by_cases hlt : k < m.parts.length
    ·have hg := List.getElem?_eq_getElem hlt
     have hdd := cat_take (f := partA) hg
     rw [partA_eq] at hdd
     have hcp := hc _ (List.getElem_mem hlt)
     have hs := flat_take partN hg
     have hl2 := flat_len partN (3 * 2 ^ 10 + 4) (m.parts.take k) (fun x hx => by
      have h1 := hc x (List.mem_of_mem_take hx)
      have h2 := flat_len colN 3 x.cols (fun _ _ => Nat.le_refl _)
      unfold partN
      rw [List.length_append]
      have h3 : (parN x).length = 4 := rfl
      omega)
     rw [List.length_take] at hl2
     have hl3 : (m.dofs.flatMap dofN ++ (m.parts.take k).flatMap partN).length < 2 ^ 23 := by rw [List.length_append]; omega
     have hs2 : m.dofs.flatMap dofN ++ (m.parts.take (k + 1)).flatMap partN = (m.dofs.flatMap dofN ++ (m.parts.take k).flatMap partN) ++ (parN m.parts[k] ++ m.parts[k].cols.flatMap colN) := by
      rw [hs]; unfold partN; simp only [List.append_assoc]
     clear hs hl2
     generalize m.parts[k] = p at *
     generalize m.dofs.flatMap dofN ++ (m.parts.take k).flatMap partN = acc at *
     have ca := cat_length (f := nmA) acc
     have hcl := cat_length (f := colA) p.cols
     simp (maxSteps := 4000000) (disch := first | omega | (simp only [LL]; omega)) only [go_sem, g1, g32, g33, g34, e0, cp, hdd, replQ_4]
     refine PN_grow hgr (by decide) ca (by omega) (by omega) (fun b h1 h2 => ?_) fun rd' wr' H' hw k1 k2 => ?_
     ·repeat first | refine Eq.trans (upd_hit (by omega)) ?_ | refine upd_miss (by omega) ?_
      rfl
     have b0 := k1 0 (by omega) (by omega)
     have b7 := k1 (nx + 8 + 16) (by omega) (by omega)
     simp (maxSteps := 4000000) (disch := first | omega | (simp only [LL]; omega)) only [go_sem, e0] at b0 b7
     simp (maxSteps := 4000000) (disch := first | omega | (simp only [LL]; omega)) only [go_sem, g1, g32, g33, g34, hw, b0, b7, hcl]
     have hp4 : (parN p).length = 4 := rfl
     refine W_loop X (fun (j : Nat) t => j ≤ p.cols.length ∧ t.env 1 = .ptr 0 0 ∧ t.env 32 = .ro (cat partA m.parts) m.parts.length false ∧ t.env 33 = .int .i64 m.parts.length ∧ t.env 34 = .int .i64 k ∧ t.env 52 = .ro (cat colA p.cols) p.cols.length false ∧ t.env 53 = .int .i64 p.cols.length ∧ t.env 54 = .int .i64 j ∧ 8 ≤ t.next ∧ t.heap 0 = some (.cells (mdlA m) false false) ∧
      GrowN t.heap t.next (t.env 3) (acc ++ (parN p ++ (p.cols.take j).flatMap colN))) (fun j => p.cols.length - j) ?_ 0 _ ?_
     ·clear g1 g32 g33 g34 hnx e0 hgr b0 b7 hw k1 k2
      rintro j ⟨env, heap, nx⟩ ⟨hj, g1, g32, g33, g34, g52, g53, g54, hnx, e0, hgr⟩
      simp only at g1 g32 g33 g34 g52 g53 g54 hnx e0 hgr
      by_cases hlt2 : j < p.cols.length
      ·have hcg := List.getElem?_eq_getElem hlt2
       have hcd := cat_take (f := colA) hcg
       rw [colA_eq] at hcd
       have hs3 := flat_take colN hcg
       have hl4 := flat_len colN 3 (p.cols.take j) (fun _ _ => Nat.le_refl _)
       rw [List.length_take] at hl4
       have hs4 : acc ++ (parN p ++ (p.cols.take (j + 1)).flatMap colN) = (acc ++ (parN p ++ (p.cols.take j).flatMap colN)) ++ colN p.cols[j] := by rw [hs3]; simp only [List.append_assoc]
       have hl5 : (acc ++ (parN p ++ (p.cols.take j).flatMap colN)).length < 2 ^ 24 := by rw [List.length_append, List.length_append]; omega
       have hc3 : (colN p.cols[j]).length = 3 := rfl
       clear hs3
       generalize p.cols[j] = c at *
       generalize acc ++ (parN p ++ (p.cols.take j).flatMap colN) = ac2 at *
       have ca2 := cat_length (f := nmA) ac2
       simp (maxSteps := 4000000) (disch := first | omega | (simp only [LL]; omega)) only [go_sem, g1, g32, g33, g34, g52, g53, g54, hcl, hcd, replQ_3]
       refine PN_grow hgr (by decide) ca2 (by omega) (by omega) (fun b h1 h2 => ?_) fun rd' wr' H' hw k1 k2 => ?_
       ·repeat first | refine Eq.trans (upd_hit (by omega)) ?_ | refine upd_miss (by omega) ?_
        rfl
       have b0 := k1 0 (by omega) (by omega)
       simp (maxSteps := 4000000) (disch := first | omega | (simp only [LL]; omega)) only [go_sem, e0] at b0
       simp (maxSteps := 4000000) (disch := first | omega | (simp only [LL]; omega)) only [go_sem, g1, g32, g33, g34, g52, g53, g54, hw, b0]
       refine ⟨j + 1, ?_, by omega⟩
       rw [hs4]
       repeat' apply And.intro
       all_goals first | omega | rfl | assumption | exact growN_put (by omega) (by rw [List.length_append, hc3]) (cat_colN c) k2 | trace_state
      ·obtain rfl : j = p.cols.length := by omega
       rw [List.take_length, ← hs2] at hgr
       simp (maxSteps := 4000000) (disch := first | omega | (simp only [LL]; omega)) only [go_sem, g1, g32, g33, g34, g52, g53, g54]
       refine ⟨k + 1, ?_, by omega⟩
       repeat' apply And.intro
       all_goals first | omega | rfl | assumption | exact growN_mono hgr (fun _ _ => rfl) (by omega) | trace_state
     ·simp (maxSteps := 4000000) (disch := first | omega | (simp only [LL]; omega)) only [go_sem, g1, g32, g33, g34]
      simp only [List.flatMap_nil, List.append_nil]
      repeat' apply And.intro
      all_goals first | omega | rfl | assumption | (rw [mdlA_eq]; assumption) | exact growN_put (by omega) (by rw [List.length_append, hp4]) (cat_parN p) k2 | trace_state
    ·obtain rfl : k = m.parts.length := by omega
     rw [List.take_length] at hgr
     have hl2 := flat_len partN (3 * 2 ^ 10 + 4) m.parts (fun x hx => by
      have h1 := hc x hx
      have h2 := flat_len colN 3 x.cols (fun _ _ => Nat.le_refl _)
      unfold partN
      rw [List.length_append]
      have h3 : (parN x).length = 4 := rfl
      omega)
     have hl3 : (m.dofs.flatMap dofN ++ m.parts.flatMap partN).length < 2 ^ 23 := by rw [List.length_append]; omega
     have hnv : numsV m = (m.dofs.flatMap dofN ++ m.parts.flatMap partN) ++ m.ropes.flatMap ropN := rfl
     clear hl2 hl1
     generalize m.dofs.flatMap dofN ++ m.parts.flatMap partN = acc at *
     simp (maxSteps := 4000000) (disch := first | omega | (simp only [LL]; omega)) only [go_sem, g1, g32, g33, g34, e0, cr]
     refine W_loop X (fun (k : Nat) t => k ≤ m.ropes.length ∧ t.env 70 = .ro (cat ropeA m.ropes) m.ropes.length false ∧ t.env 71 = .int .i64 m.ropes.length ∧ t.env 72 = .int .i64 k ∧ 8 ≤ t.next ∧
      GrowN t.heap t.next (t.env 3) (acc ++ (m.ropes.take k).flatMap ropN)) (fun k => m.ropes.length - k) ?_ 0 _ ?_
     ·clear g1 g32 g33 g34 hnx e0 hgr hk hlt
      rintro k ⟨env, heap, nx⟩ ⟨hk, g70, g71, g72, hnx, hgr⟩
      simp only at g70 g71 g72 hnx hgr
      by_cases hlt : k < m.ropes.length
      ·have hg := List.getElem?_eq_getElem hlt
       have hdd := cat_take (f := ropeA) hg
       rw [ropeA_eq] at hdd
       have hs3 := flat_take ropN hg
       have hl4 := flat_len ropN 5 (m.ropes.take k) (fun _ _ => Nat.le_refl _)
       rw [List.length_take] at hl4
       have hs4 : acc ++ (m.ropes.take (k + 1)).flatMap ropN = (acc ++ (m.ropes.take k).flatMap ropN) ++ ropN m.ropes[k] := by rw [hs3]; simp only [List.append_assoc]
       have hl5 : (acc ++ (m.ropes.take k).flatMap ropN).length < 2 ^ 24 := by rw [List.length_append]; omega
       have hc3 : (ropN m.ropes[k]).length = 5 := rfl
       clear hs3
       generalize m.ropes[k] = c at *
       generalize acc ++ (m.ropes.take k).flatMap ropN = ac2 at *
       have ca2 := cat_length (f := nmA) ac2
       simp (maxSteps := 4000000) (disch := first | omega | (simp only [LL]; omega)) only [go_sem, g70, g71, g72, cr, hdd, replQ_5]
       refine PN_grow hgr (by decide) ca2 (by omega) (by omega) (fun b h1 h2 => ?_) fun rd' wr' H' hw k1 k2 => ?_
       ·repeat first | refine Eq.trans (upd_hit (by omega)) ?_ | refine upd_miss (by omega) ?_
        rfl
       simp (maxSteps := 4000000) (disch := first | omega | (simp only [LL]; omega)) only [go_sem, g70, g71, g72, hw]
       refine ⟨k + 1, ?_, by omega⟩
       rw [hs4]
       repeat' apply And.intro
       all_goals first | omega | rfl | assumption | exact growN_put (by omega) (by rw [List.length_append, hc3]) (cat_ropN c) k2 | trace_state
      ·obtain rfl : k = m.ropes.length := by omega
       rw [List.take_length, ← hnv] at hgr
       have ca2 := cat_length (f := nmA) (numsV m)
       rcases hgr with ⟨e3, ec, en⟩ | ⟨B, hB, e3, eB⟩
       ·simp (maxSteps := 4000000) (disch := first | omega | (simp only [LL]; omega)) only [go_sem, g70, g71, g72, e3]
        rw [hr, ec, en]
       ·simp (maxSteps := 4000000) (disch := first | omega | (simp only [LL]; omega)) only [go_sem, g70, g71, g72, e3, eB, ca2, snaps_cat, weaks_cat]
        rw [hr]
     ·simp (maxSteps := 4000000) (disch := first | omega | (simp only [LL]; omega)) only [go_sem]
      simp only [List.flatMap_nil, List.append_nil]
      repeat' apply And.intro
      all_goals first | omega | rfl | assumption | exact growN_mono hgr (fun _ _ => rfl) (by omega) | trace_state
   ·simp (maxSteps := 4000000) (disch := first | omega | (simp only [LL]; omega)) only [go_sem, g1]
    repeat' apply And.intro
    all_goals first | omega | rfl | (rw [mdlA_eq, e0]; done) | (simp only [List.flatMap_nil, List.append_nil]; exact growN_mono hgr (fun _ _ => rfl) (by omega)) | trace_state
 ·simp (maxSteps := 4000000) (disch := first | omega | (simp only [LL]; omega)) only [go_sem]
  repeat' apply And.intro
  all_goals first | omega | rfl | (rw [mdlA_eq]; done) | exact growC_nil _ _ _ _ | trace_state
theorem lvF_set (b : Bool) (o : List Bool) (c : ColR) (h : c.dof.toNat < o.length) : lvF b o c = o.set c.dof.toNat (o.getD c.dof.toNat false || b) := by
 unfold lvF
 cases b with
 | true => simp
 | false =>
  rw [if_neg (by simp), Bool.or_false]
  rw [List.getD_eq_getElem?_getD, List.getElem?_eq_getElem h, Option.getD_some, List.set_getElem_self]
theorem plive_call [SpC] (m : MdlR) (here : List Bool) (tick : Int) (vq vv vh : AV) (hm : okLive m) (hh : here.length = m.parts.length) (heap : Heap) (nx : Nat) (S : List Nat) (hS : ∀ b ∈ S, b < nx) (H : HeldC heap S vh (cat boolA here) here.length 1) :
  ∃ B h' nx', callI X 16 [.agg (mdlA m), .agg [.int .i64 tick, vq, vv, vh]] heap nx = some (.sl B 0 m.dofs.length (some m.dofs.length) 1, h', nx') ∧ (nx ≤ B ∧ B < nx') ∧ (∀ b, b < nx → h' b = heap b) ∧ h' B = some (.cells (cat boolA (liveV m here)) false false) := by
 suffices hs : ∀ Φ : AV × Heap × Nat → Prop, (∀ B h' nx', (nx ≤ B ∧ B < nx') → (∀ b, b < nx → h' b = heap b) → h' B = some (.cells (cat boolA (liveV m here)) false false) → Φ (.sl B 0 m.dofs.length (some m.dofs.length) 1, h', nx')) →
   ∃ q, callI X 16 [.agg (mdlA m), .agg [.int .i64 tick, vq, vv, vh]] heap nx = some q ∧ Φ q by
  obtain ⟨q, k1, B, h', nx', k2, k3, k4, k5⟩ := hs (fun q => ∃ B h' nx', q = (.sl B 0 m.dofs.length (some m.dofs.length) 1, h', nx') ∧ (nx ≤ B ∧ B < nx') ∧ (∀ b, b < nx → h' b = heap b) ∧ h' B = some (.cells (cat boolA (liveV m here)) false false)) (fun B h' nx' a b c => ⟨B, h', nx', rfl, a, b, c⟩)
  subst k2
  exact ⟨B, h', nx', k1, k3, k4, k5⟩
 intro Φ hΦ
 refine callI_of (fn := Tryz.f16) Tryz.func16 rfl ok_16 res_16 _ rfl heap nx _ ?_
 obtain ⟨m1, m2, m3⟩ := hm
 have hdl := cat_length (f := dofA) m.dofs
 have hpl := cat_length (f := partA) m.parts
 have hhl := cat_length (f := boolA) here
 simp only [Nat.mul_one] at hhl
 obtain ⟨h0, hh0⟩ : ∃ h0, h0 = heap := ⟨_, rfl⟩
 obtain ⟨n0, hn0⟩ : ∃ n0, n0 = nx := ⟨_, rfl⟩
 rw [← hh0, ← hn0] at hΦ
 subst hn0
 rcases H with ⟨f, rfl⟩ | ⟨C, cap, g, z, hC, rfl, hc, hcl0⟩
 ·clear hS
  simp (maxSteps := 4000000) (disch := first | omega | (simp only [LL]; omega)) only [go_sem, mdlA_eq, hdl, hpl, replA_bool]
  refine W_loop X (fun (k : Nat) t => k ≤ m.parts.length ∧ t.env 2 = .ptr (n0 + 0) 0 ∧ t.env 3 = .ptr (n0 + 8) 0 ∧ t.env 5 = .sl (n0 + 24 + 24) 0 m.dofs.length (some m.dofs.length) 1 ∧ t.env 15 = .ro (cat partA m.parts) m.parts.length false ∧ t.env 16 = .int .i64 m.parts.length ∧ t.env 17 = .int .i64 k ∧ n0 + 24 + 40 ≤ t.next ∧ t.heap (n0 + 0) = some (.cells (mdlA m) false false) ∧ t.heap (n0 + 8) = some (.cells [.int .i64 tick, vq, vv, .ro (cat boolA here) here.length f] false false) ∧
   t.heap (n0 + 24 + 24) = some (.cells (cat boolA (lvK m here k)) false false) ∧ (∀ b, b < n0 → t.heap b = h0 b)) (fun k => m.parts.length - k) ?_ 0 _ ?_
  ·rintro k ⟨env, heap, nx⟩ ⟨hk, g2, g3, g5, g15, g16, g17, hnx, e0, e8, e48, hfr⟩
   simp only at g2 g3 g5 g15 g16 g17 hnx e0 e8 e48 hfr
   rw [mdlA_eq] at e0
   by_cases h1 : k < m.parts.length
   ·have hg := List.getElem?_eq_getElem h1
    have hd := cat_take (f := partA) hg
    rw [partA_eq] at hd
    obtain ⟨c1, c2⟩ := m3 _ (List.getElem_mem h1)
    have hhb := getD_some (l := here) (i := k) (by omega) false
    have hb := cat_take (f := boolA) hhb
    rw [boolA_eq] at hb
    have hbd := cat_drop (f := boolA) hhb
    rw [boolA_eq] at hbd
    simp only [Nat.mul_one] at hb hbd
    have hz : (m.parts.zip here)[k]? = some (m.parts[k], here.getD k false) := by
     rw [List.getElem?_zip_eq_some]; exact ⟨hg, hhb⟩
    have e : lvK m here (k + 1) = lvP (lvK m here k) (m.parts[k], here.getD k false) := foldl_take _ _ _ _ _ hz
    have hol := lvK_len m here k
    generalize lvK m here k = o at *
    generalize m.parts[k] = p at *
    generalize here.getD k false = b at *
    have hcl := cat_length (f := colA) p.cols
    simp (maxSteps := 4000000) (disch := first | omega | (simp only [LL]; omega)) only [go_sem, g2, g3, g5, g15, g16, g17, e0, e8, e48, hpl, hd, hcl]
    refine W_loop X (fun (j : Nat) t => j ≤ p.cols.length ∧ t.env 2 = .ptr (n0 + 0) 0 ∧ t.env 3 = .ptr (n0 + 8) 0 ∧ t.env 5 = .sl (n0 + 24 + 24) 0 m.dofs.length (some m.dofs.length) 1 ∧ t.env 15 = .ro (cat partA m.parts) m.parts.length false ∧ t.env 16 = .int .i64 m.parts.length ∧ t.env 17 = .int .i64 k ∧ t.env 6 = .int .i64 k ∧ t.env 23 = .ro (cat colA p.cols) p.cols.length false ∧ t.env 24 = .int .i64 p.cols.length ∧ t.env 25 = .int .i64 j ∧ n0 + 24 + 40 ≤ t.next ∧ t.heap (n0 + 0) = some (.cells (mdlA m) false false) ∧ t.heap (n0 + 8) = some (.cells [.int .i64 tick, vq, vv, .ro (cat boolA here) here.length f] false false) ∧
     t.heap (n0 + 24 + 24) = some (.cells (cat boolA ((p.cols.take j).foldl (lvF b) o)) false false) ∧ (∀ b, b < n0 → t.heap b = h0 b)) (fun j => p.cols.length - j) ?_ 0 _ ?_
    ·clear g2 g3 g5 g15 g16 g17 hnx e0 e8 e48 hfr
     rintro j ⟨env, heap, nx⟩ ⟨hj, g2, g3, g5, g15, g16, g17, g6, g23, g24, g25, hnx, e0, e8, e48, hfr⟩
     simp only at g2 g3 g5 g15 g16 g17 g6 g23 g24 g25 hnx e0 e8 e48 hfr
     rw [mdlA_eq] at e0
     by_cases h2 : j < p.cols.length
     ·have hcg := List.getElem?_eq_getElem h2
      have hcd := cat_take (f := colA) hcg
      rw [colA_eq] at hcd
      obtain ⟨d1, d2⟩ := c2 _ (List.getElem_mem h2)
      have e2 : (p.cols.take (j + 1)).foldl (lvF b) o = lvF b ((p.cols.take j).foldl (lvF b) o) p.cols[j] := foldl_take _ _ _ _ _ hcg
      have hol2 : ((p.cols.take j).foldl (lvF b) o).length = m.dofs.length := by rw [lvFs_len, hol]
      generalize (p.cols.take j).foldl (lvF b) o = o2 at *
      generalize p.cols[j] = c at *
      have hbl := cat_length (f := boolA) o2
      simp only [Nat.mul_one] at hbl
      rw [lvF_set b o2 c (by omega)] at e2
      have hod := cat_drop (f := boolA) (getD_some (l := o2) (i := c.dof.toNat) (by omega) false)
      rw [boolA_eq] at hod
      simp only [Nat.mul_one] at hod
      have hs := fun y : Bool => cat_splice (f := boolA) (l := o2) (i := c.dof.toNat) (o := 0) (a' := y) (vs := [.bool y]) (getD_some (by omega) false) (by simp) (by simp [splice, boolA_eq])
      simp only [Nat.mul_one, Nat.add_zero] at hs
      cases hx : o2.getD c.dof.toNat false with
      | true =>
       rw [hx] at hod e2
       simp (maxSteps := 4000000) (disch := first | omega | (simp only [LL]; omega)) only [go_sem, g2, g3, g5, g15, g16, g17, g6, g23, g24, g25, e0, e8, e48, hcl, hcd, hbl, hol2, hod, hs]
       refine ⟨j + 1, ?_, by omega⟩
       repeat' apply And.intro
       all_goals first | omega | rfl | (rw [mdlA_eq]; done) | (rw [e2]; rfl) | (intro b hb; simp (maxSteps := 4000000) (disch := first | omega | (simp only [LL]; omega)) only [go_sem]; exact hfr b hb)
      | false =>
       rw [hx] at hod e2
       simp (maxSteps := 4000000) (disch := first | omega | (simp only [LL]; omega)) only [go_sem, g2, g3, g5, g15, g16, g17, g6, g23, g24, g25, e0, e8, e48, hcl, hcd, hbl, hol2, hod, hhl, hh, hb, hbd, hs]
       refine ⟨j + 1, ?_, by omega⟩
       repeat' apply And.intro
       all_goals first | omega | rfl | (rw [mdlA_eq]; done) | (rw [e2, Bool.false_or]; done) | (intro b hb; simp (maxSteps := 4000000) (disch := first | omega | (simp only [LL]; omega)) only [go_sem]; exact hfr b hb)
     ·obtain rfl : j = p.cols.length := by omega
      rw [List.take_length] at e48
      simp (maxSteps := 4000000) (disch := first | omega | (simp only [LL]; omega)) only [go_sem, g2, g3, g5, g15, g16, g17, g6, g23, g24, g25, e0, e8, e48, hcl]
      refine ⟨k + 1, ?_, by omega⟩
      repeat' apply And.intro
      all_goals first | omega | rfl | (rw [mdlA_eq]; done) | (rw [e]; rfl) | exact hfr
    ·simp (maxSteps := 4000000) (disch := first | omega | (simp only [LL]; omega)) only [go_sem, g2, g3, g5, g15, g16, g17, e0, e8, e48]
     repeat' apply And.intro
     all_goals first | omega | rfl | (rw [mdlA_eq]; done) | (intro b hb; simp (maxSteps := 4000000) (disch := first | omega | (simp only [LL]; omega)) only [go_sem]; exact hfr b hb)
   ·obtain rfl : k = m.parts.length := by omega
    rw [lvK_all m here hh] at e48
    simp (maxSteps := 4000000) (disch := first | omega | (simp only [LL]; omega)) only [go_sem, outC_ret, outC_normal, g2, g3, g5, g15, g16, g17, e0, e8, e48, hpl]
    exact hΦ _ _ _ ⟨by omega, by omega⟩ hfr e48
  ·simp (maxSteps := 4000000) (disch := first | omega | (simp only [LL]; omega)) only [go_sem]
   repeat' apply And.intro
   all_goals first | omega | rfl | (rw [mdlA_eq]; done) | skip
   all_goals (intro b hb; simp (maxSteps := 4000000) (disch := first | omega | (simp only [LL]; omega)) only [go_sem]; rw [hh0])
 ·rw [← hh0] at hc
  have hCn := hS C hC
  simp (maxSteps := 4000000) (disch := first | omega | (simp only [LL]; omega)) only [go_sem, mdlA_eq, hdl, hpl, replA_bool]
  refine W_loop X (fun (k : Nat) t => k ≤ m.parts.length ∧ t.env 2 = .ptr (n0 + 0) 0 ∧ t.env 3 = .ptr (n0 + 8) 0 ∧ t.env 5 = .sl (n0 + 24 + 24) 0 m.dofs.length (some m.dofs.length) 1 ∧ t.env 15 = .ro (cat partA m.parts) m.parts.length false ∧ t.env 16 = .int .i64 m.parts.length ∧ t.env 17 = .int .i64 k ∧ n0 + 24 + 40 ≤ t.next ∧ t.heap (n0 + 0) = some (.cells (mdlA m) false false) ∧ t.heap (n0 + 8) = some (.cells [.int .i64 tick, vq, vv, .sl C 0 here.length cap 1] false false) ∧
   t.heap (n0 + 24 + 24) = some (.cells (cat boolA (lvK m here k)) false false) ∧ (∀ b, b < n0 → t.heap b = h0 b)) (fun k => m.parts.length - k) ?_ 0 _ ?_
  ·rintro k ⟨env, heap, nx⟩ ⟨hk, g2, g3, g5, g15, g16, g17, hnx, e0, e8, e48, hfr⟩
   simp only at g2 g3 g5 g15 g16 g17 hnx e0 e8 e48 hfr
   rw [mdlA_eq] at e0
   have eC := (hfr C hCn).trans hc
   by_cases h1 : k < m.parts.length
   ·have hg := List.getElem?_eq_getElem h1
    have hd := cat_take (f := partA) hg
    rw [partA_eq] at hd
    obtain ⟨c1, c2⟩ := m3 _ (List.getElem_mem h1)
    have hhb := getD_some (l := here) (i := k) (by omega) false
    have hb := cat_take (f := boolA) hhb
    rw [boolA_eq] at hb
    have hbd := cat_drop (f := boolA) hhb
    rw [boolA_eq] at hbd
    simp only [Nat.mul_one] at hb hbd
    have hz : (m.parts.zip here)[k]? = some (m.parts[k], here.getD k false) := by
     rw [List.getElem?_zip_eq_some]; exact ⟨hg, hhb⟩
    have e : lvK m here (k + 1) = lvP (lvK m here k) (m.parts[k], here.getD k false) := foldl_take _ _ _ _ _ hz
    have hol := lvK_len m here k
    generalize lvK m here k = o at *
    generalize m.parts[k] = p at *
    generalize here.getD k false = b at *
    have hcl := cat_length (f := colA) p.cols
    simp (maxSteps := 4000000) (disch := first | omega | (simp only [LL]; omega)) only [go_sem, g2, g3, g5, g15, g16, g17, e0, e8, e48, hpl, hd, hcl]
    refine W_loop X (fun (j : Nat) t => j ≤ p.cols.length ∧ t.env 2 = .ptr (n0 + 0) 0 ∧ t.env 3 = .ptr (n0 + 8) 0 ∧ t.env 5 = .sl (n0 + 24 + 24) 0 m.dofs.length (some m.dofs.length) 1 ∧ t.env 15 = .ro (cat partA m.parts) m.parts.length false ∧ t.env 16 = .int .i64 m.parts.length ∧ t.env 17 = .int .i64 k ∧ t.env 6 = .int .i64 k ∧ t.env 23 = .ro (cat colA p.cols) p.cols.length false ∧ t.env 24 = .int .i64 p.cols.length ∧ t.env 25 = .int .i64 j ∧ n0 + 24 + 40 ≤ t.next ∧ t.heap (n0 + 0) = some (.cells (mdlA m) false false) ∧ t.heap (n0 + 8) = some (.cells [.int .i64 tick, vq, vv, .sl C 0 here.length cap 1] false false) ∧
     t.heap (n0 + 24 + 24) = some (.cells (cat boolA ((p.cols.take j).foldl (lvF b) o)) false false) ∧ (∀ b, b < n0 → t.heap b = h0 b)) (fun j => p.cols.length - j) ?_ 0 _ ?_
    ·clear g2 g3 g5 g15 g16 g17 hnx e0 e8 e48 hfr eC
     rintro j ⟨env, heap, nx⟩ ⟨hj, g2, g3, g5, g15, g16, g17, g6, g23, g24, g25, hnx, e0, e8, e48, hfr⟩
     simp only at g2 g3 g5 g15 g16 g17 g6 g23 g24 g25 hnx e0 e8 e48 hfr
     rw [mdlA_eq] at e0
     have eC := (hfr C hCn).trans hc
     by_cases h2 : j < p.cols.length
     ·have hcg := List.getElem?_eq_getElem h2
      have hcd := cat_take (f := colA) hcg
      rw [colA_eq] at hcd
      obtain ⟨d1, d2⟩ := c2 _ (List.getElem_mem h2)
      have e2 : (p.cols.take (j + 1)).foldl (lvF b) o = lvF b ((p.cols.take j).foldl (lvF b) o) p.cols[j] := foldl_take _ _ _ _ _ hcg
      have hol2 : ((p.cols.take j).foldl (lvF b) o).length = m.dofs.length := by rw [lvFs_len, hol]
      generalize (p.cols.take j).foldl (lvF b) o = o2 at *
      generalize p.cols[j] = c at *
      have hbl := cat_length (f := boolA) o2
      simp only [Nat.mul_one] at hbl
      rw [lvF_set b o2 c (by omega)] at e2
      have hod := cat_drop (f := boolA) (getD_some (l := o2) (i := c.dof.toNat) (by omega) false)
      rw [boolA_eq] at hod
      simp only [Nat.mul_one] at hod
      have hs := fun y : Bool => cat_splice (f := boolA) (l := o2) (i := c.dof.toNat) (o := 0) (a' := y) (vs := [.bool y]) (getD_some (by omega) false) (by simp) (by simp [splice, boolA_eq])
      simp only [Nat.mul_one, Nat.add_zero] at hs
      cases hx : o2.getD c.dof.toNat false with
      | true =>
       rw [hx] at hod e2
       simp (maxSteps := 4000000) (disch := first | omega | (simp only [LL]; omega)) only [go_sem, g2, g3, g5, g15, g16, g17, g6, g23, g24, g25, e0, e8, e48, hcl, hcd, hbl, hol2, hod, hs]
       refine ⟨j + 1, ?_, by omega⟩
       repeat' apply And.intro
       all_goals first | omega | rfl | (rw [mdlA_eq]; done) | (rw [e2]; rfl) | (intro b hb; simp (maxSteps := 4000000) (disch := first | omega | (simp only [LL]; omega)) only [go_sem]; exact hfr b hb)
      | false =>
       rw [hx] at hod e2
       simp (maxSteps := 4000000) (disch := first | omega | (simp only [LL]; omega)) only [go_sem, g2, g3, g5, g15, g16, g17, g6, g23, g24, g25, e0, e8, e48, hcl, hcd, hbl, hol2, hod, hhl, hh, hb, hbd, hs, eC]
       refine ⟨j + 1, ?_, by omega⟩
       repeat' apply And.intro
       all_goals first | omega | rfl | (rw [mdlA_eq]; done) | (rw [e2, Bool.false_or]; done) | (intro b hb; simp (maxSteps := 4000000) (disch := first | omega | (simp only [LL]; omega)) only [go_sem]; exact hfr b hb)
     ·obtain rfl : j = p.cols.length := by omega
      rw [List.take_length] at e48
      simp (maxSteps := 4000000) (disch := first | omega | (simp only [LL]; omega)) only [go_sem, g2, g3, g5, g15, g16, g17, g6, g23, g24, g25, e0, e8, e48, hcl]
      refine ⟨k + 1, ?_, by omega⟩
      repeat' apply And.intro
      all_goals first | omega | rfl | (rw [mdlA_eq]; done) | (rw [e]; rfl) | exact hfr
    ·simp (maxSteps := 4000000) (disch := first | omega | (simp only [LL]; omega)) only [go_sem, g2, g3, g5, g15, g16, g17, e0, e8, e48]
     repeat' apply And.intro
     all_goals first | omega | rfl | (rw [mdlA_eq]; done) | (intro b hb; simp (maxSteps := 4000000) (disch := first | omega | (simp only [LL]; omega)) only [go_sem]; exact hfr b hb)
   ·obtain rfl : k = m.parts.length := by omega
    rw [lvK_all m here hh] at e48
    simp (maxSteps := 4000000) (disch := first | omega | (simp only [LL]; omega)) only [go_sem, outC_ret, outC_normal, g2, g3, g5, g15, g16, g17, e0, e8, e48, hpl]
    exact hΦ _ _ _ ⟨by omega, by omega⟩ hfr e48
  ·simp (maxSteps := 4000000) (disch := first | omega | (simp only [LL]; omega)) only [go_sem]
   repeat' apply And.intro
   all_goals first | omega | rfl | (rw [mdlA_eq]; done) | skip
   all_goals (intro b hb; simp (maxSteps := 4000000) (disch := first | omega | (simp only [LL]; omega)) only [go_sem]; rw [hh0])
theorem M_16 [SpC] (m : MdlR) (here : List Bool) (tick : Int) (vq vv : AV) (f : Bool) (hm : okLive m) (hh : here.length = m.parts.length) : M X 16 [.agg (mdlA m), .agg [.int .i64 tick, vq, vv, .ro (cat boolA here) here.length f]] = some (.fresh (cat boolA (liveV m here)) m.dofs.length 1) := by
 obtain ⟨B, h, nx, k1, k2, k3, k4⟩ := plive_call m here tick vq vv _ hm hh emptyHeap 0 [] (by simp) (.inl ⟨f, rfl⟩)
 exact M_flags mode_16 k1 k4 (liveV_len m here)
theorem M_85 [SpC] {ax ay bx by0 : Rat} {n1 n2 n3 n4 : Nat} [RS ax n1] [RS ay n2] [RS bx n3] [RS by0 n4] (h : n1 + n2 + n3 + n4 < 2 ^ 24) : M X 85 [.agg [zS (Rat.num (ax)), zD (Rat.num (ax)), zS (dz (ax)), zD (dz (ax)), zS (Rat.num (ay)), zD (Rat.num (ay)), zS (dz (ay)), zD (dz (ay))], .agg [zS (Rat.num (bx)), zD (Rat.num (bx)), zS (dz (bx)), zD (dz (bx)), zS (Rat.num (by0)), zD (Rat.num (by0)), zS (dz (by0)), zD (dz (by0))]] = some (.agg [zS (Rat.num (ax + bx)), zD (Rat.num (ax + bx)), zS (dz (ax + bx)), zD (dz (ax + bx)), zS (Rat.num (ay + by0)), zD (Rat.num (ay + by0)), zS (dz (ay + by0)), zD (dz (ay + by0))]) := by
 refine M_of X (fn := Tryz.f85) Tryz.func85 rfl ok_85 mode_85 res_85 _ rfl _ ?_
 intro r hr
 simp (maxSteps := 4000000) (disch := first | omega | (simp only [LL]; omega)) only [go_sem, M_19]
 rw [hr]
theorem M_72 [SpC] {ax ay bx by0 : Rat} {n1 n2 n3 n4 : Nat} [RS ax n1] [RS ay n2] [RS bx n3] [RS by0 n4] (h : n1 + n2 + n3 + n4 < 2 ^ 24) : M X 72 [.agg [zS (Rat.num (ax)), zD (Rat.num (ax)), zS (dz (ax)), zD (dz (ax)), zS (Rat.num (ay)), zD (Rat.num (ay)), zS (dz (ay)), zD (dz (ay))], .agg [zS (Rat.num (bx)), zD (Rat.num (bx)), zS (dz (bx)), zD (dz (bx)), zS (Rat.num (by0)), zD (Rat.num (by0)), zS (dz (by0)), zD (dz (by0))]] = some (.agg [zS (Rat.num (ax - bx)), zD (Rat.num (ax - bx)), zS (dz (ax - bx)), zD (dz (ax - bx)), zS (Rat.num (ay - by0)), zD (Rat.num (ay - by0)), zS (dz (ay - by0)), zD (dz (ay - by0))]) := by
 refine M_of X (fn := Tryz.f72) Tryz.func72 rfl ok_72 mode_72 res_72 _ rfl _ ?_
 intro r hr
 simp (maxSteps := 4000000) (disch := first | omega | (simp only [LL]; omega)) only [go_sem, M_145]
 rw [hr]
theorem M_81 [SpC] (m : MdlR) (v : List Rat) (i : Nat) (p : PartR) (N : Nat) (hp : m.parts[i]? = some p) (hpl : m.parts.length < 2 ^ 30) (hv : ∀ x ∈ v, RS x N) (hvl : v.length < 2 ^ 30) (hc : okCols v.length N p.cols) (hN : N < 2 ^ 10) :
  M X 81 [.agg (mdlA m), .ro (cat ratA v) v.length false, .int .i64 i] = some (.tuple [.agg [zS (Rat.num ((mvV v p.cols).1)), zD (Rat.num ((mvV v p.cols).1)), zS (dz ((mvV v p.cols).1)), zD (dz ((mvV v p.cols).1))], .agg [zS (Rat.num ((mvV v p.cols).2.1)), zD (Rat.num ((mvV v p.cols).2.1)), zS (dz ((mvV v p.cols).2.1)), zD (dz ((mvV v p.cols).2.1))], .agg [zS (Rat.num ((mvV v p.cols).2.2)), zD (Rat.num ((mvV v p.cols).2.2)), zS (dz ((mvV v p.cols).2.2)), zD (dz ((mvV v p.cols).2.2))]]) := by
 refine M_of X (fn := Tryz.f81) Tryz.func81 rfl ok_81 mode_81 res_81 _ rfl _ ?_
 intro r hr
 have hlt := (List.getElem?_eq_some_iff.1 hp).1
 have hd := cat_drop (f := partA) hp
 rw [partA_eq] at hd
 have hel := cat_length (f := partA) m.parts
 have hcl := cat_length (f := colA) p.cols
 have hvl2 := cat_length (f := ratA) v
 have hc8 := hc.1
 simp (maxSteps := 4000000) (disch := first | omega | (simp only [LL]; omega)) only [go_sem, mdlA_eq, hd, hel, hcl]
 refine W_loop X (fun (k : Nat) s => k ≤ p.cols.length ∧ s.env 1 = .ro (cat ratA v) v.length false ∧ s.env 6 = .ptr 8 0 ∧ s.env 7 = .ptr 16 0 ∧ s.env 8 = .ptr 24 0 ∧ s.env 16 = .ro (cat colA p.cols) p.cols.length false ∧ s.env 17 = .int .i64 p.cols.length ∧ s.env 18 = .int .i64 k ∧ 32 ≤ s.next ∧
  s.heap 8 = some (.cells [zS (Rat.num ((mvK v p.cols k).1)), zD (Rat.num ((mvK v p.cols k).1)), zS (dz ((mvK v p.cols k).1)), zD (dz ((mvK v p.cols k).1))] false false) ∧ s.heap 16 = some (.cells [zS (Rat.num ((mvK v p.cols k).2.1)), zD (Rat.num ((mvK v p.cols k).2.1)), zS (dz ((mvK v p.cols k).2.1)), zD (dz ((mvK v p.cols k).2.1))] false false) ∧ s.heap 24 = some (.cells [zS (Rat.num ((mvK v p.cols k).2.2)), zD (Rat.num ((mvK v p.cols k).2.2)), zS (dz ((mvK v p.cols k).2.2)), zD (dz ((mvK v p.cols k).2.2))] false false)) (fun k => p.cols.length - k) ?_ 0 _ ?_
 ·rintro k ⟨env, heap, nx⟩ ⟨hk, g1, g6, g7, g8, g16, g17, g18, hnx, h8, h16, h24⟩
  simp only at g1 g6 g7 g8 g16 g17 g18 hnx h8 h16 h24
  by_cases h1 : k < p.cols.length
  ·have hg := List.getElem?_eq_getElem h1
   have hcd := cat_take (f := colA) hg
   rw [colA_eq] at hcd
   obtain ⟨⟨d1, d2⟩, c1, c2, c3⟩ := hc.2 _ (List.getElem_mem h1)
   have e : mvK v p.cols (k + 1) = mvF v (mvK v p.cols k) p.cols[k] := foldl_take _ _ _ _ _ hg
   obtain ⟨a1, a2, a3⟩ := mvK_rs hv hc k hk
   have hkb : k * (2 * N + 1) < 2 ^ 22 := by
    have := Nat.mul_le_mul (show k ≤ 8 by omega) (show 2 * N + 1 ≤ 2048 by omega)
    omega
   generalize k * (2 * N + 1) = K at *
   unfold mvF at e
   rw [Rat.mul_comm _ (p.cols[k].x), Rat.mul_comm _ (p.cols[k].y), Rat.mul_comm _ (p.cols[k].s)] at e
   generalize mvK v p.cols k = a at *
   generalize p.cols[k] = c at *
   have rv := getD_rs hv c.dof.toNat (by omega)
   have hvd := cat_take (f := ratA) (getD_some (l := v) (i := c.dof.toNat) (by omega) 0)
   rw [ratA_eq] at hvd
   generalize v.getD c.dof.toNat 0 = x at *
   simp (maxSteps := 4000000) (disch := first | omega | (simp only [LL]; omega)) only [go_sem, M_150, M_19, g1, g6, g7, g8, g16, g17, g18, h8, h16, h24, hcl, hvl2, hcd, hvd]
   refine ⟨k + 1, ?_, by omega⟩
   repeat' apply And.intro
   all_goals first | omega | rfl | (rw [e]; done)
  ·obtain rfl : k = p.cols.length := by omega
   rw [mvK_all] at h8 h16 h24
   simp (maxSteps := 4000000) (disch := first | omega | (simp only [LL]; omega)) only [go_sem, g1, g6, g7, g8, g16, g17, g18, h8, h16, h24, hcl]
   rw [hr]
 ·simp (maxSteps := 4000000) (disch := first | omega | (simp only [LL]; omega)) only [go_sem]
  simp only [mvK_zero, q0a, q0b, q0c, q0d]
  repeat' apply And.intro
  all_goals first | trivial | rfl
theorem M_22 [SpC] (m : MdlR) (v : List Rat) (i : Nat) (p : PartR) (N : Nat) (hp : m.parts[i]? = some p) (hpl : m.parts.length < 2 ^ 30) (hv : ∀ x ∈ v, RS x N) (hvl : v.length < 2 ^ 30) (hc : okCols v.length N p.cols) (h1 : RS p.hx N) (h2 : RS p.hy N) (hN : N < 2 ^ 10) :
  M X 22 [.agg (mdlA m), .ro (cat ratA v) v.length false, .int .i64 i] = some (.agg [zS (Rat.num ((atV v p).1)), zD (Rat.num ((atV v p).1)), zS (dz ((atV v p).1)), zD (dz ((atV v p).1)), zS (Rat.num ((atV v p).2)), zD (Rat.num ((atV v p).2)), zS (dz ((atV v p).2)), zD (dz ((atV v p).2))]) := by
 refine M_of X (fn := Tryz.f22) Tryz.func22 rfl ok_22 mode_22 res_22 _ rfl _ ?_
 intro r hr
 have hlt := (List.getElem?_eq_some_iff.1 hp).1
 have hd := cat_drop (f := partA) hp
 rw [partA_eq] at hd
 have hel := cat_length (f := partA) m.parts
 have hvl2 := cat_length (f := ratA) v
 have w1 := M_81 m v i p N hp hpl hv hvl hc hN
 obtain ⟨a1, a2, a3⟩ := mvV_rs hv hc
 have hb := cols_bd hc hN
 rw [mdlA_eq] at w1
 have e1 : (atV v p).1 = p.hx + (mvV v p.cols).1 := rfl
 have e2 : (atV v p).2 = p.hy + (mvV v p.cols).2.1 := rfl
 rw [hr, e1, e2]
 generalize mvV v p.cols = a at *
 generalize p.cols.length * (2 * N + 1) = K at *
 simp (maxSteps := 4000000) (disch := first | omega | (simp only [LL]; omega)) only [go_sem, M_85, mdlA_eq, hd, hel, hvl2, weaks_cat, weaks_ptC, mode_81, w1]
theorem at_posm [SpC] {m : MdlR} {s : StaR} {N : Nat} (hg : GoodM m N) (hs : GoodS m s N) (hN : N < 2 ^ 10) {i : Int} (hi : 0 ≤ i ∧ i < m.parts.length) : M X 22 [.agg (mdlA m), .ro (cat ratA s.q) s.q.length false, .int .i64 i] = some (.agg [zS (Rat.num ((posV m s.q i).1)), zD (Rat.num ((posV m s.q i).1)), zS (dz ((posV m s.q i).1)), zD (dz ((posV m s.q i).1)), zS (Rat.num ((posV m s.q i).2)), zD (Rat.num ((posV m s.q i).2)), zS (dz ((posV m s.q i).2)), zD (dz ((posV m s.q i).2))]) := by
 have h := getD_some (l := m.parts) (i := i.toNat) (by omega) part0
 have hp := hg.part _ (List.mem_of_getElem? h)
 have h1 := hg.dl
 have h2 := hg.pl
 have := M_22 m s.q i.toNat _ N h (by omega) hs.q (by rw [hs.ql]; omega) (by rw [hs.ql]; exact hp.cols) hp.hx hp.hy hN
 rw [show ((i.toNat : Nat) : Int) = i by omega] at this
 exact this
def alongP (d : Dr) (x y : Rat) : Rat := Rat.divInt d.1 d.2.2 * x + Rat.divInt d.2.1 d.2.2 * y
theorem along_dot (d : Dr) (x y : Rat) : alongP d x y = dotQ d x y / Rat.divInt d.2.2 1 := by
 unfold alongP dotQ
 simp only [Rat.divInt_eq_div, Rat.div_def, Rat.add_mul, Rat.mul_add]
 grind
theorem rs_frac (p q : Int) (h1 : ok64 p) (h2 : ok64 q) : RS (Rat.divInt p q) 4 := by
 obtain ⟨u1, u2⟩ := h1
 obtain ⟨u3, u4⟩ := h2
 by_cases h0 : q = 0
 ·rw [h0, Rat.divInt_zero]; exact rs_zero.mono (by omega)
 ·exact (rs_divInt (n := 3) (by omega) (nd_lit (k := 3) (by simp only [Bn]; omega)) (nd_lit (k := 3) (by simp only [Bn]; omega))).mono (by omega)
theorem M_149 [SpC] (d : Dr) (h1 : ok64 d.1) (h2 : ok64 d.2.1) (h3 : ok64 d.2.2) (r0 : RopeR) {x y : Rat} {n1 n2 n3 : Nat} [RS x n1] [RS y n2] [RS r0.len n3] (hn : n1 + n2 + n3 < 2 ^ 22) :
  M X 149 [.agg (dirA d), .rptr [zS (Rat.num (x)), zD (Rat.num (x)), zS (dz (x)), zD (dz (x)), zS (Rat.num (y)), zD (Rat.num (y)), zS (dz (y)), zD (dz (y))], .rptr (ropeA r0)] = some (.bool (decide (0 < cmpQ (alongP d x y) r0.len))) := by
 refine M_of X (fn := Tryz.f149) Tryz.func149 rfl ok_149 mode_149 res_149 _ rfl _ ?_
 intro r hr
 have o1 := M_151 d.1 d.2.2 h1 h3
 have o2 := M_151 d.2.1 d.2.2 h2 h3
 have r1 := rs_frac d.1 d.2.2 h1 h3
 have r2 := rs_frac d.2.1 d.2.2 h2 h3
 rw [hr, alongP]
 generalize Rat.divInt d.1 d.2.2 = u at *
 generalize Rat.divInt d.2.1 d.2.2 = v at *
 simp (maxSteps := 4000000) (disch := first | omega | (simp only [LL]; omega)) only [go_sem, M_150, M_19, M_73, dirA_eq, ropeA_eq, o1, o2]
theorem M_74 [SpC] (m : MdlR) (s : StaR) (r0 : RopeR) (N : Nat) (hg : GoodM m N) (hs : GoodS m s N) (hN : N < 2 ^ 10) (ho : OkRope m N r0) :
  M X 74 [.agg (mdlA m), .agg (staA s), .agg (ropeA r0)] = some (.bool (!ropeBad m s r0)) := by
 refine M_of X (fn := Tryz.f74) Tryz.func74 rfl ok_74 mode_74 res_74 _ rfl _ ?_
 intro r hr
 obtain ⟨⟨a1, a2⟩, ⟨b1, b2⟩, f1, f2, t1, t2, f3, dl, dd⟩ := ho
 have hhl := cat_length (f := boolA) s.here
 have hl := hs.hl
 have hq := hs.ql
 have h1 := hg.dl
 have h2 := hg.pl
 have hdl := cat_length (f := dirA) r0.dirs
 have ha := cat_drop (f := boolA) (getD_some (l := s.here) (i := r0.a.toNat) (by omega) false)
 rw [boolA_eq] at ha
 simp only [Nat.mul_one] at ha
 have pa := at_posm hg hs hN (i := r0.a) ⟨a1, a2⟩
 obtain ⟨ra1, ra2⟩ := posV_rs hg hs hN (i := r0.a) ⟨a1, a2⟩
 rw [mdlA_eq] at pa
 unfold ropeBad endsV hereB at hr
 have hcl := cat_length (f := colA)
 generalize hba : s.here.getD r0.a.toNat false = ba at *
 generalize posV m s.q r0.a = qa at *
 have hlen := f3
 have cd := fun (x y : Rat) (n1 n2 : Nat) (i1 : RS x n1) (i2 : RS y n2) (hn : n1 + n2 < 2 ^ 21) => con_dir2 149 mode_149 [zS (Rat.num (x)), zD (Rat.num (x)), zS (dz (x)), zD (dz (x)), zS (Rat.num (y)), zD (Rat.num (y)), zS (dz (y)), zD (dz (y))] (by simp only [weak_zS, weak_zD, weakgo_nil, weakgo_cons]) (ropeA r0) (weaks_enc r0) (fun d => decide (0 < cmpQ (alongP d x y) r0.len)) r0.dirs
  (fun d hd => by obtain ⟨⟨⟨u1, u2⟩, u3, u4⟩, u5⟩ := dd d hd; exact M_149 d ⟨by omega, by omega⟩ ⟨by omega, by omega⟩ u5 r0 (by omega)) (by omega) false
 rw [W_seq]
 generalize hK : @seqQ X ⟨_⟩ (outR X _ _ _) = K
 simp (maxSteps := 4000000) (disch := first | omega | (simp only [LL]; omega)) only [go_sem, mdlA_eq, staA_eq, ropeA_eq, hhl, ha]
 rw [← hK, seqQ_normal]
 clear hK K
 rw [W_seq]
 generalize hK : @seqQ X ⟨_⟩ (outR X _ _ _) = K
 simp (maxSteps := 4000000) (disch := first | omega | (simp only [LL]; omega)) only [go_sem, mdlA_eq, staA_eq, ropeA_eq, hhl, ha]
 rw [← hK, seqQ_normal]
 clear hK K
 rw [W_seq]
 generalize hK : @seqQ X ⟨_⟩ (outR X _ _ _) = K
 have hJ : ∀ (env : Nat → AV) (heap : Heap) (nx : Nat) (x y : Rat), RS x (2 ^ 17) → RS y (2 ^ 17) → env 3 = .ptr 0 0 → env 4 = .ptr 8 0 → env 5 = .ptr 16 0 → env 7 = .ptr 48 0 → 64 ≤ nx → heap 0 = some (.cells (mdlA m) false false) → heap 8 = some (.cells (staA s) false false) → heap 16 = some (.cells (ropeA r0) false false) → heap 48 = some (.cells [zS (Rat.num (x)), zD (Rat.num (x)), zS (dz (x)), zD (dz (x)), zS (Rat.num (y)), zD (Rat.num (y)), zS (dz (y)), zD (dz (y))] false false) →
   r = .bool (!(match (if ba = false then none else some (r0.fx + qa.1, r0.fy + qa.2, x, y)) with | none => false | some e => r0.dirs.any (dirBad e r0.len))) → K .normal ⟨env, heap, nx⟩ := by
  intro env heap nx x y i1 i2 g3 g4 g5 g7 hnx e0 e8 e16 e48 hr
  subst hK
  rw [seqQ_normal]
  rw [mdlA_eq] at e0
  rw [staA_eq] at e8
  rw [ropeA_eq] at e16 cd
  cases ba with
  | false =>
   rw [if_pos rfl] at hr
   simp (maxSteps := 4000000) (disch := first | omega | (simp only [LL]; omega)) only [go_sem, g3, g4, g5, g7, e0, e8, e16, e48, hhl, ha]
   rw [hr]; rfl
  | true =>
   rw [if_neg (by decide)] at hr
   have c := cd (x - (r0.fx + qa.1)) (y - (r0.fy + qa.2)) _ _ inferInstance inferInstance (by omega)
   simp only [along_dot] at c
   simp (maxSteps := 4000000) (disch := first | omega | (simp only [LL]; omega)) only [go_sem, M_85, M_72, g3, g4, g5, g7, e0, e8, e16, e48, hhl, ha, hdl, weaks_cat, weaks_ptC, snaps_cat, weak_rptr, pa, c]
   rw [hr]; rfl
 by_cases hb : 0 ≤ r0.b
 ·have hbd := cat_drop (f := boolA) (getD_some (l := s.here) (i := r0.b.toNat) (by omega) false)
  rw [boolA_eq] at hbd
  simp only [Nat.mul_one] at hbd
  have pb := at_posm hg hs hN (i := r0.b) ⟨hb, b2⟩
  obtain ⟨rb1, rb2⟩ := posV_rs hg hs hN (i := r0.b) ⟨hb, b2⟩
  rw [mdlA_eq] at pb
  rw [if_pos hb] at hr
  generalize s.here.getD r0.b.toNat false = bb at *
  generalize posV m s.q r0.b = qb at *
  cases bb with
  | false =>
   have hr : r = .bool true := by rw [hr]; cases ba <;> rfl
   clear hJ
   subst hK
   simp (maxSteps := 4000000) (disch := first | omega | (simp only [LL]; omega)) only [go_sem, hhl, hbd]
   rw [hr]
  | true =>
   simp (maxSteps := 4000000) (disch := first | omega | (simp only [LL]; omega)) only [go_sem, M_85, hhl, hbd, weaks_cat, weaks_ptC, pb]
   refine hJ _ _ _ (r0.tx + qb.1) (r0.ty + qb.2) ?_ ?_ ?_ ?_ ?_ ?_ ?_ ?_ ?_ ?_ ?_ ?_
   ·exact (inferInstance : RS _ _).mono (by omega)
   ·exact (inferInstance : RS _ _).mono (by omega)
   ·simp (maxSteps := 4000000) (disch := first | omega | (simp only [LL]; omega)) only [go_sem]
   ·simp (maxSteps := 4000000) (disch := first | omega | (simp only [LL]; omega)) only [go_sem]
   ·simp (maxSteps := 4000000) (disch := first | omega | (simp only [LL]; omega)) only [go_sem]
   ·simp (maxSteps := 4000000) (disch := first | omega | (simp only [LL]; omega)) only [go_sem]
   ·omega
   ·rw [mdlA_eq]; simp (maxSteps := 4000000) (disch := first | omega | (simp only [LL]; omega)) only [go_sem]
   ·rw [staA_eq]; simp (maxSteps := 4000000) (disch := first | omega | (simp only [LL]; omega)) only [go_sem]
   ·rw [ropeA_eq]; simp (maxSteps := 4000000) (disch := first | omega | (simp only [LL]; omega)) only [go_sem]
   ·simp (maxSteps := 4000000) (disch := first | omega | (simp only [LL]; omega)) only [go_sem]
   ·rw [hr]; rfl
 ·rw [if_neg hb] at hr
  simp (maxSteps := 4000000) (disch := first | omega | (simp only [LL]; omega)) only [go_sem, hhl]
  refine hJ _ _ _ r0.tx r0.ty ?_ ?_ ?_ ?_ ?_ ?_ ?_ ?_ ?_ ?_ ?_ ?_
  ·exact t1.mono (by omega)
  ·exact t2.mono (by omega)
  ·simp (maxSteps := 4000000) (disch := first | omega | (simp only [LL]; omega)) only [go_sem]
  ·simp (maxSteps := 4000000) (disch := first | omega | (simp only [LL]; omega)) only [go_sem]
  ·simp (maxSteps := 4000000) (disch := first | omega | (simp only [LL]; omega)) only [go_sem]
  ·simp (maxSteps := 4000000) (disch := first | omega | (simp only [LL]; omega)) only [go_sem]
  ·omega
  ·rw [mdlA_eq]; simp (maxSteps := 4000000) (disch := first | omega | (simp only [LL]; omega)) only [go_sem]
  ·rw [staA_eq]; simp (maxSteps := 4000000) (disch := first | omega | (simp only [LL]; omega)) only [go_sem]
  ·rw [ropeA_eq]; simp (maxSteps := 4000000) (disch := first | omega | (simp only [LL]; omega)) only [go_sem]
  ·simp (maxSteps := 4000000) (disch := first | omega | (simp only [LL]; omega)) only [go_sem]
  ·rw [hr]; rfl
def dofOk (d : DofR) : Bool := decide (0 < cmpQ d.inv 0) && decide (cmpQ d.lo d.hi ≤ 0) && (d.bd || (decide (cmpQ d.lo 0 = 0) && decide (cmpQ d.hi 0 = 0)))
theorem M_58 [SpC] (d : DofR) {n1 n2 : Nat} [RS d.lo n1] [RS d.hi n2] (h : n1 + n2 < 2 ^ 24) : M X 58 [.agg (dofA d)] = some (.bool (dofOk d)) := by
 refine M_of X (fn := Tryz.f58) Tryz.func58 rfl ok_58 mode_58 res_58 _ rfl _ ?_
 intro r hr
 have s1 := M_69 d.inv
 have s2 := M_69 d.lo
 have s3 := M_69 d.hi
 have c1 := M_73 (x := d.lo) (y := d.hi) (by omega)
 unfold dofOk at hr
 generalize cmpQ d.inv 0 = u at *
 generalize cmpQ d.lo d.hi = v at *
 generalize cmpQ d.lo 0 = w at *
 generalize cmpQ d.hi 0 = z at *
 by_cases hw : w = 0
 ·by_cases hu : 0 < u
  ·by_cases hv : v ≤ 0
   ·cases hb : d.bd <;> (simp (maxSteps := 4000000) (disch := first | omega | (simp only [LL]; omega)) only [go_sem, dofA_eq, s1, s2, s3, c1, hb]; rw [hr, hb]; simp [hw, hu, hv])
   ·simp (maxSteps := 4000000) (disch := first | omega | (simp only [LL]; omega)) only [go_sem, dofA_eq, s1, s2, s3, c1]; rw [hr]; simp [hv]
  ·simp (maxSteps := 4000000) (disch := first | omega | (simp only [LL]; omega)) only [go_sem, dofA_eq, s1, s2, s3, c1]; rw [hr]; simp [hu]
 ·by_cases hu : 0 < u
  ·by_cases hv : v ≤ 0
   ·cases hb : d.bd <;> (simp (maxSteps := 4000000) (disch := first | omega | (simp only [LL]; omega)) only [go_sem, dofA_eq, s1, s2, s3, c1, hb]; rw [hr, hb]; simp [hw, hu, hv])
   ·simp (maxSteps := 4000000) (disch := first | omega | (simp only [LL]; omega)) only [go_sem, dofA_eq, s1, s2, s3, c1]; rw [hr]; simp [hv]
  ·simp (maxSteps := 4000000) (disch := first | omega | (simp only [LL]; omega)) only [go_sem, dofA_eq, s1, s2, s3, c1]; rw [hr]; simp [hu]
def betQ (x : Rat) (n : Int) : Bool := decide (0 ≤ cmpQ x 0) && decide (cmpQ x (Rat.divInt n 1) ≤ 0)
theorem M_127 [SpC] {x : Rat} {n1 : Nat} [RS x n1] (h : n1 < 2 ^ 24) (n : Int) (hn : 0 ≤ n ∧ n < 100) : M X 127 [.agg [zS (Rat.num (x)), zD (Rat.num (x)), zS (dz (x)), zD (dz (x))], .int .i64 n] = some (.bool (betQ x n)) := by
 refine M_of X (fn := Tryz.f127) Tryz.func127 rfl ok_127 mode_127 res_127 _ rfl _ ?_
 intro r hr
 have s1 := M_69 x
 have o1 := M_151 n 1 (by omega) (by omega)
 have r1 : RS (Rat.divInt n 1) 1 := rs_small (by omega) (by omega)
 have c1 := M_73 (x := x) (y := Rat.divInt n 1) (by omega)
 unfold betQ at hr
 generalize cmpQ x (Rat.divInt n 1) = v at *
 generalize Rat.divInt n 1 = q at *
 generalize cmpQ x 0 = u at *
 by_cases hu : 0 ≤ u
 ·simp (maxSteps := 4000000) (disch := first | omega | (simp only [LL]; omega)) only [go_sem, s1, o1, c1]
  rw [hr]; simp [hu]
 ·simp (maxSteps := 4000000) (disch := first | omega | (simp only [LL]; omega)) only [go_sem, s1, o1, c1]
  rw [hr]; simp [hu]
def norB (d : Dr) : Bool := decide (1 ≤ d.2.2 ∧ d.2.2 ≤ 4194304 ∧ -d.2.2 ≤ d.1 ∧ d.1 ≤ d.2.2 ∧ -d.2.2 ≤ d.2.1 ∧ d.2.1 ≤ d.2.2) && decide (d.1 * d.1 + d.2.1 * d.2.1 = d.2.2 * d.2.2) && decide (Int.gcd (Int.gcd d.1 d.2.1) d.2.2 = 1)
def colB (last n : Int) (c : ColR) : Bool := !(decide (c.dof ≤ last) || decide (n ≤ c.dof) || (decide (cmpQ c.x 0 = 0) && decide (cmpQ c.y 0 = 0) && decide (cmpQ c.s 0 = 0)))
def colsB (n : Int) : Int → List ColR → Bool
 | _, [] => true
 | last, c :: l => colB last n c && colsB n c.dof l
def partOk (n : Int) (v : Bool) (p : PartR) : Bool := colsB n (-1) p.cols && (v && betQ p.ro 4 && betQ p.bo 1)
theorem M_60 [SpC] (p : PartR) (n : Int) (v : Bool) (hn : 0 ≤ n ∧ n < 2 ^ 30) (hc : p.cols.length < 2 ^ 20) (hd : ∀ c ∈ p.cols, ok64 c.dof) {n1 n2 : Nat} [RS p.ro n1] [RS p.bo n2] (h : n1 + n2 < 2 ^ 24) (hv : M X 126 [.ro (ptC p.shape) p.shape.length false] = some (.bool v)) :
  M X 60 [.agg (partA p), .int .i64 n] = some (.bool (partOk n v p)) := by
 refine M_of X (fn := Tryz.f60) Tryz.func60 rfl ok_60 mode_60 res_60 _ rfl _ ?_
 intro r hr
 have hcl := cat_length (f := colA) p.cols
 have b1 := M_127 (x := p.ro) (by omega) 4 (by omega)
 have b2 := M_127 (x := p.bo) (by omega) 1 (by omega)
 have psl := ptC_length p.shape
 unfold partOk at hr
 simp (maxSteps := 4000000) (disch := first | omega | (simp only [LL]; omega)) only [go_sem, partA_eq, hcl]
 refine W_loop X (fun (j : Nat) t => j ≤ p.cols.length ∧ (∃ last, ok64 last ∧ t.env 5 = .int .i64 last ∧ colsB n (-1) p.cols = colsB n last (p.cols.drop j)) ∧ t.env 1 = .int .i64 n ∧ t.env 2 = .ptr 0 0 ∧ t.env 9 = .ro (cat colA p.cols) p.cols.length false ∧ t.env 10 = .int .i64 p.cols.length ∧ t.env 11 = .int .i64 j ∧ 8 ≤ t.next ∧ t.heap 0 = some (.cells (partA p) false false)) (fun j => p.cols.length - j) ?_ 0 _ ?_
 ·rintro j ⟨env, heap, nx⟩ ⟨hj, ⟨last, hl, g5, hcs⟩, g1, g2, g9, g10, g11, hnx, e0⟩
  simp only at g5 g1 g2 g9 g10 g11 hnx e0
  obtain ⟨hl1, hl2⟩ := hl
  rw [partA_eq] at e0
  by_cases hlt : j < p.cols.length
  ·have hg := List.getElem?_eq_getElem hlt
   have hcd := cat_take (f := colA) hg
   rw [colA_eq] at hcd
   obtain ⟨hd1, hd2⟩ := hd _ (List.getElem_mem hlt)
   rw [List.drop_eq_getElem_cons hlt] at hcs
   have hB : colsB n last (p.cols[j] :: p.cols.drop (j + 1)) = (colB last n p.cols[j] && colsB n p.cols[j].dof (p.cols.drop (j + 1))) := rfl
   rw [hB] at hcs
   have s1 := M_69 p.cols[j].x
   have s2 := M_69 p.cols[j].y
   have s3 := M_69 p.cols[j].s
   have hD : colB last n p.cols[j] = !(decide (p.cols[j].dof ≤ last) || decide (n ≤ p.cols[j].dof) || (decide (cmpQ p.cols[j].x 0 = 0) && decide (cmpQ p.cols[j].y 0 = 0) && decide (cmpQ p.cols[j].s 0 = 0))) := rfl
   generalize p.cols[j] = c at *
   generalize cmpQ c.x 0 = x at *
   generalize cmpQ c.y 0 = y at *
   generalize cmpQ c.s 0 = z at *
   by_cases hb : colB last n c = true
   ·rw [hb, Bool.true_and] at hcs
    rw [hb] at hD
    have hD' := hD.symm
    simp only [Bool.not_eq_true', Bool.or_eq_false_iff, Bool.and_eq_false_iff, decide_eq_false_iff_not] at hD'
    obtain ⟨⟨u1, u2⟩, u3⟩ := hD'
    by_cases hx : x = 0
    ·by_cases hy : y = 0
     ·have hz : z ≠ 0 := by
       rcases u3 with (u3 | u3) | u3
       ·exact absurd hx u3
       ·exact absurd hy u3
       ·exact u3
      simp (maxSteps := 4000000) (disch := first | omega | (simp only [LL]; omega)) only [go_sem, g5, g1, g2, g9, g10, g11, e0, hcl, hcd, s1, s2, s3]
      refine ⟨j + 1, ?_, by omega⟩
      refine ⟨by omega, ⟨c.dof, ⟨hd1, hd2⟩, rfl, hcs⟩, ?_⟩
      repeat' apply And.intro
      all_goals first | omega | rfl | assumption | (rw [partA_eq]; assumption)
     ·simp (maxSteps := 4000000) (disch := first | omega | (simp only [LL]; omega)) only [go_sem, g5, g1, g2, g9, g10, g11, e0, hcl, hcd, s1, s2, s3]
      refine ⟨j + 1, ?_, by omega⟩
      refine ⟨by omega, ⟨c.dof, ⟨hd1, hd2⟩, rfl, hcs⟩, ?_⟩
      repeat' apply And.intro
      all_goals first | omega | rfl | assumption | (rw [partA_eq]; assumption)
    ·simp (maxSteps := 4000000) (disch := first | omega | (simp only [LL]; omega)) only [go_sem, g5, g1, g2, g9, g10, g11, e0, hcl, hcd, s1, s2, s3]
     refine ⟨j + 1, ?_, by omega⟩
     refine ⟨by omega, ⟨c.dof, ⟨hd1, hd2⟩, rfl, hcs⟩, ?_⟩
     repeat' apply And.intro
     all_goals first | omega | rfl | assumption | (rw [partA_eq]; assumption)
   ·simp only [Bool.not_eq_true] at hb
    rw [hb, Bool.false_and] at hcs
    rw [hcs, Bool.false_and] at hr
    rw [hb] at hD
    have hD' := hD.symm
    by_cases u1 : c.dof ≤ last
    ·simp (maxSteps := 4000000) (disch := first | omega | (simp only [LL]; omega)) only [go_sem, g5, g1, g2, g9, g10, g11, e0, hcl, hcd, s1, s2, s3]
     rw [hr]
    ·by_cases u2 : n ≤ c.dof
     ·simp (maxSteps := 4000000) (disch := first | omega | (simp only [LL]; omega)) only [go_sem, g5, g1, g2, g9, g10, g11, e0, hcl, hcd, s1, s2, s3]
      rw [hr]
     ·have u3 : x = 0 ∧ y = 0 ∧ z = 0 := by
       rw [decide_eq_false u1, decide_eq_false u2] at hD'
       simpa [and_assoc] using hD'
      obtain ⟨hx, hy, hz⟩ := u3
      simp (maxSteps := 4000000) (disch := first | omega | (simp only [LL]; omega)) only [go_sem, g5, g1, g2, g9, g10, g11, e0, hcl, hcd, s1, s2, s3]
      rw [hr]
  ·obtain rfl : j = p.cols.length := by omega
   rw [List.drop_length] at hcs
   have e1 : colsB n last [] = true := rfl
   rw [hcs, e1, Bool.true_and] at hr
   generalize betQ p.ro 4 = w1 at *
   generalize betQ p.bo 1 = w2 at *
   cases v with
   | false => simp (maxSteps := 4000000) (disch := first | omega | (simp only [LL]; omega)) only [go_sem, g5, g1, g2, g9, g10, g11, e0, hv, weaks_ptC]; rw [hr]; rfl
   | true =>
    cases w1 with
    | false => simp (maxSteps := 4000000) (disch := first | omega | (simp only [LL]; omega)) only [go_sem, g5, g1, g2, g9, g10, g11, e0, hv, weaks_ptC, b1]; rw [hr]; rfl
    | true => simp (maxSteps := 4000000) (disch := first | omega | (simp only [LL]; omega)) only [go_sem, g5, g1, g2, g9, g10, g11, e0, hv, weaks_ptC, b1, b2]; rw [hr]; rfl
 ·simp (maxSteps := 4000000) (disch := first | omega | (simp only [LL]; omega)) only [go_sem]
  refine ⟨⟨-1, ⟨by decide, by decide⟩, rfl, rfl⟩, ?_⟩
  repeat' apply And.intro
  all_goals first | omega | rfl | (rw [partA_eq]; done)
theorem idx_part0 [SpC] (G : Nat) (hm : X.mode G = .ro) (P : PartR → Bool) (l : List (PartR)) (hc : ∀ e ∈ l, M X G [.agg (partA e)] = some (.bool (P e))) (hl : l.length < 2 ^ 30) (g : Bool) :
  ∃ z : Int, M X 121 [.ro (cat partA l) l.length g, .func (.func G) [] []] = some (.int .i64 z) ∧ decide (0 ≤ z) = l.any P := by
 suffices h : ∃ r, (∃ z : Int, r = .int .i64 z ∧ decide (0 ≤ z) = l.any P) ∧ M X 121 [.ro (cat partA l) l.length g, .func (.func G) [] []] = some r by
  obtain ⟨r, ⟨z, rfl, h1⟩, h2⟩ := h
  exact ⟨z, h2, h1⟩
 refine M_ex (fn := Tryz.f121) Tryz.func121 rfl ok_121 mode_121 res_121 _ rfl _ ?_
 have hl2 := cat_length (f := partA) l
 simp (maxSteps := 4000000) (disch := first | omega | (simp only [LL]; omega)) only [go_sem, hl2]
 refine W_loop X (fun (k : Nat) s => k ≤ l.length ∧ (∀ j e, j < k → l[j]? = some e → P e = false) ∧ s.env 0 = .ro (cat partA l) l.length g ∧ s.env 1 = .func (.func G) [] [] ∧ s.env 7 = .int .i64 l.length ∧ s.env 8 = .int .i64 k) (fun k => l.length - k) ?_ 0 _ ?_
 ·rintro k ⟨env, heap, nx⟩ ⟨hk, hj, g0, g1, g7, g8⟩
  simp only at g0 g1 g7 g8
  by_cases h1 : k < l.length
  ·have hn := List.getElem?_eq_getElem h1
   have hd := cat_take (f := partA) hn
   have hmem : l[k] ∈ l := List.getElem_mem h1
   have hv := hc _ hmem
   by_cases h2 : P l[k] = true
   ·rw [h2] at hv
    have hany : l.any P = true := List.any_eq_true.2 ⟨_, hmem, h2⟩
    generalize l[k] = e at *
    have hwe := weaks_enc (f := partA) e
    simp (maxSteps := 4000000) (disch := first | omega | (simp only [LL]; omega)) only [go_sem, hl2, hd, g0, g1, g7, g8, hm, hv, weak_rptr, hwe, snaps_enc]
    exact ⟨_, rfl, by rw [hany]; exact decide_eq_true (by omega)⟩
   ·simp only [Bool.not_eq_true] at h2
    rw [h2] at hv
    have hj' : ∀ j e, j < k + 1 → l[j]? = some e → P e = false := by
     intro j e h3 h4
     rcases Nat.lt_or_ge j k with h5 | h5
     ·exact hj j e h5 h4
     ·obtain rfl : j = k := by omega
      rw [hn] at h4; cases h4; exact h2
    clear hj
    generalize l[k] = e at *
    have hwe := weaks_enc (f := partA) e
    simp (maxSteps := 4000000) (disch := first | omega | (simp only [LL]; omega)) only [go_sem, hl2, hd, g0, g1, g7, g8, hm, hv, weak_rptr, hwe, snaps_enc]
    exact ⟨k + 1, ⟨by omega, hj', rfl⟩, by omega⟩
  ·have hany : l.any P = false := by
    rw [List.any_eq_false]
    intro e he
    obtain ⟨j, h3, rfl⟩ := List.getElem_of_mem he
    have := hj j _ (by omega) (List.getElem?_eq_getElem h3)
    simpa using this
   clear hj
   simp (maxSteps := 4000000) (disch := first | omega | (simp only [LL]; omega)) only [go_sem, hl2, g0, g1, g7, g8]
   exact ⟨_, rfl, by rw [hany]; rfl⟩
 ·simp (maxSteps := 4000000) (disch := first | omega | (simp only [LL]; omega)) only [go_sem]
  exact fun j e h => absurd h (Nat.not_lt_zero j)
theorem con_part0 [SpC] (G : Nat) (hm : X.mode G = .ro) (P : PartR → Bool) (l : List (PartR)) (hc : ∀ e ∈ l, M X G [.agg (partA e)] = some (.bool (P e))) (hl : l.length < 2 ^ 30) (g : Bool) :
  M X 52 [.ro (cat partA l) l.length g, .func (.func G) [] []] = some (.bool (l.any P)) := by
 refine M_of X (fn := Tryz.f52) Tryz.func52 rfl ok_52 mode_52 res_52 _ rfl _ ?_
 intro r hr
 obtain ⟨z, h1, h2⟩ := idx_part0 G hm P l hc hl false
 have hl2 := cat_length (f := partA) l
 simp (maxSteps := 4000000) (disch := first | omega | (simp only [LL]; omega)) only [go_sem, hl2, weaks_cat, weak_rptr, mode_121, h1]
 rw [hr, h2]
theorem idx_part1 [SpC] (G : Nat) (hm : X.mode G = .ro) (cs0 : List AV) (hw0 : AV.weak.go cs0 = cs0) (P : PartR → Bool) (l : List (PartR)) (hc : ∀ e ∈ l, M X G [.agg (partA e), .rptr cs0] = some (.bool (P e))) (hl : l.length < 2 ^ 30) (g : Bool) :
  ∃ z : Int, M X 121 [.ro (cat partA l) l.length g, .func (.func G) [] [.rptr cs0]] = some (.int .i64 z) ∧ decide (0 ≤ z) = l.any P := by
 suffices h : ∃ r, (∃ z : Int, r = .int .i64 z ∧ decide (0 ≤ z) = l.any P) ∧ M X 121 [.ro (cat partA l) l.length g, .func (.func G) [] [.rptr cs0]] = some r by
  obtain ⟨r, ⟨z, rfl, h1⟩, h2⟩ := h
  exact ⟨z, h2, h1⟩
 refine M_ex (fn := Tryz.f121) Tryz.func121 rfl ok_121 mode_121 res_121 _ rfl _ ?_
 have hl2 := cat_length (f := partA) l
 simp (maxSteps := 4000000) (disch := first | omega | (simp only [LL]; omega)) only [go_sem, hl2]
 refine W_loop X (fun (k : Nat) s => k ≤ l.length ∧ (∀ j e, j < k → l[j]? = some e → P e = false) ∧ s.env 0 = .ro (cat partA l) l.length g ∧ s.env 1 = .func (.func G) [] [.rptr cs0] ∧ s.env 7 = .int .i64 l.length ∧ s.env 8 = .int .i64 k) (fun k => l.length - k) ?_ 0 _ ?_
 ·rintro k ⟨env, heap, nx⟩ ⟨hk, hj, g0, g1, g7, g8⟩
  simp only at g0 g1 g7 g8
  by_cases h1 : k < l.length
  ·have hn := List.getElem?_eq_getElem h1
   have hd := cat_take (f := partA) hn
   have hmem : l[k] ∈ l := List.getElem_mem h1
   have hv := hc _ hmem
   by_cases h2 : P l[k] = true
   ·rw [h2] at hv
    have hany : l.any P = true := List.any_eq_true.2 ⟨_, hmem, h2⟩
    generalize l[k] = e at *
    have hwe := weaks_enc (f := partA) e
    simp (maxSteps := 4000000) (disch := first | omega | (simp only [LL]; omega)) only [go_sem, hl2, hd, g0, g1, g7, g8, hm, hv, weak_rptr, hw0, hwe, snaps_enc]
    exact ⟨_, rfl, by rw [hany]; exact decide_eq_true (by omega)⟩
   ·simp only [Bool.not_eq_true] at h2
    rw [h2] at hv
    have hj' : ∀ j e, j < k + 1 → l[j]? = some e → P e = false := by
     intro j e h3 h4
     rcases Nat.lt_or_ge j k with h5 | h5
     ·exact hj j e h5 h4
     ·obtain rfl : j = k := by omega
      rw [hn] at h4; cases h4; exact h2
    clear hj
    generalize l[k] = e at *
    have hwe := weaks_enc (f := partA) e
    simp (maxSteps := 4000000) (disch := first | omega | (simp only [LL]; omega)) only [go_sem, hl2, hd, g0, g1, g7, g8, hm, hv, weak_rptr, hw0, hwe, snaps_enc]
    exact ⟨k + 1, ⟨by omega, hj', rfl⟩, by omega⟩
  ·have hany : l.any P = false := by
    rw [List.any_eq_false]
    intro e he
    obtain ⟨j, h3, rfl⟩ := List.getElem_of_mem he
    have := hj j _ (by omega) (List.getElem?_eq_getElem h3)
    simpa using this
   clear hj
   simp (maxSteps := 4000000) (disch := first | omega | (simp only [LL]; omega)) only [go_sem, hl2, g0, g1, g7, g8]
   exact ⟨_, rfl, by rw [hany]; rfl⟩
 ·simp (maxSteps := 4000000) (disch := first | omega | (simp only [LL]; omega)) only [go_sem]
  exact fun j e h => absurd h (Nat.not_lt_zero j)
theorem con_part1 [SpC] (G : Nat) (hm : X.mode G = .ro) (cs0 : List AV) (hw0 : AV.weak.go cs0 = cs0) (P : PartR → Bool) (l : List (PartR)) (hc : ∀ e ∈ l, M X G [.agg (partA e), .rptr cs0] = some (.bool (P e))) (hl : l.length < 2 ^ 30) (g : Bool) :
  M X 52 [.ro (cat partA l) l.length g, .func (.func G) [] [.rptr cs0]] = some (.bool (l.any P)) := by
 refine M_of X (fn := Tryz.f52) Tryz.func52 rfl ok_52 mode_52 res_52 _ rfl _ ?_
 intro r hr
 obtain ⟨z, h1, h2⟩ := idx_part1 G hm cs0 hw0 P l hc hl false
 have hl2 := cat_length (f := partA) l
 simp (maxSteps := 4000000) (disch := first | omega | (simp only [LL]; omega)) only [go_sem, hl2, weaks_cat, weak_rptr, hw0, mode_121, h1]
 rw [hr, h2]
theorem idx_dof [SpC] (G : Nat) (hm : X.mode G = .ro) (P : DofR → Bool) (l : List (DofR)) (hc : ∀ e ∈ l, M X G [.agg (dofA e)] = some (.bool (P e))) (hl : l.length < 2 ^ 30) (g : Bool) :
  ∃ z : Int, M X 125 [.ro (cat dofA l) l.length g, .func (.func G) [] []] = some (.int .i64 z) ∧ decide (0 ≤ z) = l.any P := by
 suffices h : ∃ r, (∃ z : Int, r = .int .i64 z ∧ decide (0 ≤ z) = l.any P) ∧ M X 125 [.ro (cat dofA l) l.length g, .func (.func G) [] []] = some r by
  obtain ⟨r, ⟨z, rfl, h1⟩, h2⟩ := h
  exact ⟨z, h2, h1⟩
 refine M_ex (fn := Tryz.f125) Tryz.func125 rfl ok_125 mode_125 res_125 _ rfl _ ?_
 have hl2 := cat_length (f := dofA) l
 simp (maxSteps := 4000000) (disch := first | omega | (simp only [LL]; omega)) only [go_sem, hl2]
 refine W_loop X (fun (k : Nat) s => k ≤ l.length ∧ (∀ j e, j < k → l[j]? = some e → P e = false) ∧ s.env 0 = .ro (cat dofA l) l.length g ∧ s.env 1 = .func (.func G) [] [] ∧ s.env 7 = .int .i64 l.length ∧ s.env 8 = .int .i64 k) (fun k => l.length - k) ?_ 0 _ ?_
 ·rintro k ⟨env, heap, nx⟩ ⟨hk, hj, g0, g1, g7, g8⟩
  simp only at g0 g1 g7 g8
  by_cases h1 : k < l.length
  ·have hn := List.getElem?_eq_getElem h1
   have hd := cat_take (f := dofA) hn
   have hmem : l[k] ∈ l := List.getElem_mem h1
   have hv := hc _ hmem
   by_cases h2 : P l[k] = true
   ·rw [h2] at hv
    have hany : l.any P = true := List.any_eq_true.2 ⟨_, hmem, h2⟩
    generalize l[k] = e at *
    have hwe := weaks_enc (f := dofA) e
    simp (maxSteps := 4000000) (disch := first | omega | (simp only [LL]; omega)) only [go_sem, hl2, hd, g0, g1, g7, g8, hm, hv, weak_rptr, hwe, snaps_enc]
    exact ⟨_, rfl, by rw [hany]; exact decide_eq_true (by omega)⟩
   ·simp only [Bool.not_eq_true] at h2
    rw [h2] at hv
    have hj' : ∀ j e, j < k + 1 → l[j]? = some e → P e = false := by
     intro j e h3 h4
     rcases Nat.lt_or_ge j k with h5 | h5
     ·exact hj j e h5 h4
     ·obtain rfl : j = k := by omega
      rw [hn] at h4; cases h4; exact h2
    clear hj
    generalize l[k] = e at *
    have hwe := weaks_enc (f := dofA) e
    simp (maxSteps := 4000000) (disch := first | omega | (simp only [LL]; omega)) only [go_sem, hl2, hd, g0, g1, g7, g8, hm, hv, weak_rptr, hwe, snaps_enc]
    exact ⟨k + 1, ⟨by omega, hj', rfl⟩, by omega⟩
  ·have hany : l.any P = false := by
    rw [List.any_eq_false]
    intro e he
    obtain ⟨j, h3, rfl⟩ := List.getElem_of_mem he
    have := hj j _ (by omega) (List.getElem?_eq_getElem h3)
    simpa using this
   clear hj
   simp (maxSteps := 4000000) (disch := first | omega | (simp only [LL]; omega)) only [go_sem, hl2, g0, g1, g7, g8]
   exact ⟨_, rfl, by rw [hany]; rfl⟩
 ·simp (maxSteps := 4000000) (disch := first | omega | (simp only [LL]; omega)) only [go_sem]
  exact fun j e h => absurd h (Nat.not_lt_zero j)
theorem con_dof [SpC] (G : Nat) (hm : X.mode G = .ro) (P : DofR → Bool) (l : List (DofR)) (hc : ∀ e ∈ l, M X G [.agg (dofA e)] = some (.bool (P e))) (hl : l.length < 2 ^ 30) (g : Bool) :
  M X 56 [.ro (cat dofA l) l.length g, .func (.func G) [] []] = some (.bool (l.any P)) := by
 refine M_of X (fn := Tryz.f56) Tryz.func56 rfl ok_56 mode_56 res_56 _ rfl _ ?_
 intro r hr
 obtain ⟨z, h1, h2⟩ := idx_dof G hm P l hc hl false
 have hl2 := cat_length (f := dofA) l
 simp (maxSteps := 4000000) (disch := first | omega | (simp only [LL]; omega)) only [go_sem, hl2, weaks_cat, weak_rptr, mode_125, h1]
 rw [hr, h2]
theorem idx_rope1 [SpC] (G : Nat) (hm : X.mode G = .ro) (cs0 : List AV) (hw0 : AV.weak.go cs0 = cs0) (P : RopeR → Bool) (l : List (RopeR)) (hc : ∀ e ∈ l, M X G [.agg (ropeA e), .rptr cs0] = some (.bool (P e))) (hl : l.length < 2 ^ 30) (g : Bool) :
  ∃ z : Int, M X 128 [.ro (cat ropeA l) l.length g, .func (.func G) [] [.rptr cs0]] = some (.int .i64 z) ∧ decide (0 ≤ z) = l.any P := by
 suffices h : ∃ r, (∃ z : Int, r = .int .i64 z ∧ decide (0 ≤ z) = l.any P) ∧ M X 128 [.ro (cat ropeA l) l.length g, .func (.func G) [] [.rptr cs0]] = some r by
  obtain ⟨r, ⟨z, rfl, h1⟩, h2⟩ := h
  exact ⟨z, h2, h1⟩
 refine M_ex (fn := Tryz.f128) Tryz.func128 rfl ok_128 mode_128 res_128 _ rfl _ ?_
 have hl2 := cat_length (f := ropeA) l
 simp (maxSteps := 4000000) (disch := first | omega | (simp only [LL]; omega)) only [go_sem, hl2]
 refine W_loop X (fun (k : Nat) s => k ≤ l.length ∧ (∀ j e, j < k → l[j]? = some e → P e = false) ∧ s.env 0 = .ro (cat ropeA l) l.length g ∧ s.env 1 = .func (.func G) [] [.rptr cs0] ∧ s.env 7 = .int .i64 l.length ∧ s.env 8 = .int .i64 k) (fun k => l.length - k) ?_ 0 _ ?_
 ·rintro k ⟨env, heap, nx⟩ ⟨hk, hj, g0, g1, g7, g8⟩
  simp only at g0 g1 g7 g8
  by_cases h1 : k < l.length
  ·have hn := List.getElem?_eq_getElem h1
   have hd := cat_take (f := ropeA) hn
   have hmem : l[k] ∈ l := List.getElem_mem h1
   have hv := hc _ hmem
   by_cases h2 : P l[k] = true
   ·rw [h2] at hv
    have hany : l.any P = true := List.any_eq_true.2 ⟨_, hmem, h2⟩
    generalize l[k] = e at *
    have hwe := weaks_enc (f := ropeA) e
    simp (maxSteps := 4000000) (disch := first | omega | (simp only [LL]; omega)) only [go_sem, hl2, hd, g0, g1, g7, g8, hm, hv, weak_rptr, hw0, hwe, snaps_enc]
    exact ⟨_, rfl, by rw [hany]; exact decide_eq_true (by omega)⟩
   ·simp only [Bool.not_eq_true] at h2
    rw [h2] at hv
    have hj' : ∀ j e, j < k + 1 → l[j]? = some e → P e = false := by
     intro j e h3 h4
     rcases Nat.lt_or_ge j k with h5 | h5
     ·exact hj j e h5 h4
     ·obtain rfl : j = k := by omega
      rw [hn] at h4; cases h4; exact h2
    clear hj
    generalize l[k] = e at *
    have hwe := weaks_enc (f := ropeA) e
    simp (maxSteps := 4000000) (disch := first | omega | (simp only [LL]; omega)) only [go_sem, hl2, hd, g0, g1, g7, g8, hm, hv, weak_rptr, hw0, hwe, snaps_enc]
    exact ⟨k + 1, ⟨by omega, hj', rfl⟩, by omega⟩
  ·have hany : l.any P = false := by
    rw [List.any_eq_false]
    intro e he
    obtain ⟨j, h3, rfl⟩ := List.getElem_of_mem he
    have := hj j _ (by omega) (List.getElem?_eq_getElem h3)
    simpa using this
   clear hj
   simp (maxSteps := 4000000) (disch := first | omega | (simp only [LL]; omega)) only [go_sem, hl2, g0, g1, g7, g8]
   exact ⟨_, rfl, by rw [hany]; rfl⟩
 ·simp (maxSteps := 4000000) (disch := first | omega | (simp only [LL]; omega)) only [go_sem]
  exact fun j e h => absurd h (Nat.not_lt_zero j)
theorem con_rope1 [SpC] (G : Nat) (hm : X.mode G = .ro) (cs0 : List AV) (hw0 : AV.weak.go cs0 = cs0) (P : RopeR → Bool) (l : List (RopeR)) (hc : ∀ e ∈ l, M X G [.agg (ropeA e), .rptr cs0] = some (.bool (P e))) (hl : l.length < 2 ^ 30) (g : Bool) :
  M X 61 [.ro (cat ropeA l) l.length g, .func (.func G) [] [.rptr cs0]] = some (.bool (l.any P)) := by
 refine M_of X (fn := Tryz.f61) Tryz.func61 rfl ok_61 mode_61 res_61 _ rfl _ ?_
 intro r hr
 obtain ⟨z, h1, h2⟩ := idx_rope1 G hm cs0 hw0 P l hc hl false
 have hl2 := cat_length (f := ropeA) l
 simp (maxSteps := 4000000) (disch := first | omega | (simp only [LL]; omega)) only [go_sem, hl2, weaks_cat, weak_rptr, hw0, mode_128, h1]
 rw [hr, h2]
theorem M_53 [SpC] (p : PartR) : M X 53 [.agg (partA p)] = some (.bool (decide (3 < p.cols.length))) := by
 refine M_of X (fn := Tryz.f53) Tryz.func53 rfl ok_53 mode_53 res_53 _ rfl _ ?_
 intro r hr
 simp (maxSteps := 4000000) (disch := first | omega | (simp only [LL]; omega)) only [go_sem, partA_eq]
 rw [hr]; congr 2; exact propext (by omega)
theorem M_57 [SpC] (d : DofR) {n1 n2 : Nat} [RS d.lo n1] [RS d.hi n2] (h : n1 + n2 < 2 ^ 24) : M X 57 [.agg (dofA d)] = some (.bool (!dofOk d)) := by
 refine M_of X (fn := Tryz.f57) Tryz.func57 rfl ok_57 mode_57 res_57 _ rfl _ ?_
 intro r hr
 have v := M_58 d h
 rw [dofA_eq] at v
 simp (maxSteps := 4000000) (disch := first | omega | (simp only [LL]; omega)) only [go_sem, dofA_eq, v]
 rw [hr]
theorem M_59 [SpC] (m : MdlR) (hm : m.dofs.length < 2 ^ 20) (p : PartR) (v : Bool) (hc : p.cols.length < 2 ^ 20) (hd : ∀ c ∈ p.cols, ok64 c.dof) {n1 n2 : Nat} [RS p.ro n1] [RS p.bo n2] (h : n1 + n2 < 2 ^ 24) (hv : M X 126 [.ro (ptC p.shape) p.shape.length false] = some (.bool v)) :
  M X 59 [.agg (partA p), .rptr (mdlA m)] = some (.bool (!partOk m.dofs.length v p)) := by
 refine M_of X (fn := Tryz.f59) Tryz.func59 rfl ok_59 mode_59 res_59 _ rfl _ ?_
 intro r hr
 have w := M_60 p m.dofs.length v (by omega) hc hd h hv
 have hdl := cat_length (f := dofA) m.dofs
 have hcl := cat_length (f := colA) p.cols
 have psl := ptC_length p.shape
 rw [partA_eq] at w
 simp (maxSteps := 4000000) (disch := first | omega | (simp only [LL]; omega)) only [go_sem, partA_eq, mdlA_eq, hdl, hcl, psl, weaks_cat, weaks_ptC, w]
 rw [hr]
theorem pvalid0 [SpC] (m : MdlR) (N : Nat) (hN : N < 2 ^ 10) (hd : m.dofs.length ≤ 12) (hp : m.parts.length ≤ 12) (hr0 : m.ropes = []) (hs0 : m.skip = []) (hc : ∀ p ∈ m.parts, p.cols.length ≤ 3 ∧ ∀ c ∈ p.cols, ok64 c.dof) (hb : ∀ n ∈ numsV m, nmB n) (hk : (numsV m).all Nm.ok = true)
  (hrd : ∀ d ∈ m.dofs, RS d.lo N ∧ RS d.hi N) (hdo : ∀ d ∈ m.dofs, dofOk d = true) (hrp : ∀ p ∈ m.parts, RS p.ro N ∧ RS p.bo N) (hpo : ∀ p ∈ m.parts, vldP p.shape ∧ partOk m.dofs.length true p = true) :
  M X 10 [.agg (mdlA m)] = some (.int .i64 0) := by
 refine M_of X (fn := Tryz.f10) Tryz.func10 rfl ok_10 mode_10 res_10 _ rfl _ ?_
 intro r hr
 have cd := cat_length (f := dofA) m.dofs
 have cp := cat_length (f := partA) m.parts
 have nu := M_55 m (by omega) (by omega) (by rw [hr0]; decide) (fun p hp => by have := (hc p hp).1; omega)
 have hnl : (numsV m).length < 2 ^ 30 := by
  have h1 := flat_len dofN 4 m.dofs (fun x _ => Nat.le_refl _)
  have h2 := flat_len partN 16 m.parts (fun x hx => by
   have h1 := (hc x hx).1
   have h2 := flat_len colN 3 x.cols (fun _ _ => Nat.le_refl _)
   unfold partN
   rw [List.length_append]
   have h3 : (parN x).length = 4 := rfl
   omega)
  unfold numsV
  rw [hr0, List.flatMap_nil, List.append_nil, List.length_append]
  omega
 have ca := M_54 (numsV m) hnl hb
 rw [hk] at ca
 have cn := cat_length (f := nmA) (numsV m)
 have k1 := con_part0 53 mode_53 (fun p => decide (3 < p.cols.length)) m.parts (fun p _ => M_53 p) (by omega) false
 have a1 : m.parts.any (fun p => decide (3 < p.cols.length)) = false := by
  rw [List.any_eq_false]; intro p hp; have := (hc p hp).1; simp; omega
 rw [a1] at k1
 have k2 := con_dof 57 mode_57 (fun d => !dofOk d) m.dofs (fun d hd => by obtain ⟨i1, i2⟩ := hrd d hd; exact M_57 d (by omega)) (by omega) false
 have a2 : m.dofs.any (fun d => !dofOk d) = false := by
  rw [List.any_eq_false]; intro d hd; rw [hdo d hd]; simp
 rw [a2] at k2
 have k3 := con_part1 59 mode_59 (mdlA m) (weaks_all (fun c hc => by
  rw [mdlA_eq] at hc
  simp only [List.mem_cons, List.not_mem_nil, or_false] at hc
  rcases hc with rfl | rfl | rfl | rfl <;> simp only [weak_ro, weaks_cat, weaks_ptC])) (fun p => !partOk m.dofs.length true p) m.parts (fun p hp => by
   obtain ⟨i1, i2⟩ := hrp p hp
   obtain ⟨j1, j2⟩ := hc p hp
   exact M_59 m (by omega) p true (by omega) j2 (by omega) (M_126 p.shape (hpo p hp).1)) (by omega) false
 have a3 : m.parts.any (fun p => !partOk m.dofs.length true p) = false := by
  rw [List.any_eq_false]; intro p hp; rw [(hpo p hp).2]; simp
 rw [a3] at k3
 have k4 : M X 61 [.ro (cat ropeA m.ropes) m.ropes.length false, .func (.func 62) [] [.rptr (mdlA m)]] = some (.bool (m.ropes.any fun _ => false)) := con_rope1 62 mode_62 (mdlA m) (weaks_all (fun c hc => by
  rw [mdlA_eq] at hc
  simp only [List.mem_cons, List.not_mem_nil, or_false] at hc
  rcases hc with rfl | rfl | rfl | rfl <;> simp only [weak_ro, weaks_cat, weaks_ptC])) (fun _ => false) m.ropes (by rw [hr0]; simp) (by rw [hr0]; decide) false
 have a4 : (m.ropes.any fun _ => false) = false := by rw [hr0]; rfl
 rw [a4] at k4
 have crl := cat_length (f := ropeA) m.ropes
 have hrl : m.ropes.length = 0 := by rw [hr0]; rfl
 have hsl : m.skip.length = 0 := by rw [hs0]; rfl
 have csl := ptC_length m.skip
 rw [mdlA_eq] at nu k3 k4
 simp (maxSteps := 4000000) (disch := first | omega | (simp only [LL]; omega)) only [go_sem, mdlA_eq, cd, cp, cn, crl, csl, weaks_cat, weaks_ptC, weak_rptr, nu, ca, k1, k2, k3, k4]
 rw [W_unroll]
 simp (maxSteps := 4000000) (disch := first | omega | (simp only [LL]; omega)) only [go_sem, unQ_normal, unQ_ret, unQ_exit]
 rw [hr]
end Go.Proofs.YtenhjccadhlgoaaGreat.Abs
