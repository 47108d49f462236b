/-
  The box of a shape on its way: Swept of both packages. No conditions. Packages gantryref14 and gantrylaw14: vec, In, Contains, At, Shape, corners, SamePairs. No conditions. Sorting in package slices: a call that writes into its caller's slice; bits.Len; the comparisons. No conditions. The sweep along X, in plain: pairs of boxes that meet, whatever the order of a round's looks. No conditions. The documented example: lives. Conditions: what Sorted answers there.
-/
import Derived.Test.YtjccikgdebgebaaGreatDoorQ09
set_option linter.unusedSimpArgs false
set_option linter.unusedVariables false
section
set_option linter.unusedSimpArgs false
namespace Go.Proofs.YtjccikgdebgebaaGreatDoor.Abs
open Go
abbrev prX : Pt → Int := fun p => p.1
abbrev prY : Pt → Int := fun p => p.2
def okP (l : List Pt) : Prop := ∀ k, (-1000000 ≤ (l.getD k (0, 0)).1 ∧ (l.getD k (0, 0)).1 ≤ 1000000) ∧ (-1000000 ≤ (l.getD k (0, 0)).2 ∧ (l.getD k (0, 0)).2 ≤ 1000000)
theorem lowX_ok {l : List Pt} (h : okP l) : ∀ n, -1000000 ≤ lowZ prX l n ∧ lowZ prX l n ≤ 1000000
  | 0 => (h 0).1
  | n + 1 => by have := lowX_ok h n; have := (h (n + 1)).1; unfold lowZ; dsimp only [prX]; omega
theorem lowY_ok {l : List Pt} (h : okP l) : ∀ n, -1000000 ≤ lowZ prY l n ∧ lowZ prY l n ≤ 1000000
  | 0 => (h 0).2
  | n + 1 => by have := lowY_ok h n; have := (h (n + 1)).2; unfold lowZ; dsimp only [prY]; omega
theorem topX_ok {l : List Pt} (h : okP l) : ∀ n, -1000000 ≤ topZ prX l n ∧ topZ prX l n ≤ 1000000
  | 0 => (h 0).1
  | n + 1 => by have := topX_ok h n; have := (h (n + 1)).1; unfold topZ; dsimp only [prX]; omega
theorem topY_ok {l : List Pt} (h : okP l) : ∀ n, -1000000 ≤ topZ prY l n ∧ topZ prY l n ≤ 1000000
  | 0 => (h 0).2
  | n + 1 => by have := topY_ok h n; have := (h (n + 1)).2; unfold topZ; dsimp only [prY]; omega
noncomputable def sweptQ (l : List Pt) (px py vx vy ax ay : Rat) (n : Int) : BoxQ :=
  ⟨loQ px vx ax (Rat.divInt (if n < 0 then 0 else n) 1) + Rat.divInt (lowZ prX l (l.length - 1)) 1, loQ py vy ay (Rat.divInt (if n < 0 then 0 else n) 1) + Rat.divInt (lowZ prY l (l.length - 1)) 1,
   hiQ px vx ax (Rat.divInt (if n < 0 then 0 else n) 1) + Rat.divInt (topZ prX l (l.length - 1)) 1, hiQ py vy ay (Rat.divInt (if n < 0 then 0 else n) 1) + Rat.divInt (topZ prY l (l.length - 1)) 1⟩
theorem ite_min (x y : Int) : (if y < x then y else x) = min x y := by split <;> omega
theorem ite_max (x y : Int) : (if x < y then y else x) = max x y := by split <;> omega
def low' (pr : Pt → Int) (l : List Pt) (i : Nat) : Int := if i = 0 then 0 else lowZ pr l (i - 1)
def top' (pr : Pt → Int) (l : List Pt) (i : Nat) : Int := if i = 0 then 0 else topZ pr l (i - 1)
theorem low'_succ (pr : Pt → Int) (l : List Pt) (i : Nat) (h : i ≠ 0) : low' pr l (i + 1) = min (low' pr l i) (pr (l.getD i (0, 0))) := by
  obtain ⟨k, rfl⟩ : ∃ k, i = k + 1 := ⟨i - 1, by omega⟩
  unfold low'; rw [if_neg h, if_neg (by omega)]; rfl
theorem top'_succ (pr : Pt → Int) (l : List Pt) (i : Nat) (h : i ≠ 0) : top' pr l (i + 1) = max (top' pr l i) (pr (l.getD i (0, 0))) := by
  obtain ⟨k, rfl⟩ : ∃ k, i = k + 1 := ⟨i - 1, by omega⟩
  unfold top'; rw [if_neg h, if_neg (by omega)]; rfl
theorem low'_end (pr : Pt → Int) (l : List Pt) (h0 : pr (0, 0) = 0) : low' pr l l.length = lowZ pr l (l.length - 1) := by
  unfold low'; split
  · rename_i h; obtain rfl := List.length_eq_zero_iff.1 h; exact h0.symm
  · rfl
theorem top'_end (pr : Pt → Int) (l : List Pt) (h0 : pr (0, 0) = 0) : top' pr l l.length = topZ pr l (l.length - 1) := by
  unfold top'; split
  · rename_i h; obtain rfl := List.length_eq_zero_iff.1 h; exact h0.symm
  · rfl
set_option maxRecDepth 100000 in
set_option maxHeartbeats 4000000 in
theorem M_16 [SpC] {px py vx vy ax ay : Rat} {n1 n2 n3 n4 n5 n6 : Nat} [RS px n1] [RS py n2] [RS vx n3] [RS vy n4] [RS ax n5] [RS ay n6] (l : List Pt) (hP : okP l) (hlen : l.length < 2 ^ 30) (n : Int) (hn : ok64 n) (h : n1 + n2 + n3 + n4 + n5 + n6 < 2 ^ 14) :
    M X 16 [.ro (ptC l) l.length false, .agg [zS (Rat.num (px)), zD (Rat.num (px)), zS (dz (px)), zD (dz (px)), zS (Rat.num (py)), zD (Rat.num (py)), zS (dz (py)), zD (dz (py))], .agg [zS (Rat.num (vx)), zD (Rat.num (vx)), zS (dz (vx)), zD (dz (vx)), zS (Rat.num (vy)), zD (Rat.num (vy)), zS (dz (vy)), zD (dz (vy))], .agg [zS (Rat.num (ax)), zD (Rat.num (ax)), zS (dz (ax)), zD (dz (ax)), zS (Rat.num (ay)), zD (Rat.num (ay)), zS (dz (ay)), zD (dz (ay))], .int .i64 n] = some (.agg [zS (Rat.num ((sweptQ l px py vx vy ax ay n).lx)), zD (Rat.num ((sweptQ l px py vx vy ax ay n).lx)), zS (dz ((sweptQ l px py vx vy ax ay n).lx)), zD (dz ((sweptQ l px py vx vy ax ay n).lx)), zS (Rat.num ((sweptQ l px py vx vy ax ay n).ly)), zD (Rat.num ((sweptQ l px py vx vy ax ay n).ly)), zS (dz ((sweptQ l px py vx vy ax ay n).ly)), zD (dz ((sweptQ l px py vx vy ax ay n).ly)), zS (Rat.num ((sweptQ l px py vx vy ax ay n).hx)), zD (Rat.num ((sweptQ l px py vx vy ax ay n).hx)), zS (dz ((sweptQ l px py vx vy ax ay n).hx)), zD (dz ((sweptQ l px py vx vy ax ay n).hx)), zS (Rat.num ((sweptQ l px py vx vy ax ay n).hy)), zD (Rat.num ((sweptQ l px py vx vy ax ay n).hy)), zS (dz ((sweptQ l px py vx vy ax ay n).hy)), zD (dz ((sweptQ l px py vx vy ax ay n).hy))]) := by
  refine M_of X (fn := Tryz.f16) Tryz.func16 rfl ok_16 mode_16 res_16 _ rfl _ ?_
  intro r hr
  rw [hr]
  have hl := ptC_length l
  simp (maxSteps := 4000000) (disch := first | omega | (simp only [List.length_set, List.length_replicate, List.length_append, List.length_take, List.length_drop, List.length_cons, List.length_nil]; omega)) only [go_sem, reduceCtorEq, Nat.reduceEqDiff, Nat.reduceAdd, Nat.reduceMul, Nat.reduceSub, ↓Nat.reduceBEq, Nat.reduceLT, Nat.reduceLeDiff, Int.reduceLT, Int.reduceLE, Int.reduceNeg, Int.reduceToNat, hl]
  refine W_loop X (fun (i : Nat) s => i ≤ l.length ∧ s.env 0 = .ro (ptC l) l.length false ∧ s.env 4 = .int .i64 n ∧ s.env 6 = .ptr 0 0 ∧ s.env 7 = .ptr 8 0 ∧ s.env 8 = .ptr 16 0 ∧ s.env 10 = .ptr 24 0 ∧ s.env 11 = .ptr 32 0 ∧ s.env 12 = .ptr 40 0 ∧ s.env 13 = .int .i64 i ∧ 40 < s.next ∧
    s.heap 0 = some (.cells [zS (Rat.num (px)), zD (Rat.num (px)), zS (dz (px)), zD (dz (px)), zS (Rat.num (py)), zD (Rat.num (py)), zS (dz (py)), zD (dz (py))] false false) ∧ s.heap 8 = some (.cells [zS (Rat.num (vx)), zD (Rat.num (vx)), zS (dz (vx)), zD (dz (vx)), zS (Rat.num (vy)), zD (Rat.num (vy)), zS (dz (vy)), zD (dz (vy))] false false) ∧ s.heap 16 = some (.cells [zS (Rat.num (ax)), zD (Rat.num (ax)), zS (dz (ax)), zD (dz (ax)), zS (Rat.num (ay)), zD (Rat.num (ay)), zS (dz (ay)), zD (dz (ay))] false false) ∧ s.heap 24 = some (.cells [AV.bool false, AV.ro [] 0 false, AV.bool false, AV.ro [] 0 false, AV.bool false, AV.ro [] 0 false, AV.bool false, AV.ro [] 0 false, AV.bool false, AV.ro [] 0 false, AV.bool false, AV.ro [] 0 false, AV.bool false, AV.ro [] 0 false, AV.bool false, AV.ro [] 0 false] false false) ∧ s.heap 32 = some (.cells [.int .i64 (low' prX l i), .int .i64 (low' prY l i)] false false) ∧ s.heap 40 = some (.cells [.int .i64 (top' prX l i), .int .i64 (top' prY l i)] false false)) (fun i => l.length - i) ?_ 0 _ ?_
  · rintro i ⟨env, heap, nx⟩ ⟨hi, g0, g4, g6, g7, g8, g10, g11, g12, g13, hnx, h0, h8, h16, h24, h32, h40⟩
    simp only at g0 g4 g6 g7 g8 g10 g11 g12 g13 hnx h0 h8 h16 h24 h32 h40
    by_cases h1 : i < l.length
    · have hd := ptC_take l i h1
      by_cases hz : i = 0
      · subst hz
        simp only [Int.natCast_zero, Nat.zero_mul, List.drop_zero] at hd g13
        have hdd := ptC_drop l 0 h1
        simp only [Nat.zero_mul, List.drop_zero] at hdd
        simp (maxSteps := 4000000) (disch := first | omega | (simp only [List.length_set, List.length_replicate, List.length_append, List.length_take, List.length_drop, List.length_cons, List.length_nil]; omega)) only [go_sem, reduceCtorEq, Nat.reduceEqDiff, Nat.reduceAdd, Nat.reduceMul, Nat.reduceSub, ↓Nat.reduceBEq, Nat.reduceLT, Nat.reduceLeDiff, Int.reduceLT, Int.reduceLE, Int.reduceNeg, Int.reduceToNat, hl, hd, hdd, g0, g4, g6, g7, g8, g10, g11, g12, g13, h0, h8, h16, h24, h32, h40, ite_min, ite_max]
        exact ⟨1, ⟨by omega, rfl, by omega, rfl, rfl⟩, by omega⟩
      · have hdd := ptC_drop l i h1
        have t1 := low'_succ prX l i hz
        have t2 := low'_succ prY l i hz
        have t3 := top'_succ prX l i hz
        have t4 := top'_succ prY l i hz
        dsimp only [prX, prY] at t1 t2 t3 t4
        generalize l.getD i (0, 0) = q at *
        simp (maxSteps := 4000000) (disch := first | omega | (simp only [List.length_set, List.length_replicate, List.length_append, List.length_take, List.length_drop, List.length_cons, List.length_nil]; omega)) only [go_sem, reduceCtorEq, Nat.reduceEqDiff, Nat.reduceAdd, Nat.reduceMul, Nat.reduceSub, ↓Nat.reduceBEq, Nat.reduceLT, Nat.reduceLeDiff, Int.reduceLT, Int.reduceLE, Int.reduceNeg, Int.reduceToNat, hl, hd, hdd, g0, g4, g6, g7, g8, g10, g11, g12, g13, h0, h8, h16, h24, h32, h40, ite_min, ite_max]
        exact ⟨i + 1, ⟨by omega, rfl, by omega, by rw [t1, t2], by rw [t3, t4]⟩, by omega⟩
    · have hi' : i = l.length := by omega
      subst hi'
      rw [low'_end prX l rfl, low'_end prY l rfl] at h32
      rw [top'_end prX l rfl, top'_end prY l rfl] at h40
      have k1 := lowX_ok hP (l.length - 1)
      have k2 := lowY_ok hP (l.length - 1)
      have k3 := topX_ok hP (l.length - 1)
      have k4 := topY_ok hP (l.length - 1)
      unfold sweptQ
      dsimp only
      generalize lowZ prX l (l.length - 1) = z1 at *
      generalize lowZ prY l (l.length - 1) = z2 at *
      generalize topZ prX l (l.length - 1) = z3 at *
      generalize topZ prY l (l.length - 1) = z4 at *
      have w1 := M_55 z1 ⟨by omega, by omega⟩
      have w2 := M_55 z2 ⟨by omega, by omega⟩
      have w3 := M_55 z3 ⟨by omega, by omega⟩
      have w4 := M_55 z4 ⟨by omega, by omega⟩
      have q1 : RS (Rat.divInt z1 1) 3 := rs_divInt (by omega) (nd_lit (by simp only [Bn]; omega)) (nd_lit (by decide))
      have q2 : RS (Rat.divInt z2 1) 3 := rs_divInt (by omega) (nd_lit (by simp only [Bn]; omega)) (nd_lit (by decide))
      have q3 : RS (Rat.divInt z3 1) 3 := rs_divInt (by omega) (nd_lit (by simp only [Bn]; omega)) (nd_lit (by decide))
      have q4 : RS (Rat.divInt z4 1) 3 := rs_divInt (by omega) (nd_lit (by simp only [Bn]; omega)) (nd_lit (by decide))
      generalize Rat.divInt z1 1 = d1 at *
      generalize Rat.divInt z2 1 = d2 at *
      generalize Rat.divInt z3 1 = d3 at *
      generalize Rat.divInt z4 1 = d4 at *
      have e1 := M_54 (p := px) (v := vx) (a := ax) hn (by omega)
      have e2 := M_54 (p := py) (v := vy) (a := ay) hn (by omega)
      have hen : ok64 (if n < 0 then 0 else n) := by obtain ⟨u1, u2⟩ := hn; unfold ok64; split <;> omega
      have re : RS (Rat.divInt (if n < 0 then 0 else n) 1) 3 := by
        obtain ⟨u1, u2⟩ := hen
        exact rs_divInt (by omega) (nd_lit (by simp only [Bn]; omega)) (nd_lit (by decide))
      generalize Rat.divInt (if n < 0 then 0 else n) 1 = en at *
      have b1 : RS (loQ px vx ax en) _ := inferInstance
      have b2 : RS (hiQ px vx ax en) _ := inferInstance
      have b3 : RS (loQ py vy ay en) _ := inferInstance
      have b4 : RS (hiQ py vy ay en) _ := inferInstance
      generalize loQ px vx ax en = L1 at *
      generalize hiQ px vx ax en = L2 at *
      generalize loQ py vy ay en = L3 at *
      generalize hiQ py vy ay en = L4 at *
      simp (maxSteps := 4000000) (disch := first | omega | (simp only [List.length_set, List.length_replicate, List.length_append, List.length_take, List.length_drop, List.length_cons, List.length_nil]; omega)) only [go_sem, reduceCtorEq, Nat.reduceEqDiff, Nat.reduceAdd, Nat.reduceMul, Nat.reduceSub, ↓Nat.reduceBEq, Nat.reduceLT, Nat.reduceLeDiff, Int.reduceLT, Int.reduceLE, Int.reduceNeg, Int.reduceToNat, M_30, hl, g0, g4, g6, g7, g8, g10, g11, g12, g13, h0, h8, h16, h24, h32, h40, mode_55, mode_54, w1, w2, w3, w4, e1, e2]
  · simp (maxSteps := 4000000) (disch := first | omega | (simp only [List.length_set, List.length_replicate, List.length_append, List.length_take, List.length_drop, List.length_cons, List.length_nil]; omega)) only [go_sem, reduceCtorEq, Nat.reduceEqDiff, Nat.reduceAdd, Nat.reduceMul, Nat.reduceSub, ↓Nat.reduceBEq, Nat.reduceLT, Nat.reduceLeDiff, Int.reduceLT, Int.reduceLE, Int.reduceNeg, Int.reduceToNat, hl]
    exact ⟨rfl, rfl⟩
set_option maxRecDepth 100000 in
set_option maxHeartbeats 8000000 in
theorem swept_aux [SpC] {px py vx vy ax ay : Rat} {n1 n2 n3 n4 n5 n6 : Nat} [RS px n1] [RS py n2] [RS vx n3] [RS vy n4] [RS ax n5] [RS ay n6] (l : List Pt) (m : Nat) (hm : l.length = m + 1) (hP : okP l) (hlen : l.length < 2 ^ 30) (n : Int) (hn : ok64 n) (h : n1 + n2 + n3 + n4 + n5 + n6 < 2 ^ 14) :
    M X 15 [.ro (ptC l) l.length false, .agg [zS (Rat.num (px)), zD (Rat.num (px)), zS (dz (px)), zD (dz (px)), zS (Rat.num (py)), zD (Rat.num (py)), zS (dz (py)), zD (dz (py))], .agg [zS (Rat.num (vx)), zD (Rat.num (vx)), zS (dz (vx)), zD (dz (vx)), zS (Rat.num (vy)), zD (Rat.num (vy)), zS (dz (vy)), zD (dz (vy))], .agg [zS (Rat.num (ax)), zD (Rat.num (ax)), zS (dz (ax)), zD (dz (ax)), zS (Rat.num (ay)), zD (Rat.num (ay)), zS (dz (ay)), zD (dz (ay))], .int .i64 n] = some (.agg [zS (Rat.num ((sweptQ l px py vx vy ax ay n).lx)), zD (Rat.num ((sweptQ l px py vx vy ax ay n).lx)), zS (dz ((sweptQ l px py vx vy ax ay n).lx)), zD (dz ((sweptQ l px py vx vy ax ay n).lx)), zS (Rat.num ((sweptQ l px py vx vy ax ay n).ly)), zD (Rat.num ((sweptQ l px py vx vy ax ay n).ly)), zS (dz ((sweptQ l px py vx vy ax ay n).ly)), zD (dz ((sweptQ l px py vx vy ax ay n).ly)), zS (Rat.num ((sweptQ l px py vx vy ax ay n).hx)), zD (Rat.num ((sweptQ l px py vx vy ax ay n).hx)), zS (dz ((sweptQ l px py vx vy ax ay n).hx)), zD (dz ((sweptQ l px py vx vy ax ay n).hx)), zS (Rat.num ((sweptQ l px py vx vy ax ay n).hy)), zD (Rat.num ((sweptQ l px py vx vy ax ay n).hy)), zS (dz ((sweptQ l px py vx vy ax ay n).hy)), zD (dz ((sweptQ l px py vx vy ax ay n).hy))]) := by
  have m1 := minFunc prX _ _ cl1x l m hm hlen
  have m2 := minFunc prY _ _ cl1y l m hm hlen
  have m3 := maxFunc prX _ _ cl2x l m hm hlen
  have m4 := maxFunc prY _ _ cl2y l m hm hlen
  have i1 := pr_minP prX l m
  have i2 := pr_minP prY l m
  have i3 := pr_maxP prX l m
  have i4 := pr_maxP prY l m
  have k1 := lowX_ok hP m
  have k2 := lowY_ok hP m
  have k3 := topX_ok hP m
  have k4 := topY_ok hP m
  have hsw : sweptQ l px py vx vy ax ay n = ⟨loQ px vx ax (Rat.divInt (if n < 0 then 0 else n) 1) + Rat.divInt (lowZ prX l m) 1, loQ py vy ay (Rat.divInt (if n < 0 then 0 else n) 1) + Rat.divInt (lowZ prY l m) 1,
   hiQ px vx ax (Rat.divInt (if n < 0 then 0 else n) 1) + Rat.divInt (topZ prX l m) 1, hiQ py vy ay (Rat.divInt (if n < 0 then 0 else n) 1) + Rat.divInt (topZ prY l m) 1⟩ := by
    unfold sweptQ; rw [hm]; rfl
  rw [hsw]
  dsimp only
  have i1' : (minP prX l m).1 = lowZ prX l m := i1
  have i2' : (minP prY l m).2 = lowZ prY l m := i2
  have i3' : (maxP prX l m).1 = topZ prX l m := i3
  have i4' : (maxP prY l m).2 = topZ prY l m := i4
  rw [i1'] at m1
  rw [i2'] at m2
  rw [i3'] at m3
  rw [i4'] at m4
  generalize lowZ prX l m = z1 at *
  generalize lowZ prY l m = z2 at *
  generalize topZ prX l m = z3 at *
  generalize topZ prY l m = z4 at *
  generalize (minP prX l m).2 = z5 at *
  generalize (minP prY l m).1 = z6 at *
  generalize (maxP prX l m).2 = z7 at *
  generalize (maxP prY l m).1 = z8 at *
  have w1 := M_53 z1 1 ⟨by omega, by omega⟩ ⟨by omega, by omega⟩
  have w2 := M_53 z2 1 ⟨by omega, by omega⟩ ⟨by omega, by omega⟩
  have w3 := M_53 z3 1 ⟨by omega, by omega⟩ ⟨by omega, by omega⟩
  have w4 := M_53 z4 1 ⟨by omega, by omega⟩ ⟨by omega, by omega⟩
  have q1 : RS (Rat.divInt z1 1) 3 := rs_divInt (by omega) (nd_lit (by simp only [Bn]; omega)) (nd_lit (by decide))
  have q2 : RS (Rat.divInt z2 1) 3 := rs_divInt (by omega) (nd_lit (by simp only [Bn]; omega)) (nd_lit (by decide))
  have q3 : RS (Rat.divInt z3 1) 3 := rs_divInt (by omega) (nd_lit (by simp only [Bn]; omega)) (nd_lit (by decide))
  have q4 : RS (Rat.divInt z4 1) 3 := rs_divInt (by omega) (nd_lit (by simp only [Bn]; omega)) (nd_lit (by decide))
  generalize Rat.divInt z1 1 = d1 at *
  generalize Rat.divInt z2 1 = d2 at *
  generalize Rat.divInt z3 1 = d3 at *
  generalize Rat.divInt z4 1 = d4 at *
  have e1 := M_51 (p := px) (v := vx) (a := ax) hn (by omega)
  have e2 := M_51 (p := py) (v := vy) (a := ay) hn (by omega)
  have hen : ok64 (if n < 0 then 0 else n) := by obtain ⟨u1, u2⟩ := hn; unfold ok64; split <;> omega
  have re : RS (Rat.divInt (if n < 0 then 0 else n) 1) 3 := by
    obtain ⟨u1, u2⟩ := hen
    exact rs_divInt (by omega) (nd_lit (by simp only [Bn]; omega)) (nd_lit (by decide))
  generalize Rat.divInt (if n < 0 then 0 else n) 1 = en at *
  have b1 : RS (loQ px vx ax en) _ := inferInstance
  have b2 : RS (hiQ px vx ax en) _ := inferInstance
  have b3 : RS (loQ py vy ay en) _ := inferInstance
  have b4 : RS (hiQ py vy ay en) _ := inferInstance
  generalize loQ px vx ax en = L1 at *
  generalize hiQ px vx ax en = L2 at *
  generalize loQ py vy ay en = L3 at *
  generalize hiQ py vy ay en = L4 at *
  have hl := ptC_length l
  refine M_of X (fn := Tryz.f15) Tryz.func15 rfl ok_15 mode_15 res_15 _ rfl _ ?_
  intro r hr
  rw [hr]
  simp (maxSteps := 4000000) (disch := first | omega | (simp only [List.length_set, List.length_replicate, List.length_append, List.length_take, List.length_drop, List.length_cons, List.length_nil]; omega)) only [go_sem, reduceCtorEq, Nat.reduceEqDiff, Nat.reduceAdd, Nat.reduceMul, Nat.reduceSub, ↓Nat.reduceBEq, Nat.reduceLT, Nat.reduceLeDiff, Int.reduceLT, Int.reduceLE, Int.reduceNeg, Int.reduceToNat, M_52, M_189, M_190, M_191, M_192, W_unroll, unQ_normal, unQ_ret, unQ_exit, Int.reduceAdd, Int.reduceSub, Int.reduceMul, replA_1, replA_2, G_axes, sla_axes, idx_axes0, idx_axes1, weaks_ptC, weak_rptr, hl, mode_53, mode_51, mode_46, mode_49, m1, m2, m3, m4, w1, w2, w3, w4, e1, e2]
set_option maxRecDepth 100000 in
set_option maxHeartbeats 8000000 in
theorem swept_nil [SpC] {px py vx vy ax ay : Rat} {n1 n2 n3 n4 n5 n6 : Nat} [RS px n1] [RS py n2] [RS vx n3] [RS vy n4] [RS ax n5] [RS ay n6] (n : Int) (hn : ok64 n) (h : n1 + n2 + n3 + n4 + n5 + n6 < 2 ^ 14) :
    M X 15 [.ro [] 0 false, .agg [zS (Rat.num (px)), zD (Rat.num (px)), zS (dz (px)), zD (dz (px)), zS (Rat.num (py)), zD (Rat.num (py)), zS (dz (py)), zD (dz (py))], .agg [zS (Rat.num (vx)), zD (Rat.num (vx)), zS (dz (vx)), zD (dz (vx)), zS (Rat.num (vy)), zD (Rat.num (vy)), zS (dz (vy)), zD (dz (vy))], .agg [zS (Rat.num (ax)), zD (Rat.num (ax)), zS (dz (ax)), zD (dz (ax)), zS (Rat.num (ay)), zD (Rat.num (ay)), zS (dz (ay)), zD (dz (ay))], .int .i64 n] = some (.agg [zS (Rat.num ((sweptQ [] px py vx vy ax ay n).lx)), zD (Rat.num ((sweptQ [] px py vx vy ax ay n).lx)), zS (dz ((sweptQ [] px py vx vy ax ay n).lx)), zD (dz ((sweptQ [] px py vx vy ax ay n).lx)), zS (Rat.num ((sweptQ [] px py vx vy ax ay n).ly)), zD (Rat.num ((sweptQ [] px py vx vy ax ay n).ly)), zS (dz ((sweptQ [] px py vx vy ax ay n).ly)), zD (dz ((sweptQ [] px py vx vy ax ay n).ly)), zS (Rat.num ((sweptQ [] px py vx vy ax ay n).hx)), zD (Rat.num ((sweptQ [] px py vx vy ax ay n).hx)), zS (dz ((sweptQ [] px py vx vy ax ay n).hx)), zD (dz ((sweptQ [] px py vx vy ax ay n).hx)), zS (Rat.num ((sweptQ [] px py vx vy ax ay n).hy)), zD (Rat.num ((sweptQ [] px py vx vy ax ay n).hy)), zS (dz ((sweptQ [] px py vx vy ax ay n).hy)), zD (dz ((sweptQ [] px py vx vy ax ay n).hy))]) := by
  have m1 := minFunc prX _ _ cl1x [(0, 0)] 0 rfl (by decide)
  have m2 := minFunc prY _ _ cl1y [(0, 0)] 0 rfl (by decide)
  have m3 := maxFunc prX _ _ cl2x [(0, 0)] 0 rfl (by decide)
  have m4 := maxFunc prY _ _ cl2y [(0, 0)] 0 rfl (by decide)
  have hsw : sweptQ [] px py vx vy ax ay n = ⟨loQ px vx ax (Rat.divInt (if n < 0 then 0 else n) 1) + Rat.divInt 0 1, loQ py vy ay (Rat.divInt (if n < 0 then 0 else n) 1) + Rat.divInt 0 1,
   hiQ px vx ax (Rat.divInt (if n < 0 then 0 else n) 1) + Rat.divInt 0 1, hiQ py vy ay (Rat.divInt (if n < 0 then 0 else n) 1) + Rat.divInt 0 1⟩ := rfl
  rw [hsw]
  dsimp only
  simp only [ptC, minP, maxP, List.getD_cons_zero, List.length_cons, List.length_nil, Nat.zero_add] at m1 m2 m3 m4
  have w1 := M_53 0 1 ⟨by omega, by omega⟩ ⟨by omega, by omega⟩
  have q1 : RS (Rat.divInt 0 1) 3 := rs_divInt (by omega) (nd_lit (by simp only [Bn]; omega)) (nd_lit (by decide))
  generalize Rat.divInt 0 1 = d1 at *
  have e1 := M_51 (p := px) (v := vx) (a := ax) hn (by omega)
  have e2 := M_51 (p := py) (v := vy) (a := ay) hn (by omega)
  have hen : ok64 (if n < 0 then 0 else n) := by obtain ⟨u1, u2⟩ := hn; unfold ok64; split <;> omega
  have re : RS (Rat.divInt (if n < 0 then 0 else n) 1) 3 := by
    obtain ⟨u1, u2⟩ := hen
    exact rs_divInt (by omega) (nd_lit (by simp only [Bn]; omega)) (nd_lit (by decide))
  generalize Rat.divInt (if n < 0 then 0 else n) 1 = en at *
  have b1 : RS (loQ px vx ax en) _ := inferInstance
  have b2 : RS (hiQ px vx ax en) _ := inferInstance
  have b3 : RS (loQ py vy ay en) _ := inferInstance
  have b4 : RS (hiQ py vy ay en) _ := inferInstance
  generalize loQ px vx ax en = L1 at *
  generalize hiQ px vx ax en = L2 at *
  generalize loQ py vy ay en = L3 at *
  generalize hiQ py vy ay en = L4 at *
  refine M_of X (fn := Tryz.f15) Tryz.func15 rfl ok_15 mode_15 res_15 _ rfl _ ?_
  intro r hr
  rw [hr]
  simp (maxSteps := 4000000) (disch := first | omega | (simp only [List.length_set, List.length_replicate, List.length_append, List.length_take, List.length_drop, List.length_cons, List.length_nil]; omega)) only [go_sem, reduceCtorEq, Nat.reduceEqDiff, Nat.reduceAdd, Nat.reduceMul, Nat.reduceSub, ↓Nat.reduceBEq, Nat.reduceLT, Nat.reduceLeDiff, Int.reduceLT, Int.reduceLE, Int.reduceNeg, Int.reduceToNat, M_52, M_189, M_190, M_191, M_192, W_unroll, unQ_normal, unQ_ret, unQ_exit, Int.reduceAdd, Int.reduceSub, Int.reduceMul, replA_1, replA_2, G_axes, sla_axes, idx_axes0, idx_axes1, weaks_ptC, weak_rptr, mode_53, mode_51, mode_46, mode_49, m1, m2, m3, m4, w1, e1, e2]
theorem M_15 [SpC] {px py vx vy ax ay : Rat} {n1 n2 n3 n4 n5 n6 : Nat} [RS px n1] [RS py n2] [RS vx n3] [RS vy n4] [RS ax n5] [RS ay n6] (l : List Pt) (hP : okP l) (hlen : l.length < 2 ^ 30) (n : Int) (hn : ok64 n) (h : n1 + n2 + n3 + n4 + n5 + n6 < 2 ^ 14) :
    M X 15 [.ro (ptC l) l.length false, .agg [zS (Rat.num (px)), zD (Rat.num (px)), zS (dz (px)), zD (dz (px)), zS (Rat.num (py)), zD (Rat.num (py)), zS (dz (py)), zD (dz (py))], .agg [zS (Rat.num (vx)), zD (Rat.num (vx)), zS (dz (vx)), zD (dz (vx)), zS (Rat.num (vy)), zD (Rat.num (vy)), zS (dz (vy)), zD (dz (vy))], .agg [zS (Rat.num (ax)), zD (Rat.num (ax)), zS (dz (ax)), zD (dz (ax)), zS (Rat.num (ay)), zD (Rat.num (ay)), zS (dz (ay)), zD (dz (ay))], .int .i64 n] = some (.agg [zS (Rat.num ((sweptQ l px py vx vy ax ay n).lx)), zD (Rat.num ((sweptQ l px py vx vy ax ay n).lx)), zS (dz ((sweptQ l px py vx vy ax ay n).lx)), zD (dz ((sweptQ l px py vx vy ax ay n).lx)), zS (Rat.num ((sweptQ l px py vx vy ax ay n).ly)), zD (Rat.num ((sweptQ l px py vx vy ax ay n).ly)), zS (dz ((sweptQ l px py vx vy ax ay n).ly)), zD (dz ((sweptQ l px py vx vy ax ay n).ly)), zS (Rat.num ((sweptQ l px py vx vy ax ay n).hx)), zD (Rat.num ((sweptQ l px py vx vy ax ay n).hx)), zS (dz ((sweptQ l px py vx vy ax ay n).hx)), zD (dz ((sweptQ l px py vx vy ax ay n).hx)), zS (Rat.num ((sweptQ l px py vx vy ax ay n).hy)), zD (Rat.num ((sweptQ l px py vx vy ax ay n).hy)), zS (dz ((sweptQ l px py vx vy ax ay n).hy)), zD (dz ((sweptQ l px py vx vy ax ay n).hy))]) := by
  cases l with
  | nil => exact swept_nil n hn h
  | cons p l => exact swept_aux (p :: l) l.length rfl hP hlen n hn h
end Go.Proofs.YtjccikgdebgebaaGreatDoor.Abs
end
section
set_option linter.unusedSimpArgs false
namespace Go.Proofs.YtjccikgdebgebaaGreatDoor.Abs
open Go
set_option maxRecDepth 100000 in
theorem M_56 [SpC] (x y : Int) (hx : ok64 x) (hy : ok64 y) : M X 56 [.int .i64 x, .int .i64 y] = some (.agg [zS (Rat.num (Rat.divInt x 1)), zD (Rat.num (Rat.divInt x 1)), zS (dz (Rat.divInt x 1)), zD (dz (Rat.divInt x 1)), zS (Rat.num (Rat.divInt y 1)), zD (Rat.num (Rat.divInt y 1)), zS (dz (Rat.divInt y 1)), zD (dz (Rat.divInt y 1))]) := by
  refine M_of X (fn := Tryz.f56) Tryz.func56 rfl ok_56 mode_56 res_56 _ rfl _ ?_
  intro r hr
  rw [hr]
  have w1 := M_28 x 1 hx ⟨by omega, by omega⟩
  have w2 := M_28 y 1 hy ⟨by omega, by omega⟩
  simp (maxSteps := 4000000) (disch := first | omega | (simp only [List.length_set, List.length_replicate, List.length_append, List.length_take, List.length_drop, List.length_cons, List.length_nil]; omega)) only [go_sem, reduceCtorEq, Nat.reduceEqDiff, Nat.reduceAdd, Nat.reduceMul, Nat.reduceSub, ↓Nat.reduceBEq, Nat.reduceLT, Nat.reduceLeDiff, Int.reduceLT, Int.reduceLE, Int.reduceNeg, Int.reduceToNat, mode_28, w1, w2]
set_option maxRecDepth 100000 in
theorem M_29 [SpC] {px py vx vy ax ay s : Rat} {n1 n2 n3 n4 n5 n6 n7 : Nat} [RS px n1] [RS py n2] [RS vx n3] [RS vy n4] [RS ax n5] [RS ay n6] [RS s n7] (h : n1 + n2 + n3 + n4 + n5 + n6 + n7 < 2 ^ 20) :
    M X 29 [.agg [zS (Rat.num (px)), zD (Rat.num (px)), zS (dz (px)), zD (dz (px)), zS (Rat.num (py)), zD (Rat.num (py)), zS (dz (py)), zD (dz (py))], .agg [zS (Rat.num (vx)), zD (Rat.num (vx)), zS (dz (vx)), zD (dz (vx)), zS (Rat.num (vy)), zD (Rat.num (vy)), zS (dz (vy)), zD (dz (vy))], .agg [zS (Rat.num (ax)), zD (Rat.num (ax)), zS (dz (ax)), zD (dz (ax)), zS (Rat.num (ay)), zD (Rat.num (ay)), zS (dz (ay)), zD (dz (ay))], .agg [zS (Rat.num (s)), zD (Rat.num (s)), zS (dz (s)), zD (dz (s))]] = some (.agg [zS (Rat.num (alongQ px vx ax s)), zD (Rat.num (alongQ px vx ax s)), zS (dz (alongQ px vx ax s)), zD (dz (alongQ px vx ax s)), zS (Rat.num (alongQ py vy ay s)), zD (Rat.num (alongQ py vy ay s)), zS (dz (alongQ py vy ay s)), zD (dz (alongQ py vy ay s))]) := by
  refine M_of X (fn := Tryz.f29) Tryz.func29 rfl ok_29 mode_29 res_29 _ rfl _ ?_
  intro r hr
  rw [hr]
  simp (maxSteps := 4000000) (disch := first | omega | (simp only [List.length_set, List.length_replicate, List.length_append, List.length_take, List.length_drop, List.length_cons, List.length_nil]; omega)) only [go_sem, reduceCtorEq, Nat.reduceEqDiff, Nat.reduceAdd, Nat.reduceMul, Nat.reduceSub, ↓Nat.reduceBEq, Nat.reduceLT, Nat.reduceLeDiff, Int.reduceLT, Int.reduceLE, Int.reduceNeg, Int.reduceToNat, M_65, along_eq]
set_option maxRecDepth 100000 in
theorem M_33 [SpC] {ax ay ax' ay' x y : Rat} {n1 n2 n3 n4 n5 n6 : Nat} [RS ax n1] [RS ay n2] [RS ax' n3] [RS ay' n4] [RS x n5] [RS y n6] (h : n1 + n2 + n3 + n4 + 2 * n5 + 2 * n6 < 2 ^ 24) :
    M X 33 [.agg [zS (Rat.num (ax)), zD (Rat.num (ax)), zS (dz (ax)), zD (dz (ax)), zS (Rat.num (ay)), zD (Rat.num (ay)), zS (dz (ay)), zD (dz (ay)), zS (Rat.num (ax')), zD (Rat.num (ax')), zS (dz (ax')), zD (dz (ax')), zS (Rat.num (ay')), zD (Rat.num (ay')), zS (dz (ay')), zD (dz (ay'))], .agg [zS (Rat.num (x)), zD (Rat.num (x)), zS (dz (x)), zD (dz (x)), zS (Rat.num (y)), zD (Rat.num (y)), zS (dz (y)), zD (dz (y))]] = some (.bool (meetB ax ay ax' ay' x y x y)) := by
  refine M_of X (fn := Tryz.f33) Tryz.func33 rfl ok_33 mode_33 res_33 _ rfl _ ?_
  intro r hr
  rw [hr]
  simp (maxSteps := 4000000) (disch := first | omega | (simp only [List.length_set, List.length_replicate, List.length_append, List.length_take, List.length_drop, List.length_cons, List.length_nil]; omega)) only [go_sem, reduceCtorEq, Nat.reduceEqDiff, Nat.reduceAdd, Nat.reduceMul, Nat.reduceSub, ↓Nat.reduceBEq, Nat.reduceLT, Nat.reduceLeDiff, Int.reduceLT, Int.reduceLE, Int.reduceNeg, Int.reduceToNat, M_21]
set_option maxRecDepth 100000 in
theorem M_32 [SpC] {ax ay ax' ay' x y x' y' : Rat} {n1 n2 n3 n4 n5 n6 n7 n8 : Nat} [RS ax n1] [RS ay n2] [RS ax' n3] [RS ay' n4] [RS x n5] [RS y n6] [RS x' n7] [RS y' n8] (h : n1 + n2 + n3 + n4 + 2 * n5 + 2 * n6 + 2 * n7 + 2 * n8 < 2 ^ 24) :
    M X 32 [.agg [zS (Rat.num (ax)), zD (Rat.num (ax)), zS (dz (ax)), zD (dz (ax)), zS (Rat.num (ay)), zD (Rat.num (ay)), zS (dz (ay)), zD (dz (ay)), zS (Rat.num (ax')), zD (Rat.num (ax')), zS (dz (ax')), zD (dz (ax')), zS (Rat.num (ay')), zD (Rat.num (ay')), zS (dz (ay')), zD (dz (ay'))], .agg [zS (Rat.num (x)), zD (Rat.num (x)), zS (dz (x)), zD (dz (x)), zS (Rat.num (y)), zD (Rat.num (y)), zS (dz (y)), zD (dz (y)), zS (Rat.num (x')), zD (Rat.num (x')), zS (dz (x')), zD (dz (x')), zS (Rat.num (y')), zD (Rat.num (y')), zS (dz (y')), zD (dz (y'))]] = some (.bool (meetB ax ay ax' ay' x y x y && meetB ax ay ax' ay' x' y' x' y')) := by
  refine M_of X (fn := Tryz.f32) Tryz.func32 rfl ok_32 mode_32 res_32 _ rfl _ ?_
  intro r hr
  rw [hr]
  have c1 := M_33 (ax := ax) (ay := ay) (ax' := ax') (ay' := ay') (x := x) (y := y) (by omega)
  have c2 := M_33 (ax := ax) (ay := ay) (ax' := ax') (ay' := ay') (x := x') (y := y') (by omega)
  cases h1 : meetB ax ay ax' ay' x y x y
  · rw [h1] at c1
    simp (maxSteps := 4000000) (disch := first | omega | (simp only [List.length_set, List.length_replicate, List.length_append, List.length_take, List.length_drop, List.length_cons, List.length_nil]; omega)) only [go_sem, reduceCtorEq, Nat.reduceEqDiff, Nat.reduceAdd, Nat.reduceMul, Nat.reduceSub, ↓Nat.reduceBEq, Nat.reduceLT, Nat.reduceLeDiff, Int.reduceLT, Int.reduceLE, Int.reduceNeg, Int.reduceToNat, mode_33, c1, c2]
  · rw [h1] at c1
    simp (maxSteps := 4000000) (disch := first | omega | (simp only [List.length_set, List.length_replicate, List.length_append, List.length_take, List.length_drop, List.length_cons, List.length_nil]; omega)) only [go_sem, reduceCtorEq, Nat.reduceEqDiff, Nat.reduceAdd, Nat.reduceMul, Nat.reduceSub, ↓Nat.reduceBEq, Nat.reduceLT, Nat.reduceLeDiff, Int.reduceLT, Int.reduceLE, Int.reduceNeg, Int.reduceToNat, mode_33, c1, c2]
theorem neq_87 [SpC] (a b a' b' : Int) : binA X .neq 87 (.agg [.int .i64 a, .int .i64 b]) (.agg [.int .i64 a', .int .i64 b']) = some (.bool (!(decide (a = a') && decide (b = b')))) := by
  unfold binA
  have h3 := size_3
  unfold sizeA at h3
  obtain ⟨i, h1, h2⟩ := mp_eq_some.1 h3
  simp only [und_87, und_3, h1]
  simp [h2]
set_option maxRecDepth 100000 in
theorem M_34 [SpC] (a b : List Pt) (ha : a.length < 2 ^ 40) (hb : b.length < 2 ^ 40) : M X 34 [.ro (ptC a) a.length false, .ro (ptC b) b.length false] = some (.bool (decide (a = b))) := by
  refine M_of X (fn := Tryz.f34) Tryz.func34 rfl ok_34 mode_34 res_34 _ rfl _ ?_
  intro r hr
  rw [hr]
  have la := ptC_length a
  have lb := ptC_length b
  by_cases hl : a.length = b.length
  · simp (maxSteps := 4000000) (disch := first | omega | (simp only [List.length_set, List.length_replicate, List.length_append, List.length_take, List.length_drop, List.length_cons, List.length_nil]; omega)) only [go_sem, reduceCtorEq, Nat.reduceEqDiff, Nat.reduceAdd, Nat.reduceMul, Nat.reduceSub, ↓Nat.reduceBEq, Nat.reduceLT, Nat.reduceLeDiff, Int.reduceLT, Int.reduceLE, Int.reduceNeg, Int.reduceToNat]
    refine W_loop X (fun (k : Nat) s => k ≤ a.length ∧ s.env 0 = .ro (ptC a) a.length false ∧ s.env 1 = .ro (ptC b) b.length false ∧ s.env 5 = .int .i64 k ∧ a.take k = b.take k) (fun k => a.length - k) ?_ 0 _ ?_
    · rintro k ⟨env, heap, nx⟩ ⟨hk, g0, g1, g5, ht⟩
      simp only at g0 g1 g5
      by_cases h1 : k < a.length
      · have da := ptC_take a k h1
        have db := ptC_take b k (by omega)
        have ea : a.getD k (0, 0) = a[k] := by simp [List.getD_eq_getElem?_getD, List.getElem?_eq_getElem h1]
        have eb : b.getD k (0, 0) = b[k] := by simp [List.getD_eq_getElem?_getD, List.getElem?_eq_getElem (show k < b.length by omega)]
        by_cases h2 : a.getD k (0, 0) = b.getD k (0, 0)
        · simp (maxSteps := 4000000) (disch := first | omega | (simp only [List.length_set, List.length_replicate, List.length_append, List.length_take, List.length_drop, List.length_cons, List.length_nil]; omega)) only [go_sem, reduceCtorEq, Nat.reduceEqDiff, Nat.reduceAdd, Nat.reduceMul, Nat.reduceSub, ↓Nat.reduceBEq, Nat.reduceLT, Nat.reduceLeDiff, Int.reduceLT, Int.reduceLE, Int.reduceNeg, Int.reduceToNat, g0, g1, g5, la, lb, da, db, h2, neq_87]
          exact ⟨k + 1, ⟨by omega, rfl, by rw [List.take_succ_eq_append_getElem h1, List.take_succ_eq_append_getElem (by omega), ht, ← ea, ← eb, h2]⟩, by omega⟩
        · have h3 : (!(decide ((a.getD k (0, 0)).1 = (b.getD k (0, 0)).1) && decide ((a.getD k (0, 0)).2 = (b.getD k (0, 0)).2))) = true := by
            rw [Bool.not_eq_true', Bool.and_eq_false_iff, decide_eq_false_iff_not, decide_eq_false_iff_not]
            by_cases h4 : (a.getD k (0, 0)).1 = (b.getD k (0, 0)).1
            · right; intro h5; exact h2 (Prod.ext h4 h5)
            · exact .inl h4
          simp (maxSteps := 4000000) (disch := first | omega | (simp only [List.length_set, List.length_replicate, List.length_append, List.length_take, List.length_drop, List.length_cons, List.length_nil]; omega)) only [go_sem, reduceCtorEq, Nat.reduceEqDiff, Nat.reduceAdd, Nat.reduceMul, Nat.reduceSub, ↓Nat.reduceBEq, Nat.reduceLT, Nat.reduceLeDiff, Int.reduceLT, Int.reduceLE, Int.reduceNeg, Int.reduceToNat, g0, g1, g5, la, lb, da, db, neq_87, h3]
          rw [decide_eq_false]
          intro hab; exact h2 (by rw [hab])
      · simp (maxSteps := 4000000) (disch := first | omega | (simp only [List.length_set, List.length_replicate, List.length_append, List.length_take, List.length_drop, List.length_cons, List.length_nil]; omega)) only [go_sem, reduceCtorEq, Nat.reduceEqDiff, Nat.reduceAdd, Nat.reduceMul, Nat.reduceSub, ↓Nat.reduceBEq, Nat.reduceLT, Nat.reduceLeDiff, Int.reduceLT, Int.reduceLE, Int.reduceNeg, Int.reduceToNat, g0, g1, g5]
        rw [decide_eq_true]
        rw [List.take_of_length_le (by omega), List.take_of_length_le (by omega)] at ht
        exact ht
    · simp (maxSteps := 4000000) (disch := first | omega | (simp only [List.length_set, List.length_replicate, List.length_append, List.length_take, List.length_drop, List.length_cons, List.length_nil]; omega)) only [go_sem, reduceCtorEq, Nat.reduceEqDiff, Nat.reduceAdd, Nat.reduceMul, Nat.reduceSub, ↓Nat.reduceBEq, Nat.reduceLT, Nat.reduceLeDiff, Int.reduceLT, Int.reduceLE, Int.reduceNeg, Int.reduceToNat]
  · simp (maxSteps := 4000000) (disch := first | omega | (simp only [List.length_set, List.length_replicate, List.length_append, List.length_take, List.length_drop, List.length_cons, List.length_nil]; omega)) only [go_sem, reduceCtorEq, Nat.reduceEqDiff, Nat.reduceAdd, Nat.reduceMul, Nat.reduceSub, ↓Nat.reduceBEq, Nat.reduceLT, Nat.reduceLeDiff, Int.reduceLT, Int.reduceLE, Int.reduceNeg, Int.reduceToNat]
    try rw [decide_eq_false (fun hab => hl (by rw [hab]))]
end Go.Proofs.YtjccikgdebgebaaGreatDoor.Abs
end
section
set_option linter.unusedSimpArgs false
namespace Go.Proofs.YtjccikgdebgebaaGreatDoor.Abs
open Go
/-- What a call that writes into its caller's memory comes to at its end. -/
def outI (X0 : Ctx) (rs : List ResultVar) (Φ : AV → Heap → Nat → Prop) : Ex → St → Prop
  | .exit _, _ => False
  | _, st => PN (loadRess X0 st rs) fun vs => Φ (oneV vs) st.heap st.next
theorem outI_ret (X0 : Ctx) (rs : List ResultVar) (Φ : AV → Heap → Nat → Prop) (st : St) : @outI X0 rs Φ .ret st = PN (loadRess X0 st rs) fun vs => Φ (oneV vs) st.heap st.next := nr rfl
theorem outI_normal (X0 : Ctx) (rs : List ResultVar) (Φ : AV → Heap → Nat → Prop) (st : St) : @outI X0 rs Φ .normal st = PN (loadRess X0 st rs) fun vs => Φ (oneV vs) st.heap st.next := nr rfl
theorem I_of {X0 : Ctx} {f : FuncId} {fn : Func} {c : Code} {rs : List ResultVar} (hf : X0.P.funcs[f]? = some fn) (hb : fn.body = some c) (hok : funcOk fn = true) (hr : fn.results.toList = rs)
    (args : List AV) (hl : (args.length == fn.params.size + fn.nfree) = true) (h : Heap) (nx0 : Nat) {Φ : AV → Heap → Nat → Prop} (hW : @W X0 ⟨c⟩ ⟨argEnv args, h, nx0⟩ (@outI X0 rs Φ)) : ∃ v h' nx', callI X0 f args h nx0 = some (v, h', nx') ∧ Φ v h' nx' := by
  obtain ⟨e, s, h1', h4⟩ := hW
  have h1 : D X0 c ⟨argEnv args, h, nx0⟩ = some (e, s) := h1'
  rw [callI_def X0 hf hb hok args hl, h1]
  subst hr
  have key : ∀ s, PN (loadRess X0 s fn.results.toList) (fun vs => Φ (oneV vs) s.heap s.next) → ∃ v h' nx', mp (resultsA X0 fn s) (fun v => (v, s.heap, s.next)) = some (v, h', nx') ∧ Φ v h' nx' := by
    rintro s ⟨vs, h5, h6⟩
    refine ⟨oneV vs, s.heap, s.next, ?_, h6⟩
    unfold resultsA
    rw [h5]
    rfl
  cases e with
  | exit i => exact h4.elim
  | normal => exact key s h4
  | ret => exact key s h4
def idxS (s : ByteArray) (n : Int) : Option Eff := if 0 ≤ n then match s[n.toNat]? with
      | some b => valE (.int .u8 b.toNat)
      | none => none
    else none
theorem PN_idx {s : ByteArray} {n : Int} {v : Eff} {k : Eff → Prop} (h : idxS s n = some v) (hk : k v) : PN (idxS s n) k := by rw [h]; exact ⟨v, rfl, hk⟩
theorem ix_str [SpC] (s : ByteArray) (k : IntKind) (n : Int) : aIndex X 9 (.str s) (.int k n) = idxS s n := by
  unfold aIndex; rw [und_9]; rfl
set_option maxRecDepth 100000 in
theorem M_148_3 [SpC] : M X 148 [.int .u64 3] = some (.int .i64 2) := by
  refine M_of X (fn := Tryz.f148) Tryz.func148 rfl ok_148 mode_148 res_148 _ rfl _ ?_
  intro r hr
  rw [hr]
  simp (maxSteps := 4000000) (disch := first | omega | (simp only [List.length_set, List.length_replicate, List.length_append, List.length_take, List.length_drop, List.length_cons, List.length_nil]; omega)) only [go_sem, reduceCtorEq, Nat.reduceEqDiff, Nat.reduceAdd, Nat.reduceMul, Nat.reduceSub, ↓Nat.reduceBEq, Nat.reduceLT, Nat.reduceLeDiff, Int.reduceLT, Int.reduceLE, Int.reduceNeg, Int.reduceToNat, ix_str]
  refine PN_idx (v := .loc ⟨.int .u8 2, [], []⟩) (by kernel_rfl) ?_
  simp (maxSteps := 4000000) (disch := first | omega | (simp only [List.length_set, List.length_replicate, List.length_append, List.length_take, List.length_drop, List.length_cons, List.length_nil]; omega)) only [go_sem, reduceCtorEq, Nat.reduceEqDiff, Nat.reduceAdd, Nat.reduceMul, Nat.reduceSub, ↓Nat.reduceBEq, Nat.reduceLT, Nat.reduceLeDiff, Int.reduceLT, Int.reduceLE, Int.reduceNeg, Int.reduceToNat, Int.zero_add]
set_option maxRecDepth 100000 in
theorem M_148_2 [SpC] : M X 148 [.int .u64 2] = some (.int .i64 2) := by
  refine M_of X (fn := Tryz.f148) Tryz.func148 rfl ok_148 mode_148 res_148 _ rfl _ ?_
  intro r hr
  rw [hr]
  simp (maxSteps := 4000000) (disch := first | omega | (simp only [List.length_set, List.length_replicate, List.length_append, List.length_take, List.length_drop, List.length_cons, List.length_nil]; omega)) only [go_sem, reduceCtorEq, Nat.reduceEqDiff, Nat.reduceAdd, Nat.reduceMul, Nat.reduceSub, ↓Nat.reduceBEq, Nat.reduceLT, Nat.reduceLeDiff, Int.reduceLT, Int.reduceLE, Int.reduceNeg, Int.reduceToNat, ix_str]
  refine PN_idx (v := .loc ⟨.int .u8 2, [], []⟩) (by kernel_rfl) ?_
  simp (maxSteps := 4000000) (disch := first | omega | (simp only [List.length_set, List.length_replicate, List.length_append, List.length_take, List.length_drop, List.length_cons, List.length_nil]; omega)) only [go_sem, reduceCtorEq, Nat.reduceEqDiff, Nat.reduceAdd, Nat.reduceMul, Nat.reduceSub, ↓Nat.reduceBEq, Nat.reduceLT, Nat.reduceLeDiff, Int.reduceLT, Int.reduceLE, Int.reduceNeg, Int.reduceToNat, Int.zero_add]
set_option maxRecDepth 100000 in
theorem M_111 [SpC] (n m : Int) (h : M X 148 [.int .u64 n] = some (.int .i64 m)) : M X 111 [.int .u64 n] = some (.int .i64 m) := by
  refine M_of X (fn := Tryz.f111) Tryz.func111 rfl ok_111 mode_111 res_111 _ rfl _ ?_
  intro r hr
  rw [hr]
  simp (maxSteps := 4000000) (disch := first | omega | (simp only [List.length_set, List.length_replicate, List.length_append, List.length_take, List.length_drop, List.length_cons, List.length_nil]; omega)) only [go_sem, reduceCtorEq, Nat.reduceEqDiff, Nat.reduceAdd, Nat.reduceMul, Nat.reduceSub, ↓Nat.reduceBEq, Nat.reduceLT, Nat.reduceLeDiff, Int.reduceLT, Int.reduceLE, Int.reduceNeg, Int.reduceToNat, mode_148, h]
set_option maxRecDepth 100000 in
theorem M_70 [SpC] {l : List BoxQ} {n : Nat} (hl : okB l n) (hlen : l.length < 2 ^ 30) (h : 2 * n < 2 ^ 24) (a b : Int) (ha : 0 ≤ a ∧ a < l.length) (hb : 0 ≤ b ∧ b < l.length) :
    M X 70 [.int .i64 a, .int .i64 b, .rptr [.ro (boxC l) l.length false]] = some (.int .i64 (cmpQ (l.getD a.toNat box0).lx (l.getD b.toNat box0).lx)) := by
  have r1 := hl _ (getD_mem l a.toNat (by omega))
  have r2 := hl _ (getD_mem l b.toNat (by omega))
  have d1 := boxC_drop l a.toNat (by omega)
  have d2 := boxC_drop l b.toNat (by omega)
  have hbl := boxC_length l
  generalize boxC (l.drop (a.toNat + 1)) = t1 at *
  generalize boxC (l.drop (b.toNat + 1)) = t2 at *
  generalize l.getD a.toNat box0 = x at *
  generalize l.getD b.toNat box0 = y at *
  refine M_of X (fn := Tryz.f70) Tryz.func70 rfl ok_70 mode_70 res_70 _ rfl _ ?_
  intro r hr
  rw [hr]
  have c1 := M_59 (x := x.lx) (y := y.lx) (by omega)
  simp (maxSteps := 4000000) (disch := first | omega | (simp only [List.length_set, List.length_replicate, List.length_append, List.length_take, List.length_drop, List.length_cons, List.length_nil]; omega)) only [go_sem, reduceCtorEq, Nat.reduceEqDiff, Nat.reduceAdd, Nat.reduceMul, Nat.reduceSub, ↓Nat.reduceBEq, Nat.reduceLT, Nat.reduceLeDiff, Int.reduceLT, Int.reduceLE, Int.reduceNeg, Int.reduceToNat, hbl, d1, d2, mode_59, c1]
set_option maxRecDepth 100000 in
theorem M_73 [SpC] (a b : Int) : M X 73 [.ro [.int .i64 a, .int .i64 b] 2 false] = some (.int .i64 (if a = 0 then b else a)) := by
  refine M_of X (fn := Tryz.f73) Tryz.func73 rfl ok_73 mode_73 res_73 _ rfl _ ?_
  intro r hr
  rw [hr]
  by_cases h1 : a = 0
  · by_cases h2 : b = 0
    · simp (maxSteps := 4000000) (disch := first | omega | (simp only [List.length_set, List.length_replicate, List.length_append, List.length_take, List.length_drop, List.length_cons, List.length_nil]; omega)) only [go_sem, reduceCtorEq, Nat.reduceEqDiff, Nat.reduceAdd, Nat.reduceMul, Nat.reduceSub, ↓Nat.reduceBEq, Nat.reduceLT, Nat.reduceLeDiff, Int.reduceLT, Int.reduceLE, Int.reduceNeg, Int.reduceToNat, W_unroll, unQ_normal, unQ_ret, unQ_exit, Int.reduceAdd, Int.reduceSub, Int.reduceMul, h1, h2]
    · simp (maxSteps := 4000000) (disch := first | omega | (simp only [List.length_set, List.length_replicate, List.length_append, List.length_take, List.length_drop, List.length_cons, List.length_nil]; omega)) only [go_sem, reduceCtorEq, Nat.reduceEqDiff, Nat.reduceAdd, Nat.reduceMul, Nat.reduceSub, ↓Nat.reduceBEq, Nat.reduceLT, Nat.reduceLeDiff, Int.reduceLT, Int.reduceLE, Int.reduceNeg, Int.reduceToNat, W_unroll, unQ_normal, unQ_ret, unQ_exit, Int.reduceAdd, Int.reduceSub, Int.reduceMul, h1, h2]
  · simp (maxSteps := 4000000) (disch := first | omega | (simp only [List.length_set, List.length_replicate, List.length_append, List.length_take, List.length_drop, List.length_cons, List.length_nil]; omega)) only [go_sem, reduceCtorEq, Nat.reduceEqDiff, Nat.reduceAdd, Nat.reduceMul, Nat.reduceSub, ↓Nat.reduceBEq, Nat.reduceLT, Nat.reduceLeDiff, Int.reduceLT, Int.reduceLE, Int.reduceNeg, Int.reduceToNat, W_unroll, unQ_normal, unQ_ret, unQ_exit, Int.reduceAdd, Int.reduceSub, Int.reduceMul, h1]
set_option maxRecDepth 100000 in
theorem M_72 [SpC] (a b c d : Int) : M X 72 [.agg [.int .i64 a, .int .i64 b], .agg [.int .i64 c, .int .i64 d]] = some (.int .i64 (if a < c then -1 else if c < a then 1 else if b < d then -1 else if d < b then 1 else 0)) := by
  refine M_of X (fn := Tryz.f72) Tryz.func72 rfl ok_72 mode_72 res_72 _ rfl _ ?_
  intro r hr
  have h1 := M_48 a c
  have h2 := M_48 b d
  have h3 := M_73 (if a < c then -1 else if c < a then 1 else 0) (if b < d then -1 else if d < b then 1 else 0)
  have h4 : (if (if a < c then (-1 : Int) else if c < a then 1 else 0) = 0 then (if b < d then (-1 : Int) else if d < b then 1 else 0) else (if a < c then (-1 : Int) else if c < a then 1 else 0)) = (if a < c then -1 else if c < a then 1 else if b < d then -1 else if d < b then 1 else 0) := by grind
  rw [hr, ← h4]
  generalize (if a < c then (-1 : Int) else if c < a then 1 else 0) = u at *
  generalize (if b < d then (-1 : Int) else if d < b then 1 else 0) = v at *
  simp (maxSteps := 4000000) (disch := first | omega | (simp only [List.length_set, List.length_replicate, List.length_append, List.length_take, List.length_drop, List.length_cons, List.length_nil]; omega)) only [go_sem, reduceCtorEq, Nat.reduceEqDiff, Nat.reduceAdd, Nat.reduceMul, Nat.reduceSub, ↓Nat.reduceBEq, Nat.reduceLT, Nat.reduceLeDiff, Int.reduceLT, Int.reduceLE, Int.reduceNeg, Int.reduceToNat, replA_2, mode_48, mode_73, h1, h2, h3]
end Go.Proofs.YtjccikgdebgebaaGreatDoor.Abs
end
section
set_option linter.unusedSimpArgs false
namespace Go.Proofs.YtjccikgdebgebaaGreatDoor.Abs
open Go
def mtN (l : List BoxQ) (i k : Nat) : Bool := mt (l.getD i box0) (l.getD k box0)
theorem mtN_comm (l : List BoxQ) (i k : Nat) : mtN l i k = mtN l k i := by
  unfold mtN mt meetB; rw [decide_eq_decide]; grind
theorem mtN_far (l : List BoxQ) (i k : Nat) (h : (l.getD i box0).hx < (l.getD k box0).lx) : mtN l i k = false := by
  unfold mtN mt meetB; rw [decide_eq_false_iff_not]; grind
/-- The pairs of i with later ones before m. -/
def rowP (l : List BoxQ) (i : Nat) : Nat → List Pt
  | 0 => []
  | m + 1 => if i < m ∧ mtN l i m = true then rowP l i m ++ [((i : Int), (m : Int))] else rowP l i m
def prsP (l : List BoxQ) (n : Nat) : Nat → List Pt
  | 0 => []
  | m + 1 => prsP l n m ++ rowP l m n
def lexlt (p q : Pt) : Prop := p.1 < q.1 ∨ p.1 = q.1 ∧ p.2 < q.2
theorem mem_rowP (l : List BoxQ) (i : Nat) (p : Pt) : ∀ m, p ∈ rowP l i m ↔ ∃ k, i < k ∧ k < m ∧ mtN l i k = true ∧ p = ((i : Int), (k : Int)) := by
  intro m
  induction m with
  | zero => simp [rowP]
  | succ m ih =>
    unfold rowP
    split
    · rename_i h
      simp only [List.mem_append, List.mem_singleton, ih]
      constructor
      · rintro (⟨k, h1, h2, h3, h4⟩ | rfl)
        · exact ⟨k, h1, by omega, h3, h4⟩
        · exact ⟨m, h.1, by omega, h.2, rfl⟩
      · rintro ⟨k, h1, h2, h3, h4⟩
        by_cases hk : k = m
        · subst hk; exact .inr h4
        · exact .inl ⟨k, h1, by omega, h3, h4⟩
    · rename_i h
      rw [ih]
      constructor
      · rintro ⟨k, h1, h2, h3, h4⟩; exact ⟨k, h1, by omega, h3, h4⟩
      · rintro ⟨k, h1, h2, h3, h4⟩
        by_cases hk : k = m
        · subst hk; exact absurd ⟨h1, h3⟩ h
        · exact ⟨k, h1, by omega, h3, h4⟩
theorem mem_prsP (l : List BoxQ) (n : Nat) (p : Pt) : ∀ m, p ∈ prsP l n m ↔ ∃ i k, i < m ∧ i < k ∧ k < n ∧ mtN l i k = true ∧ p = ((i : Int), (k : Int)) := by
  intro m
  induction m with
  | zero => simp [prsP]
  | succ m ih =>
    simp only [prsP, List.mem_append, ih, mem_rowP]
    constructor
    · rintro (⟨i, k, h1, h2⟩ | ⟨k, h1⟩)
      · exact ⟨i, k, by omega, h2⟩
      · exact ⟨m, k, by omega, h1⟩
    · rintro ⟨i, k, h1, h2⟩
      by_cases hi : i = m
      · subst hi; exact .inr ⟨k, h2⟩
      · exact .inl ⟨i, k, by omega, h2⟩
theorem rowP_sorted (l : List BoxQ) (i : Nat) : ∀ m, (rowP l i m).Pairwise lexlt := by
  intro m
  induction m with
  | zero => simp [rowP]
  | succ m ih =>
    unfold rowP
    split
    · refine List.pairwise_append.2 ⟨ih, by simp, fun p hp q hq => ?_⟩
      obtain ⟨k, h1, h2, _, rfl⟩ := (mem_rowP l i p m).1 hp
      simp only [List.mem_singleton] at hq
      subst hq
      exact .inr ⟨rfl, by simp only; omega⟩
    · exact ih
theorem prsP_sorted (l : List BoxQ) (n : Nat) : ∀ m, (prsP l n m).Pairwise lexlt := by
  intro m
  induction m with
  | zero => simp [prsP]
  | succ m ih =>
    refine List.pairwise_append.2 ⟨ih, rowP_sorted l m n, fun p hp q hq => ?_⟩
    obtain ⟨i, k, h1, h2, _, _, rfl⟩ := (mem_prsP l n p m).1 hp
    obtain ⟨k', _, _, _, rfl⟩ := (mem_rowP l m q n).1 hq
    exact .inl (by simp only; omega)
theorem rowP_length (l : List BoxQ) (i : Nat) : ∀ m, (rowP l i m).length ≤ m := by
  intro m
  induction m with
  | zero => simp [rowP]
  | succ m ih => unfold rowP; split
                 · simp; omega
                 · omega
theorem prsP_length (l : List BoxQ) (n : Nat) : ∀ m, (prsP l n m).length ≤ m * n := by
  intro m
  induction m with
  | zero => simp [prsP]
  | succ m ih =>
    have := rowP_length l m n
    rw [Nat.succ_mul]
    simp only [prsP, List.length_append]; omega
theorem ptC_snocN (l : List Pt) (p : Pt) : ptC (l ++ [p]) = ptC l ++ [.int .i64 p.1, .int .i64 p.2] := by
  induction l with
  | nil => rfl
  | cons q l ih => simp only [ptC, List.cons_append, ih]
/-! ### The order of pairs -/
def cfP (p q : Pt) : Int := if p.1 < q.1 then -1 else if q.1 < p.1 then 1 else if p.2 < q.2 then -1 else if q.2 < p.2 then 1 else 0
theorem cfP_neg (p q : Pt) : cfP p q < 0 ↔ lexlt p q := by unfold cfP lexlt; grind
theorem lexlt_irrefl (p : Pt) : ¬ lexlt p p := by unfold lexlt; omega
theorem lexlt_trans {p q r : Pt} (h : lexlt p q) (k : lexlt q r) : lexlt p r := by unfold lexlt at *; omega
theorem lexlt_total {p q : Pt} (h : ¬ lexlt p q) (k : ¬ lexlt q p) : p = q := by
  obtain ⟨a, b⟩ := p; obtain ⟨c, d⟩ := q
  unfold lexlt at *
  simp only at *
  rw [Prod.mk.injEq]
  omega
theorem eq_of_sorted : ∀ (l m : List Pt), l.Pairwise lexlt → m.Pairwise lexlt → (∀ p, p ∈ l ↔ p ∈ m) → l = m
  | [], [], _, _, _ => rfl
  | [], q :: m, _, _, h => absurd ((h q).2 (by simp)) (by simp)
  | p :: l, [], _, _, h => absurd ((h p).1 (by simp)) (by simp)
  | p :: l, q :: m, hl, hm, h => by
    rw [List.pairwise_cons] at hl hm
    have hpq : p = q := by
      have h1 := (h p).1 (by simp)
      have h2 := (h q).2 (by simp)
      simp only [List.mem_cons] at h1 h2
      rcases h1 with h1 | h1
      · exact h1
      · rcases h2 with h2 | h2
        · exact h2.symm
        · exact absurd (lexlt_trans (hl.1 q h2) (hm.1 p h1)) (lexlt_irrefl p)
    subst hpq
    rw [eq_of_sorted l m hl.2 hm.2 fun r => ?_]
    constructor
    · intro hr
      have := (h r).1 (by simp [hr])
      simp only [List.mem_cons] at this
      rcases this with rfl | hh
      · exact absurd (hl.1 r hr) (lexlt_irrefl r)
      · exact hh
    · intro hr
      have := (h r).2 (by simp [hr])
      simp only [List.mem_cons] at this
      rcases this with rfl | hh
      · exact absurd (hm.1 r hr) (lexlt_irrefl r)
      · exact hh
theorem merge_eq (out m : List Pt) (hn : out.Nodup) (hm : m.Pairwise lexlt) (h : ∀ p, p ∈ out ↔ p ∈ m) : out.mergeSort (fun x y => !decide (cfP y x < 0)) = m := by
  have hp := List.mergeSort_perm out (fun x y => !decide (cfP y x < 0))
  have hs : (out.mergeSort (fun x y => !decide (cfP y x < 0))).Pairwise (fun x y => (!decide (cfP y x < 0)) = true) := List.pairwise_mergeSort (fun x y z h1 h2 => by
      simp only [Bool.not_eq_true', decide_eq_false_iff_not, cfP_neg] at *
      unfold lexlt at *; omega) (fun x y => by
      simp only [Bool.or_eq_true, Bool.not_eq_true', decide_eq_false_iff_not, cfP_neg]
      unfold lexlt; omega) out
  have hn' : (out.mergeSort (fun x y => !decide (cfP y x < 0))).Nodup := hp.nodup_iff.2 hn
  refine eq_of_sorted _ _ ?_ hm fun p => by rw [hp.mem_iff, h]
  refine List.Pairwise.imp₂ (R := fun x y => (!decide (cfP y x < 0)) = true) (S := (· ≠ ·)) (fun x y h1 h2 => ?_) hs hn'
  simp only [Bool.not_eq_true', decide_eq_false_iff_not, cfP_neg] at h1
  exact Classical.byContradiction fun hc => h2 (lexlt_total hc h1)
/-! ### The sweep -/
def lxN (l : List BoxQ) (i : Nat) : Rat := (l.getD i box0).lx
def hxN (l : List BoxQ) (i : Nat) : Rat := (l.getD i box0).hx
def prN (a b : Nat) : Pt := ((min a b : Nat), (max a b : Nat))
theorem prN_inj {a b n : Nat} (ha : a ≠ n) (hb : b ≠ n) (h : prN a n = prN b n) : a = b := by
  unfold prN at h; rw [Prod.mk.injEq] at h; omega
theorem nodup_ne {α : Type} {l : List α} (h : l.Nodup) (i j : Nat) (hij : i < j) (hj : j < l.length) : l[i]? ≠ l[j]? := by
  have := List.pairwise_iff_getElem.1 h i j (by omega) hj hij
  rw [List.getElem?_eq_getElem hj, List.getElem?_eq_getElem (by omega)]
  exact fun e => this (Option.some.inj e)
theorem nodup_inj {α β : Type} {f : α → β} {l : List α} (h : (l.map f).Nodup) {a b : α} (ha : a ∈ l) (hb : b ∈ l) (he : f a = f b) : a = b := by
  obtain ⟨i, hi, rfl⟩ := List.getElem_of_mem ha
  obtain ⟨j, hj, rfl⟩ := List.getElem_of_mem hb
  have hn := nodup_ne h
  rcases Nat.lt_trichotomy i j with hlt | rfl | hlt
  · exact absurd (by simp [List.getElem?_eq_getElem hi, List.getElem?_eq_getElem hj, he]) (hn i j hlt (by simpa using hj))
  · rfl
  · exact absurd (by simp [List.getElem?_eq_getElem hi, List.getElem?_eq_getElem hj, he]) (hn j i hlt (by simpa using hi))
/-- Behind a round: the boxes met, those still open (each with its birth), and the pairs found. -/
structure Inv (l : List BoxQ) (done rest : List Nat) (ks : List (Int × Nat)) (clock : Nat) (out : List Pt) : Prop where
  keys : (ks.map (·.1)).Nodup
  births : (ks.map (·.2)).Nodup
  old : ∀ p ∈ ks, p.2 < clock
  isd : ∀ p ∈ ks, ∃ k ∈ done, p.1 = (k : Nat)
  gone : ∀ k ∈ done, (∀ p ∈ ks, p.1 ≠ (k : Nat)) → ∀ m ∈ rest, hxN l k < lxN l m
  nodup : out.Nodup
  mem : ∀ p, p ∈ out ↔ ∃ i k, i < k ∧ i ∈ done ∧ k ∈ done ∧ mtN l i k = true ∧ p = ((i : Int), (k : Int))
/-- In a round, n being looked at: what was seen so far. -/
structure Inn (l : List BoxQ) (done rest : List Nat) (n : Nat) (ks : List (Int × Nat)) (clock : Nat) (seen : Array Nat) (V : List Nat) (out : List Pt) : Prop where
  keys : (ks.map (·.1)).Nodup
  births : (ks.map (·.2)).Nodup
  old : ∀ p ∈ ks, p.2 < clock
  isd : ∀ p ∈ ks, ∃ k ∈ done, p.1 = (k : Nat)
  gone : ∀ k ∈ done, (∀ p ∈ ks, p.1 ≠ (k : Nat)) → ∀ m ∈ n :: rest, hxN l k < lxN l m
  seenV : ∀ p ∈ ks, p.2 ∈ seen ↔ ∃ v ∈ V, p.1 = (v : Nat)
  Vd : ∀ v ∈ V, v ∈ done
  nodup : out.Nodup
  mem : ∀ p, p ∈ out ↔ (∃ i k, i < k ∧ i ∈ done ∧ k ∈ done ∧ mtN l i k = true ∧ p = ((i : Int), (k : Int))) ∨ ∃ v ∈ V, mtN l v n = true ∧ p = prN v n
theorem Inv.enter {l : List BoxQ} {done rest : List Nat} {n : Nat} {ks : List (Int × Nat)} {clock : Nat} {out : List Pt} (h : Inv l done (n :: rest) ks clock out) : Inn l done rest n ks clock #[] [] out :=
  ⟨h.keys, h.births, h.old, h.isd, h.gone, by simp, by simp, h.nodup, fun p => by simp [h.mem p]⟩
theorem Inn.leave {l : List BoxQ} {done rest : List Nat} {n : Nat} {ks : List (Int × Nat)} {clock : Nat} {seen : Array Nat} {V : List Nat} {out : List Pt} (h : Inn l done rest n ks clock seen V out) (hn : n ∉ done) (hall : ∀ p ∈ ks, p.2 ∈ seen) :
    Inv l (done ++ [n]) rest (ks ++ [((n : Int), clock)]) (clock + 1) out where
  keys := by
    rw [List.map_append]
    refine List.nodup_append.2 ⟨h.keys, by simp, fun a ha b hb hab => ?_⟩
    simp only [List.mem_map] at ha
    obtain ⟨p, hp, rfl⟩ := ha
    simp only [List.map_cons, List.map_nil, List.mem_singleton] at hb
    obtain ⟨k, hk, hpk⟩ := h.isd p hp
    have : k = n := by omega
    subst this
    exact hn hk
  births := by
    rw [List.map_append]
    refine List.nodup_append.2 ⟨h.births, by simp, fun a ha b hb hab => ?_⟩
    simp only [List.mem_map] at ha
    obtain ⟨p, hp, rfl⟩ := ha
    simp only [List.map_cons, List.map_nil, List.mem_singleton] at hb
    have := h.old p hp
    omega
  old p hp := by
    simp only [List.mem_append, List.mem_singleton] at hp
    rcases hp with hp | rfl
    · have := h.old p hp; omega
    · simp
  isd p hp := by
    simp only [List.mem_append, List.mem_singleton] at hp
    rcases hp with hp | rfl
    · obtain ⟨k, hk, hpk⟩ := h.isd p hp; exact ⟨k, by simp [hk], hpk⟩
    · exact ⟨n, by simp, rfl⟩
  gone k hk hno m hm := by
    simp only [List.mem_append, List.mem_singleton] at hk hno
    rcases hk with hk | rfl
    · exact h.gone k hk (fun p hp => hno p (.inl hp)) m (by simp [hm])
    · exact absurd rfl (hno _ (.inr rfl))
  nodup := h.nodup
  mem p := by
    rw [h.mem p]
    constructor
    · rintro (⟨i, k, h1, h2, h3, h4, h5⟩ | ⟨v, h1, h2, rfl⟩)
      · exact ⟨i, k, h1, by simp [h2], by simp [h3], h4, h5⟩
      · have hv := h.Vd v h1
        have hne : v ≠ n := fun e => hn (e ▸ hv)
        by_cases hvn : v < n
        · exact ⟨v, n, hvn, by simp [hv], by simp, h2, by unfold prN; rw [Nat.min_eq_left (by omega), Nat.max_eq_right (by omega)]⟩
        · exact ⟨n, v, by omega, by simp, by simp [hv], by rw [mtN_comm]; exact h2, by unfold prN; rw [Nat.min_eq_right (by omega), Nat.max_eq_left (by omega)]⟩
    · rintro ⟨i, k, h1, h2, h3, h4, rfl⟩
      have key : ∀ v, v ∈ done → mtN l v n = true → ∃ v ∈ V, mtN l v n = true ∧ prN v n = prN v n ∧ True ∧ (∃ w ∈ V, w = v) := by
        intro v hv hm
        by_cases hg : ∀ p ∈ ks, p.1 ≠ (v : Nat)
        · have := mtN_far l v n (h.gone v hv hg n (by simp))
          rw [this] at hm; simp at hm
        · have hg : ∃ p ∈ ks, p.1 = (v : Nat) := Classical.byContradiction fun hc => hg fun p hp he => hc ⟨p, hp, he⟩
          obtain ⟨p, hp, hpv⟩ := hg
          obtain ⟨w, hw, hpw⟩ := (h.seenV p hp).1 (hall p hp)
          have : w = v := by omega
          subst this
          exact ⟨w, hw, hm, rfl, trivial, w, hw, rfl⟩
      have key : ∀ v, v ∈ done → mtN l v n = true → v ∈ V := by
        intro v hv hm
        by_cases hg : ∀ p ∈ ks, p.1 ≠ (v : Nat)
        · have := mtN_far l v n (h.gone v hv hg n (by simp))
          rw [this] at hm; simp at hm
        · have hg : ∃ p ∈ ks, p.1 = (v : Nat) := Classical.byContradiction fun hc => hg fun p hp he => hc ⟨p, hp, he⟩
          obtain ⟨p, hp, hpv⟩ := hg
          obtain ⟨w, hw, hpw⟩ := (h.seenV p hp).1 (hall p hp)
          have : w = v := by omega
          subst this
          exact hw
      simp only [List.mem_append, List.mem_singleton] at h2 h3
      rcases h2 with h2 | rfl
      · rcases h3 with h3 | rfl
        · exact .inl ⟨i, k, h1, h2, h3, h4, rfl⟩
        · exact .inr ⟨i, key i h2 h4, h4, by unfold prN; rw [Nat.min_eq_left (by omega), Nat.max_eq_right (by omega)]⟩
      · rcases h3 with h3 | rfl
        · rw [mtN_comm] at h4
          exact .inr ⟨k, key k h3 h4, h4, by unfold prN; rw [Nat.min_eq_right (by omega), Nat.max_eq_left (by omega)]⟩
        · omega
/-- One look: at a box that ends ahead of n: it is closed. -/
theorem Inn.close {l : List BoxQ} {done rest : List Nat} {n : Nat} {ks : List (Int × Nat)} {clock : Nat} {seen : Array Nat} {V : List Nat} {out : List Pt} (h : Inn l done rest n ks clock seen V out) (hs : ∀ m ∈ rest, ¬ lxN l m < lxN l n)
    {p : Int × Nat} {j : Nat} (hp : ks[j]? = some p) {k : Nat} (hk : p.1 = (k : Nat)) (hf : hxN l k < lxN l n) : Inn l done rest n (ks.eraseIdx j) clock (seen.push p.2) V out := by
  have hsub : ∀ q ∈ ks.eraseIdx j, q ∈ ks := fun q hq => (List.eraseIdx_sublist ks j).subset hq
  have hj : j < ks.length := (List.getElem?_eq_some_iff.1 hp).1
  have hpj : ks[j] = p := (List.getElem?_eq_some_iff.1 hp).2
  have hne : ∀ q ∈ ks.eraseIdx j, q.2 ≠ p.2 := by
    intro q hq he
    obtain ⟨i, hi, hqi⟩ := List.mem_eraseIdx_iff_getElem.1 hq
    obtain ⟨hij, hqi⟩ := hqi
    have hb := h.births
    replace hb := nodup_ne hb
    rcases Nat.lt_or_gt_of_ne hij with hlt | hlt
    · exact hb i j hlt (by simpa using hj) (by simp only [List.getElem?_map, List.getElem?_eq_getElem hi, List.getElem?_eq_getElem hj, hqi, hpj, Option.map_some, he])
    · exact hb j i hlt (by simpa using hi) (by simp only [List.getElem?_map, List.getElem?_eq_getElem hi, List.getElem?_eq_getElem hj, hqi, hpj, Option.map_some, he])
  have hin : ∀ q ∈ ks, q.1 ≠ p.1 → q ∈ ks.eraseIdx j := by
    intro q hq hq1
    obtain ⟨i, hi, hqi⟩ := List.getElem_of_mem hq
    refine List.mem_eraseIdx_iff_getElem.2 ⟨i, hi, fun e => ?_, hqi⟩
    subst e
    exact hq1 (by rw [← hqi, hpj])
  refine ⟨h.keys.sublist ((List.eraseIdx_sublist ks j).map _), h.births.sublist ((List.eraseIdx_sublist ks j).map _), fun q hq => h.old q (hsub q hq), fun q hq => h.isd q (hsub q hq), ?_, ?_, h.Vd, h.nodup, h.mem⟩
  · intro v hv hno m hm
    by_cases hvk : v = k
    · subst hvk
      simp only [List.mem_cons] at hm
      rcases hm with rfl | hm
      · exact hf
      · have := hs m hm; grind
    · exact h.gone v hv (fun q hq he => hno q (hin q hq (by omega)) he) m hm
  · intro q hq
    rw [Array.mem_push]
    constructor
    · rintro (h1 | h1)
      · exact (h.seenV q (hsub q hq)).1 h1
      · exact absurd h1 (hne q hq)
    · exact fun h1 => .inl ((h.seenV q (hsub q hq)).2 h1)
/-- One look: at a box that stays open. -/
theorem Inn.look {l : List BoxQ} {done rest : List Nat} {n : Nat} {ks : List (Int × Nat)} {clock : Nat} {seen : Array Nat} {V : List Nat} {out : List Pt} (h : Inn l done rest n ks clock seen V out) (hn : n ∉ done)
    {p : Int × Nat} (hp : p ∈ ks) (hps : p.2 ∉ seen) {k : Nat} (hk : p.1 = (k : Nat)) : Inn l done rest n ks clock (seen.push p.2) (k :: V) (if mtN l k n = true then out ++ [prN k n] else out) := by
  have hkd : k ∈ done := by
    obtain ⟨k', h1, h2⟩ := h.isd p hp
    have : k' = k := by omega
    exact this ▸ h1
  have hkn : k ≠ n := fun e => hn (e ▸ hkd)
  have hkV : k ∉ V := fun hv => hps ((h.seenV p hp).2 ⟨k, hv, hk⟩)
  have inj : ∀ q ∈ ks, q.2 = p.2 → q = p := by
    intro q hq he
    obtain ⟨i, hi, rfl⟩ := List.getElem_of_mem hq
    obtain ⟨j, hj, rfl⟩ := List.getElem_of_mem hp
    have hb := h.births
    replace hb := nodup_ne hb
    rcases Nat.lt_trichotomy i j with hlt | rfl | hlt
    · exact absurd (by simp [List.getElem?_eq_getElem hi, List.getElem?_eq_getElem hj, he]) (hb i j hlt (by simpa using hj))
    · rfl
    · exact absurd (by simp [List.getElem?_eq_getElem hi, List.getElem?_eq_getElem hj, he]) (hb j i hlt (by simpa using hi))
  have keyinj : ∀ q ∈ ks, q.1 = p.1 → q = p := by
    intro q hq he
    obtain ⟨i, hi, rfl⟩ := List.getElem_of_mem hq
    obtain ⟨j, hj, rfl⟩ := List.getElem_of_mem hp
    have hb := h.keys
    replace hb := nodup_ne hb
    rcases Nat.lt_trichotomy i j with hlt | rfl | hlt
    · exact absurd (by simp [List.getElem?_eq_getElem hi, List.getElem?_eq_getElem hj, he]) (hb i j hlt (by simpa using hj))
    · rfl
    · exact absurd (by simp [List.getElem?_eq_getElem hi, List.getElem?_eq_getElem hj, he]) (hb j i hlt (by simpa using hi))
  refine ⟨h.keys, h.births, h.old, h.isd, h.gone, ?_, ?_, ?_, ?_⟩
  · intro q hq
    rw [Array.mem_push]
    constructor
    · rintro (h1 | h1)
      · obtain ⟨v, hv, he⟩ := (h.seenV q hq).1 h1; exact ⟨v, by simp [hv], he⟩
      · obtain rfl := inj q hq h1; exact ⟨k, by simp, hk⟩
    · rintro ⟨v, hv, he⟩
      simp only [List.mem_cons] at hv
      rcases hv with rfl | hv
      · rw [keyinj q hq (by omega)]; exact .inr rfl
      · exact .inl ((h.seenV q hq).2 ⟨v, hv, he⟩)
  · intro v hv
    simp only [List.mem_cons] at hv
    rcases hv with rfl | hv
    · exact hkd
    · exact h.Vd v hv
  · split
    · refine List.nodup_append.2 ⟨h.nodup, by simp, fun a ha b hb hab => ?_⟩
      simp only [List.mem_singleton] at hb
      subst hb
      subst hab
      rcases (h.mem _).1 ha with ⟨i, m, h1, h2, h3, _, h5⟩ | ⟨v, hv, _, h5⟩
      · unfold prN at h5
        rw [Prod.mk.injEq] at h5
        have : n = i ∨ n = m := by omega
        rcases this with rfl | rfl
        · exact hn h2
        · exact hn h3
      · exact hkV (prN_inj hkn (fun e => hn (e ▸ h.Vd v hv)) h5 ▸ hv)
    · exact h.nodup
  · intro q
    split
    · rename_i hm
      simp only [List.mem_append, h.mem q, List.mem_cons, List.not_mem_nil, or_false, exists_eq_or_imp]
      constructor
      · rintro ((h1 | h1) | rfl)
        · exact .inl h1
        · exact .inr (.inr h1)
        · exact .inr (.inl ⟨hm, rfl⟩)
      · rintro (h1 | ⟨_, rfl⟩ | h1)
        · exact .inl (.inl h1)
        · exact .inr rfl
        · exact .inl (.inr h1)
    · rename_i hm
      simp only [h.mem q, List.mem_cons, exists_eq_or_imp]
      constructor
      · rintro (h1 | h1)
        · exact .inl h1
        · exact .inr (.inr h1)
      · rintro (h1 | ⟨h1, _⟩ | h1)
        · exact .inl h1
        · exact absurd h1 hm
        · exact .inr h1
theorem growC_mono {lo : Nat} {h h' : Heap} {nx nx' : Nat} {v : AV} {cs : List AV} {n s : Nat} (hg : GrowC lo h nx v cs n s) (hh : ∀ b, b < nx → h' b = h b) (hn : nx ≤ nx') : GrowC lo h' nx' v cs n s := by
  rcases hg with h | ⟨B, h1, h2, h3⟩
  · exact .inl h
  · exact .inr ⟨B, ⟨h1.1, by omega⟩, h2, by rw [hh B h1.2]; exact h3⟩
theorem len_le_of_sub : ∀ (a b : List Pt), a.Nodup → (∀ p ∈ a, p ∈ b) → a.length ≤ b.length
  | [], _, _, _ => Nat.zero_le _
  | p :: a, b, hn, h => by
    rw [List.nodup_cons] at hn
    have hp := h p (by simp)
    have ih := len_le_of_sub a (b.erase p) hn.2 fun q hq => (List.mem_erase_of_ne (fun e => hn.1 (by rw [← e]; exact hq))).2 (h q (by simp [hq]))
    rw [List.length_erase_of_mem hp] at ih
    have := List.length_pos_of_mem hp
    simp only [List.length_cons]
    omega
def allP (n : Nat) : Nat → List Pt
  | 0 => []
  | m + 1 => allP n m ++ (List.range n).map fun k : Nat => ((m : Int), (k : Int))
theorem allP_length (n : Nat) : ∀ m, (allP n m).length = m * n := by
  intro m
  induction m with
  | zero => simp [allP]
  | succ m ih => simp only [allP, List.length_append, ih, List.length_map, List.length_range, Nat.succ_mul]
theorem mem_allP (n : Nat) (i k : Nat) (hk : k < n) : ∀ m, i < m → ((i : Int), (k : Int)) ∈ allP n m := by
  intro m
  induction m with
  | zero => intro h; omega
  | succ m ih =>
    intro h
    simp only [allP, List.mem_append, List.mem_map, List.mem_range]
    by_cases hi : i = m
    · subst hi; exact .inr ⟨k, hk, rfl⟩
    · exact .inl (ih (by omega))
theorem Inn.len {l : List BoxQ} {done rest : List Nat} {n N : Nat} {ks : List (Int × Nat)} {clock : Nat} {seen : Array Nat} {V : List Nat} {out : List Pt} (h : Inn l done rest n ks clock seen V out) (hd : ∀ k ∈ done, k < N) (hn : n < N) : out.length ≤ N * N := by
  rw [← allP_length N N]
  refine len_le_of_sub _ _ h.nodup fun p hp => ?_
  rcases (h.mem p).1 hp with ⟨i, k, h1, h2, h3, _, rfl⟩ | ⟨v, hv, _, rfl⟩
  · exact mem_allP N i k (hd k h3) N (hd i h2)
  · have := hd v (h.Vd v hv)
    exact mem_allP N _ _ (by omega) N (by omega)
theorem Inv.len {l : List BoxQ} {done rest : List Nat} {N : Nat} {ks : List (Int × Nat)} {clock : Nat} {out : List Pt} (h : Inv l done rest ks clock out) (hd : ∀ k ∈ done, k < N) : out.length ≤ N * N := by
  rw [← allP_length N N]
  refine len_le_of_sub _ _ h.nodup fun p hp => ?_
  obtain ⟨i, k, h1, h2, h3, _, rfl⟩ := (h.mem p).1 hp
  exact mem_allP N i k (hd k h3) N (hd i h2)
/-- What is left to look at. -/
def leftN (ks : List (Int × Nat)) (seen : Array Nat) : Nat := (ks.filter fun p => !seen.contains p.2).length
theorem filter_lt {α : Type} (f g : α → Bool) (h : ∀ a, g a = true → f a = true) : ∀ (l : List α), (∃ a ∈ l, f a = true ∧ g a = false) → (l.filter g).length < (l.filter f).length
  | [], ⟨a, ha, _⟩ => by simp at ha
  | b :: l, ⟨a, ha, h1, h2⟩ => by
    have hle : ∀ m : List α, (m.filter g).length ≤ (m.filter f).length := by
      intro m
      induction m with
      | nil => simp
      | cons c m ih =>
        simp only [List.filter_cons]
        split
        · rename_i hg; rw [if_pos (h c hg)]; simp; omega
        · split
          · simp; omega
          · omega
    simp only [List.mem_cons] at ha
    simp only [List.filter_cons]
    rcases ha with rfl | ha
    · rw [if_neg (by simp [h2]), if_pos h1]
      have := hle l
      simp; omega
    · have ih := filter_lt f g h l ⟨a, ha, h1, h2⟩
      split
      · rename_i hg; rw [if_pos (h b hg)]; simp; omega
      · split
        · simp; omega
        · omega
theorem leftN_look {ks : List (Int × Nat)} {seen : Array Nat} {p : Int × Nat} (hp : p ∈ ks) (hs : p.2 ∉ seen) : leftN ks (seen.push p.2) < leftN ks seen := by
  refine filter_lt _ _ (fun a ha => ?_) ks ⟨p, hp, by simpa using hs, by simp⟩
  simp only [Bool.not_eq_true', Array.contains_eq_mem, decide_eq_false_iff_not, Array.mem_push] at ha ⊢
  exact fun h => ha (.inl h)
theorem leftN_erase {ks : List (Int × Nat)} {seen : Array Nat} (j : Nat) : leftN (ks.eraseIdx j) seen ≤ leftN ks seen := ((List.eraseIdx_sublist ks j).filter _).length_le
end Go.Proofs.YtjccikgdebgebaaGreatDoor.Abs
end
section
set_option linter.unusedSimpArgs false
namespace Go.Proofs.YtjccikgdebgebaaGreatDoor.Abs
open Go
theorem zS_n0 : zS (Rat.num 0) = .bool false := by rw [zS_eq]; rfl
theorem zS_d0 : zS (dz 0) = .bool false := by rw [zS_eq]; rfl
theorem zD_n0 : zD (Rat.num 0) = .ro [] 0 false := by rw [zD_eq, show (Rat.num 0).natAbs = 0 from rfl, digs_zero]; rfl
theorem zD_d0 : zD (dz 0) = .ro [] 0 false := by rw [zD_eq, show (dz 0).natAbs = 0 from rfl, digs_zero]; rfl
def squ : List Pt := [(0, 0), (1, 0), (1, 1), (0, 1)]
theorem okP_squ : okP squ := by
  intro k
  match k with
  | 0 => decide
  | 1 => decide
  | 2 => decide
  | 3 => decide
  | k + 4 => simp [squ]
theorem trn1 : turns (Rat.divInt 2 1) (Rat.divInt (-2) 1) (Rat.divInt 4 1) := ⟨by decide +kernel, by decide +kernel, by decide +kernel⟩
theorem trn2 (e : Rat) : ¬ turns (Rat.divInt 0 1) (Rat.divInt 0 1) e := fun h => absurd h.1 (by decide +kernel)
theorem lo1 : loQ 0 (Rat.divInt 2 1) (Rat.divInt (-2) 1) (Rat.divInt 4 1) = Rat.divInt (-8) 1 := by
  unfold loQ; rw [if_pos trn1]; decide +kernel
theorem hi1 : hiQ 0 (Rat.divInt 2 1) (Rat.divInt (-2) 1) (Rat.divInt 4 1) = Rat.divInt 1 1 := by
  unfold hiQ; rw [if_pos trn1]; decide +kernel
theorem lo2 : loQ 0 (Rat.divInt 0 1) (Rat.divInt 0 1) (Rat.divInt 4 1) = Rat.divInt 0 1 := by
  unfold loQ; rw [if_neg (trn2 _)]; decide +kernel
theorem hi2 : hiQ 0 (Rat.divInt 0 1) (Rat.divInt 0 1) (Rat.divInt 4 1) = Rat.divInt 0 1 := by
  unfold hiQ; rw [if_neg (trn2 _)]; decide +kernel
theorem sq_swept : sweptQ squ 0 0 (Rat.divInt 2 1) (Rat.divInt 0 1) (Rat.divInt (-2) 1) (Rat.divInt 0 1) 4 = ⟨Rat.divInt (-8) 1, Rat.divInt 0 1, Rat.divInt 2 1, Rat.divInt 1 1⟩ := by
  unfold sweptQ
  rw [if_neg (show ¬ (4 : Int) < 0 by decide), lo1, hi1, lo2, hi2]
  rw [show lowZ prX squ (squ.length - 1) = 0 from rfl, show lowZ prY squ (squ.length - 1) = 0 from rfl, show topZ prX squ (squ.length - 1) = 1 from rfl, show topZ prY squ (squ.length - 1) = 1 from rfl]
  rw [show Rat.divInt (-8) 1 + Rat.divInt 0 1 = Rat.divInt (-8) 1 by decide +kernel, show Rat.divInt 0 1 + Rat.divInt 0 1 = Rat.divInt 0 1 by decide +kernel, show Rat.divInt 1 1 + Rat.divInt 1 1 = Rat.divInt 2 1 by decide +kernel, show Rat.divInt 0 1 + Rat.divInt 1 1 = Rat.divInt 1 1 by decide +kernel]
def bB : BoxQ := ⟨Rat.divInt (-8) 1, Rat.divInt 0 1, Rat.divInt 2 1, Rat.divInt 1 1⟩
def bC : BoxQ := ⟨Rat.divInt 2 1, Rat.divInt 1 1, Rat.divInt 3 1, Rat.divInt 3 1⟩
def bD : BoxQ := ⟨Rat.divInt 2 1, Rat.divInt 5 4, Rat.divInt 3 1, Rat.divInt 3 1⟩
theorem meet1 : meetB (Rat.divInt (-8) 1) (Rat.divInt 0 1) (Rat.divInt 2 1) (Rat.divInt 1 1) (Rat.divInt 2 1) (Rat.divInt 1 1) (Rat.divInt 3 1) (Rat.divInt 3 1) = true := by unfold meetB; decide +kernel
theorem meet2 : meetB (Rat.divInt (-8) 1) (Rat.divInt 0 1) (Rat.divInt 2 1) (Rat.divInt 1 1) (Rat.divInt 2 1) (Rat.divInt 5 4) (Rat.divInt 3 1) (Rat.divInt 3 1) = false := by unfold meetB; decide +kernel
theorem near1 : nearN [bB, bD] bC 2 = [0, 1] := by
  have h1 : mt bB bC = true := by unfold mt meetB bB bC; decide +kernel
  have h2 : mt bD bC = true := by unfold mt meetB bD bC; decide +kernel
  show (if mt bD bC = true then (if mt bB bC = true then ([] : List Int) ++ [0] else []) ++ [1] else _) = _
  rw [if_pos h1, if_pos h2]; rfl
theorem rs_small {p q : Int} (hp : p.natAbs < 1000) (hq : q.natAbs < 1000) : RS (Rat.divInt p q) 1 := rs_divInt (by omega) (nd_lit (by simp only [Bn]; omega)) (nd_lit (by simp only [Bn]; omega))
set_option maxRecDepth 100000 in
set_option maxHeartbeats 80000000 in
theorem M_17 [SpC] (hS : SpC.spec 37 [.ro (boxC [bD, bB, bC]) 3 false] = some (.ro (ptC [(0, 2), (1, 2)]) 2 false)) :
    M X 17 [] = some (.bool true) := by
  have v1 := M_56 2 0 ⟨by omega, by omega⟩ ⟨by omega, by omega⟩
  have v2 := M_56 (-2) 0 ⟨by omega, by omega⟩ ⟨by omega, by omega⟩
  have v3 := M_56 2 1 ⟨by omega, by omega⟩ ⟨by omega, by omega⟩
  have v4 := M_56 3 3 ⟨by omega, by omega⟩ ⟨by omega, by omega⟩
  have v5 := M_56 (-8) 0 ⟨by omega, by omega⟩ ⟨by omega, by omega⟩
  have v6 := M_28 5 4 ⟨by omega, by omega⟩ ⟨by omega, by omega⟩
  have r1 : RS (Rat.divInt (-8) 1) 1 := rs_small (by decide) (by decide)
  have r2 : RS (Rat.divInt 0 1) 1 := rs_small (by decide) (by decide)
  have r3 : RS (Rat.divInt 2 1) 1 := rs_small (by decide) (by decide)
  have r4 : RS (Rat.divInt 1 1) 1 := rs_small (by decide) (by decide)
  have r5 : RS (Rat.divInt 3 1) 1 := rs_small (by decide) (by decide)
  have r6 : RS (Rat.divInt 5 4) 1 := rs_small (by decide) (by decide)
  have r7 : RS (Rat.divInt (-2) 1) 1 := rs_small (by decide) (by decide)
  have r8 : RS (0 : Rat) 1 := r2
  have s1 := M_15 (px := 0) (py := 0) (vx := Rat.divInt 2 1) (vy := Rat.divInt 0 1) (ax := Rat.divInt (-2) 1) (ay := Rat.divInt 0 1) squ okP_squ (by decide) 4 ⟨by omega, by omega⟩ (by omega)
  rw [sq_swept] at s1
  simp only [zS_n0, zS_d0, zD_n0, zD_d0, squ, ptC, List.length_cons, List.length_nil] at s1
  have s2 := M_13 (ax := Rat.divInt (-8) 1) (ay := Rat.divInt 0 1) (ax' := Rat.divInt 2 1) (ay' := Rat.divInt 1 1) (bx := Rat.divInt (-8) 1) (by0 := Rat.divInt 0 1) (bx' := Rat.divInt 2 1) (by' := Rat.divInt 1 1) (by omega)
  rw [decide_eq_true ⟨rfl, rfl, rfl, rfl⟩] at s2
  have m1 := M_19 (ax := Rat.divInt (-8) 1) (ay := Rat.divInt 0 1) (ax' := Rat.divInt 2 1) (ay' := Rat.divInt 1 1) (bx := Rat.divInt 2 1) (by0 := Rat.divInt 1 1) (bx' := Rat.divInt 3 1) (by' := Rat.divInt 3 1) (by omega)
  have m2 := M_19 (ax := Rat.divInt (-8) 1) (ay := Rat.divInt 0 1) (ax' := Rat.divInt 2 1) (ay' := Rat.divInt 1 1) (bx := Rat.divInt 2 1) (by0 := Rat.divInt 5 4) (bx' := Rat.divInt 3 1) (by' := Rat.divInt 3 1) (by omega)
  rw [meet1] at m1
  rw [meet2] at m2
  have p1 := M_34 [(0, 2), (1, 2)] [(0, 2), (1, 2)] (by decide) (by decide)
  rw [decide_eq_true rfl] at p1
  have i1 := M_24 [0, 1] [0, 1] (by decide) (by decide)
  rw [decide_eq_true rfl] at i1
  have i2 : M X 24 [isl [0, 1], .ro [.int .i64 0, .int .i64 1] 2 false] = some (.bool true) := i1
  have n1 := M_25 (l := [bB, bD]) (b := bC) (n := 1) (m := 1) (by
    intro b hb
    simp only [List.mem_cons, List.not_mem_nil, or_false] at hb
    rcases hb with rfl | rfl
    · exact ⟨r1, r2, r3, r4⟩
    · exact ⟨r3, r6, r5, r5⟩) (hb := ⟨r3, r4, r5, r5⟩) (by decide) (by omega)
  rw [show ([bB, bD] : List BoxQ).length = 2 from rfl, near1] at n1
  simp only [boxC, bB, bC, bD, List.append_nil, List.cons_append, List.nil_append] at n1 hS
  simp only [ptC, List.length_cons, List.length_nil, Nat.zero_add, Nat.reduceAdd] at p1 hS s1
  replace hS := (M_spec X mode_37 _).trans hS
  generalize Rat.divInt (-8) 1 = e1 at *
  generalize Rat.divInt 0 1 = e2 at *
  generalize Rat.divInt 2 1 = e3 at *
  generalize Rat.divInt 1 1 = e4 at *
  generalize Rat.divInt 3 1 = e5 at *
  generalize Rat.divInt 5 4 = e6 at *
  generalize Rat.divInt (-2) 1 = e7 at *
  refine M_of X (fn := Tryz.f17) Tryz.func17 rfl ok_17 mode_17 res_17 _ rfl _ ?_
  intro r hr
  rw [hr]
  simp (maxSteps := 4000000) (disch := first | omega | (simp only [List.length_set, List.length_replicate, List.length_append, List.length_take, List.length_drop, List.length_cons, List.length_nil]; omega)) only [go_sem, reduceCtorEq, Nat.reduceEqDiff, Nat.reduceAdd, Nat.reduceMul, Nat.reduceSub, ↓Nat.reduceBEq, Nat.reduceLT, Nat.reduceLeDiff, Int.reduceLT, Int.reduceLE, Int.reduceNeg, Int.reduceToNat, M_14, mode_56, mode_28, mode_15, mode_13, mode_19, mode_37, mode_34, mode_25, mode_24, v1, v2, v3, v4, v5, v6, s1, s2, m1, m2, p1, i2, n1, hS, replA_1, replA_2, replA_3, replA_4]
end Go.Proofs.YtjccikgdebgebaaGreatDoor.Abs
end
