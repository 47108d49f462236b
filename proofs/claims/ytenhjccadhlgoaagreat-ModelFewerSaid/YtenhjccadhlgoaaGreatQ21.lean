/-
  gantrylaw15.ModelFewer answers true. No conditions.
-/
import Derived.Test.YtenhjccadhlgoaaGreatQ20
import Derived.Test.YtenhjccadhlgoaaGreatQ10
set_option linter.unusedSimpArgs false
set_option linter.unusedVariables false
set_option maxRecDepth 100000
set_option maxHeartbeats 16000000
namespace Go.Proofs.YtenhjccadhlgoaaGreat.Abs
open Go
theorem M_4 [SpC] (hP : PairsSay) (l k : List Int) (n : Int) (hl : okI l) (hll : l.length < 2 ^ 60) (hk : okI k) (hkl : k.length < 2 ^ 60) (hn : ok64 n) : M X 4 [isl l, isl k, .int .i64 n] = some (.bool true) := by
 refine M_of X (fn := Tryz.f4) Tryz.func4 rfl ok_4 mode_4 res_4 _ rfl _ ?_
 intro r hr
 have hm := M_8 l hl hll
 have G := modelV_gen l
 generalize modelV l = m at *
 have hdl := G.pre.dl
 have hpl := G.pre.pl
 have hs := M_13 m k 1 G.good (by omega) (by omega) (by omega) (by omega) hk hkl
 have gs := good_stateV G k
 have fs := state_fit G k
 have tk : 0 ≤ (stateV m k).tick ∧ (stateV m k).tick ≤ 1048576 := by
  rw [tick_stateV]
  have := atN_bd k 0 9 (by decide)
  omega
 generalize stateV m k = s at *
 have hq := gs.ql
 have hv := gs.vl
 have hh := gs.hl
 have lq := cat_length (f := ratA) s.q
 have lv := cat_length (f := ratA) s.v
 have lh := cat_length (f := boolA) s.here
 simp only [Nat.mul_one] at lh
 have hli := lives_15 hP
 have ar := M_15 n (s.here.length : Int) hn (by omega)
 have ab := arnd_bd n (s.here.length : Int) (by omega)
 generalize arnd n (s.here.length : Int) = z at *
 have hsp := cat_splice (f := boolA) (l := s.here) (i := z.toNat) (o := 0) (a := s.here.getD z.toNat false) (a' := false) (vs := [.bool false]) (getD_some (by omega) false) (by simp) (by simp [splice, boolA_eq])
 simp only [Nat.mul_one, Nat.add_zero] at hsp
 have hbel := below_set s.here z.toNat
 have hhl : (s.here.set z.toNat false).length = m.parts.length := by rw [List.length_set]; exact hh
 have hlen : (s.here.set z.toNat false).length = s.here.length := List.length_set
 generalize s.here.set z.toNat false = here at *
 have lw := M_16 m here s.tick (.ro (cat ratA s.q) s.q.length false) (.ro (cat ratA s.v) s.v.length false) false G.good.live hhl
 have ll := liveV_len m here
 have cl := cat_length (f := boolA) (liveV m here)
 simp only [Nat.mul_one] at cl
 have lhe := cat_length (f := boolA) here
 simp only [Nat.mul_one] at lhe
 let w : List Rat := zerK (liveV m here) s.v m.dofs.length
 have hwl : w.length = m.dofs.length := by show (zerK _ _ _).length = _; rw [zerK_len]; exact hv
 have gt : GoodS m ⟨s.tick, s.q, w, here⟩ 1 := ⟨gs.tick, hq, hwl, hhl, gs.q, zerK_rs _ (by omega) gs.v _⟩
 have ft := M_17 m ⟨s.tick, s.q, w, here⟩ 1 G.good gt (by omega) tk G.same (hP m ⟨s.tick, s.q, w, here⟩ (G.pairs hhl))
 rw [fit_below hbel fs fun i hi hl => zerK_get _ _ _ i hi hl] at ft
 have p1 := M_pairs (hP m ⟨s.tick, s.q, w, here⟩ (G.pairs hhl))
 have p2 := M_pairs (hP m s (G.pairs hh))
 have hle : (pairsV m here).length ≤ (pairsV m s.here).length := (pairsV_sub hbel).length_le
 have pe1 : pairsA m ⟨s.tick, s.q, w, here⟩ = .ro (ptC (pairsV m here)) (pairsV m here).length false := rfl
 have pe2 : pairsA m s = .ro (ptC (pairsV m s.here)) (pairsV m s.here).length false := rfl
 rw [pe1] at p1
 rw [pe2] at p2
 have se : staA ⟨s.tick, s.q, w, here⟩ = [.int .i64 s.tick, .ro (cat ratA s.q) s.q.length false, .ro (cat ratA w) w.length false, .ro (cat boolA here) here.length false] := rfl
 rw [se] at ft p1
 have hwv : zerK (liveV m here) s.v m.dofs.length = w := rfl
 generalize w = w' at *
 clear se pe1 pe2
 have lw2 := cat_length (f := ratA) w'
 have plen : (pairsV m s.here).length < 2 ^ 20 := by
  have := pairsK_len m s.here m.parts.length
  have := Nat.mul_le_mul (show m.parts.length ≤ 1023 by omega) (show m.parts.length ≤ 1023 by omega)
  unfold pairsV; omega
 rw [mdlA_eq] at hm lw ft p1 p2 hs
 rw [staA_eq] at hs p2
 rw [hlen] at lw ft p1
 have hwl2 : w'.length = s.v.length := by omega
 rw [hwl2] at ft p1
 simp (maxSteps := 4000000) (disch := first | omega | (simp only [LL]; omega)) only [go_sem, hm, hs, weaks_cat, weaks_ptC]
 refine copy_step s (by omega) (by omega) (by omega) _ _ _ _ 0 _ 0 (by omega) (.inl ⟨rfl, rfl, rfl⟩) _ ?_
 intro vq vv vh h1 nx1 k1 k2 k3
 obtain ⟨A, B, C, a1, a2, a3, a4, a5, a6, rfl, rfl, rfl, a7, a8, a9⟩ := k3
 have e24 := k2 24 (by omega)
 have e64 := k2 64 (by omega)
 simp (maxSteps := 4000000) (disch := first | omega | (simp only [LL]; omega)) only [go_sem] at e24 e64
 simp (maxSteps := 4000000) (disch := first | omega | (simp only [LL]; omega)) only [go_sem, e24, e64, a7, a8, a9, lq, lv, lh, lhe, ar, hsp, lw, weaks_cat, weaks_ptC, snaps_cat, ll, cl]
 obtain ⟨L, hL⟩ : ∃ L, L = nx1 + 72 + 16 := ⟨_, rfl⟩
 refine W_loop X (fun (i : Nat) t => i ≤ m.dofs.length ∧ t.env 7 = .ptr 24 0 ∧ t.env 8 = .ptr 64 0 ∧ t.env 9 = .ptr 96 0 ∧ t.env 10 = .sl L 0 m.dofs.length none 1 ∧ t.env 11 = .int .i64 i ∧ L < t.next ∧ t.heap 24 = some (.cells (mdlA m) false false) ∧ t.heap 64 = some (.cells (staA s) false false) ∧
   t.heap 96 = some (.cells [.int .i64 s.tick, .sl A 0 s.q.length none 4, .sl B 0 s.v.length none 4, .sl C 0 s.here.length none 1] false false) ∧ t.heap L = some (.cells (cat boolA (liveV m here)) true false) ∧
   t.heap A = some (.cells (cat ratA s.q) true false) ∧ t.heap B = some (.cells (cat ratA (zerK (liveV m here) s.v i)) true false) ∧ t.heap C = some (.cells (cat boolA here) true false)) (fun i => m.dofs.length - i) ?_ 0 _ ?_
 ·clear e24 e64 a7 a8 a9 k2 hm hs hsp ar lw
  rintro i ⟨env, heap, nx⟩ ⟨hi, g7, g8, g9, g10, g11, hnx, e24, e64, e96, eL, eA, eB, eC⟩
  simp only at g7 g8 g9 g10 g11 hnx e24 e64 e96 eL eA eB eC
  rw [mdlA_eq] at e24
  rw [staA_eq] at e64
  have lz : (zerK (liveV m here) s.v i).length = m.dofs.length := by rw [zerK_len]; exact hv
  by_cases hlt : i < m.dofs.length
  ·have hld := cat_drop (f := boolA) (getD_some (l := liveV m here) (i := i) (by omega) false)
   rw [boolA_eq] at hld
   simp only [Nat.mul_one] at hld
   have hsucc : zerK (liveV m here) s.v (i + 1) = if (liveV m here).getD i false = true then zerK (liveV m here) s.v i else (zerK (liveV m here) s.v i).set i 0 := rfl
   generalize (liveV m here).getD i false = b at *
   generalize zerK (liveV m here) s.v i = z at *
   have lzc := cat_length (f := ratA) z
   have hsp := cat_splice (f := ratA) (l := z) (i := i) (o := 0) (a' := 0) (vs := [.bool false, .ro [] 0 false, .bool false, .ro [] 0 false]) (getD_some (by omega) 0) (by simp) (by rw [ratA_eq, q0a, q0b, q0c, q0d]; rfl)
   have lz2 := cat_length (f := ratA) (z.set i 0)
   rw [List.length_set] at lz2
   simp only [Nat.add_zero] at hsp
   cases b with
   | true =>
    simp only [if_true] at hsucc
    simp (maxSteps := 4000000) (disch := first | omega | (simp only [LL]; omega)) only [go_sem, g7, g8, g9, g10, g11, e24, e64, e96, eL, eA, eB, eC, ll, cl, hld]
    refine ⟨i + 1, ?_, by omega⟩
    rw [hsucc]
    repeat' apply And.intro
    all_goals first | omega | rfl | (rw [mdlA_eq]; done) | (rw [staA_eq]; done) | assumption | trace_state
   | false =>
    simp only [Bool.false_eq_true, if_false] at hsucc
    simp (maxSteps := 4000000) (disch := first | omega | (simp only [LL]; omega)) only [go_sem, g7, g8, g9, g10, g11, e24, e64, e96, eL, eA, eB, eC, ll, cl, hld, lzc, lz, hsp]
    refine ⟨i + 1, ?_, by omega⟩
    rw [hsucc]
    repeat' apply And.intro
    all_goals first | omega | rfl | (rw [mdlA_eq]; done) | (rw [staA_eq]; done) | assumption | trace_state
  ·obtain rfl : i = m.dofs.length := by omega
   rw [hwv] at eB
   simp (maxSteps := 4000000) (disch := first | omega | (simp only [LL]; omega)) only [go_sem, g7, g8, g9, g10, g11, e24, e64, e96, eL, eA, eB, eC, ll, cl, lq, lw2, hwl2, lhe, weaks_cat, weaks_ptC, snaps_cat, ft, p1, p2, hli]
   exact ⟨by kernel_rfl, hr.symm⟩
 ·subst hL
  simp (maxSteps := 4000000) (disch := first | omega | (simp only [LL]; omega)) only [go_sem, e24, e64, a7, a8, a9]
  repeat' apply And.intro
  all_goals first | omega | rfl | (rw [mdlA_eq]; done) | (rw [staA_eq]; done) | assumption | trace_state
end Go.Proofs.YtenhjccadhlgoaaGreat.Abs
